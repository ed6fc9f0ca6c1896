/- Printed by gen.py: what each function comes to, as a Lean function; Lean checks it. -/
import Derived.Test.YtgghmllnhaahgaaDoorPeIter
import Derived.Test.YtgghmllnhaahgaaDoorProg
import Derived.Test.YtgghmllnhaahgaaDoorPeGiTryd
import Derived.Test.YtgghmllnhaahgaaDoorPeLib2Tryd
set_option linter.unusedSectionVars false
set_option linter.unusedVariables false
set_option linter.unusedSimpArgs false
namespace Go.Pe.Tryd
open Go.Proofs Go.RowKit
set_option maxRecDepth 100000
noncomputable section
theorem mixed : Tryd.prog.follows .mixedOrders = true := by kernel_rfl
@[reducible] noncomputable def f16_ps : List KD := [.agg [(.int .i64), (.int .i64), .str, (.list .value), (.list .str)], .one (.int .i64)]
@[reducible] noncomputable def f16_rs : List KD := [.one (.int .i64)]
@[reducible] noncomputable def f16_c : Code := codeOf Tryd.f16
@[reducible] noncomputable def f16_E (G : argsDen f16_ps → Option (argsDen f16_rs)) (hG : Sound Tryd.prog 16 (pfun G)) : Env := envOf Tryd.prog 25 [rowOf true hG] []
theorem f16_E_okE (G : argsDen f16_ps → Option (argsDen f16_rs)) (hG : Sound Tryd.prog 16 (pfun G)) : EnvOk Tryd.prog (f16_E G hG) := envOf_ok _ _ _ mixed
/-! ### imprimatur/imprimaturref11.Count -/
@[reducible] noncomputable def f16_p0_sh : Shape := ⟨[.dead, .hole (.int .i64), .dead, .dead, .dead, .hole (.int .i64), .dead, .dead, .dead, .hole (.list .value), .hole (.int .i64), .hole (.int .i64), .dead, .dead, .dead, .dead, .dead, .dead, .dead, .dead, .dead, .dead, .dead, .dead, .dead, .dead, .dead, .dead], [none], []⟩
@[reducible] noncomputable def f16_p0_o0 : Shape := ⟨[.dead, .dead, .dead, .dead, .dead, .hole (.int .i64), .dead, .dead, .dead, .dead, .dead, .dead, .dead, .dead, .dead, .dead, .dead, .dead, .dead, .dead, .dead, .dead, .dead, .dead, .dead, .dead, .dead, .dead], [], []⟩
@[reducible] noncomputable def f16_p0_o1 : Shape := ⟨[.dead, .dead, .dead, .dead, .hole (.int .i64), .dead, .dead, .dead, .dead, .dead, .dead, .dead, .dead, .dead, .dead, .dead, .dead, .dead, .dead, .dead, .dead, .dead, .dead, .dead, .dead, .dead, .dead, .dead], [], []⟩
@[reducible] noncomputable def f16_p0_outs : List (Ex × Shape) := [(.exit 0, f16_p0_o0), (.ret, f16_p0_o1)]
@[reducible] noncomputable def f16_p0_a (G : argsDen f16_ps → Option (argsDen f16_rs)) (hG : Sound Tryd.prog 16 (pfun G)) : Ann Tryd.prog 0 true (f16_c.cr.cr.cl.cr.cb.cb) := (.leaf _)
noncomputable def f16_p0_st (G : argsDen f16_ps → Option (argsDen f16_rs)) (hG : Sound Tryd.prog 16 (pfun G)) (rec : f16_p0_sh.den → Option (OutDen f16_p0_outs)) (y : f16_p0_sh.den) : Option (OutDen f16_p0_outs) := evA (f16_E G hG) (f16_p0_a G hG) (fill f16_p0_sh y) fun ex st => match ex with | .normal => (abs f16_p0_sh st).bind rec | e => packOut f16_p0_outs e st
theorem f16_p0_ok (G : argsDen f16_ps → Option (argsDen f16_rs)) (hG : Sound Tryd.prog 16 (pfun G)) : PieceSound Tryd.prog 0 true (.loop (f16_c.cr.cr.cl.cr.cb.cb)) f16_p0_sh f16_p0_outs (go (f16_p0_st G hG)) := go_of (f16_E_okE G hG) (f16_p0_a G hG) rfl rfl fun _ _ => rfl
@[reducible] noncomputable def f16_a (G : argsDen f16_ps → Option (argsDen f16_rs)) (hG : Sound Tryd.prog 16 (pfun G)) : Ann Tryd.prog 0 true f16_c := (.seq (.leaf _) (.seq (.leaf _) (.seq (.seq (.leaf _) (.block (.piece _ _ _ (f16_p0_ok G hG)))) (.leaf _))))
noncomputable def f16_b (G : argsDen f16_ps → Option (argsDen f16_rs)) (hG : Sound Tryd.prog 16 (pfun G)) (y : argsDen f16_ps) : Option (argsDen f16_rs) := evFunA (f16_E G hG) Tryd.f16 (f16_a G hG) (encArgs f16_ps y) (decRes f16_rs)
theorem f16_bok (G : argsDen f16_ps → Option (argsDen f16_rs)) (hG : Sound Tryd.prog 16 (pfun G)) : Sound Tryd.prog 16 (pfun (f16_b G hG)) := sound_of (c := f16_c) (f16_E_okE G hG) (by kernel_rfl) (by kernel_rfl) (by kernel_rfl) (f16_a G hG) (fun _ => rfl)
theorem f16_has : ∃ fn, Tryd.prog.funcs[16]? = some fn ∧ (fn.name == "runtime.NumGoroutine") = false ∧ fn.body.isSome = true := ⟨Tryd.f16, by kernel_rfl, by kernel_rfl, by kernel_rfl⟩
noncomputable def f16_S : (n : Nat) → {F : argsDen f16_ps → Option (argsDen f16_rs) // Sound Tryd.prog 16 (pfun F)} := recF f16_has fun F h => ⟨f16_b F h, f16_bok F h⟩
noncomputable def f16_F : argsDen f16_ps → Option (argsDen f16_rs) := (f16_S recN).1
theorem f16_ok : Sound Tryd.prog 16 (pfun f16_F) := (f16_S recN).2
@[reducible] noncomputable def f12_c : Code := codeOf Tryd.f12
@[reducible] noncomputable def f12_E : Env := envOf Tryd.prog 25 [rowOf true f16_ok] []
theorem f12_E_okE : EnvOk Tryd.prog f12_E := envOf_ok _ _ _ mixed
/-! ### imprimatur/imprimaturlaw11.big -/
@[reducible] noncomputable def f12_ps : List KD := [.agg [(.int .i64), (.int .i64), .str, (.list .value), (.list .str)]]
@[reducible] noncomputable def f12_rs : List KD := [.one .bool]
@[reducible] noncomputable def f12_a : Ann Tryd.prog 0 true f12_c := (.leaf _)
noncomputable def f12_F (y : argsDen f12_ps) : Option (argsDen f12_rs) := evFunA f12_E Tryd.f12 f12_a (encArgs f12_ps y) (decRes f12_rs)
theorem f12_ok : Sound Tryd.prog 12 (pfun f12_F) := sound_of (c := f12_c) (f12_E_okE) (by kernel_rfl) (by kernel_rfl) (by kernel_rfl) f12_a (fun _ => rfl)
@[reducible] noncomputable def f23_c : Code := codeOf Tryd.f23
@[reducible] noncomputable def f23_E : Env := envOf Tryd.prog 25 [] []
theorem f23_E_okE : EnvOk Tryd.prog f23_E := envOf_ok _ _ _ mixed
/-! ### imprimatur/value.Number -/
@[reducible] noncomputable def f23_ps : List KD := [.one (.int .i64)]
@[reducible] noncomputable def f23_rs : List KD := [.agg [(.int .i64), (.int .i64), .str, (.list .value), (.list .str)]]
@[reducible] noncomputable def f23_a : Ann Tryd.prog 0 true f23_c := (.leaf _)
noncomputable def f23_F (y : argsDen f23_ps) : Option (argsDen f23_rs) := evFunA f23_E Tryd.f23 f23_a (encArgs f23_ps y) (decRes f23_rs)
theorem f23_ok : Sound Tryd.prog 23 (pfun f23_F) := sound_of (c := f23_c) (f23_E_okE) (by kernel_rfl) (by kernel_rfl) (by kernel_rfl) f23_a (fun _ => rfl)
@[reducible] noncomputable def f22_c : Code := codeOf Tryd.f22
@[reducible] noncomputable def f22_E : Env := envOf Tryd.prog 25 [] []
theorem f22_E_okE : EnvOk Tryd.prog f22_E := envOf_ok _ _ _ mixed
/-! ### imprimatur/value.Text -/
@[reducible] noncomputable def f22_ps : List KD := [.one .str]
@[reducible] noncomputable def f22_rs : List KD := [.agg [(.int .i64), (.int .i64), .str, (.list .value), (.list .str)]]
@[reducible] noncomputable def f22_a : Ann Tryd.prog 0 true f22_c := (.leaf _)
noncomputable def f22_F (y : argsDen f22_ps) : Option (argsDen f22_rs) := evFunA f22_E Tryd.f22 f22_a (encArgs f22_ps y) (decRes f22_rs)
theorem f22_ok : Sound Tryd.prog 22 (pfun f22_F) := sound_of (c := f22_c) (f22_E_okE) (by kernel_rfl) (by kernel_rfl) (by kernel_rfl) f22_a (fun _ => rfl)
@[reducible] noncomputable def f28_c : Code := codeOf Tryd.f28
@[reducible] noncomputable def f28_E : Env := envOf Tryd.prog 25 [] []
theorem f28_E_okE : EnvOk Tryd.prog f28_E := envOf_ok _ _ _ mixed
/-! ### imprimatur/value.List -/
@[reducible] noncomputable def f28_ps : List KD := [.one (.list .value)]
@[reducible] noncomputable def f28_rs : List KD := [.agg [(.int .i64), (.int .i64), .str, (.list .value), (.list .str)]]
@[reducible] noncomputable def f28_a : Ann Tryd.prog 0 true f28_c := (.leaf _)
noncomputable def f28_F (y : argsDen f28_ps) : Option (argsDen f28_rs) := evFunA f28_E Tryd.f28 f28_a (encArgs f28_ps y) (decRes f28_rs)
theorem f28_ok : Sound Tryd.prog 28 (pfun f28_F) := sound_of (c := f28_c) (f28_E_okE) (by kernel_rfl) (by kernel_rfl) (by kernel_rfl) f28_a (fun _ => rfl)
@[reducible] noncomputable def f17_ps : List KD := [.agg [(.int .i64), (.int .i64), .str, (.list .value), (.list .str)]]
@[reducible] noncomputable def f17_rs : List KD := [.one (.int .i64)]
@[reducible] noncomputable def f17_c : Code := codeOf Tryd.f17
@[reducible] noncomputable def f17_E (G : argsDen f17_ps → Option (argsDen f17_rs)) (hG : Sound Tryd.prog 17 (pfun G)) : Env := envOf Tryd.prog 25 [rowOf true hG] []
theorem f17_E_okE (G : argsDen f17_ps → Option (argsDen f17_rs)) (hG : Sound Tryd.prog 17 (pfun G)) : EnvOk Tryd.prog (f17_E G hG) := envOf_ok _ _ _ mixed
/-! ### imprimatur/value.Depth -/
@[reducible] noncomputable def f17_p0_sh : Shape := ⟨[.dead, .dead, .dead, .hole (.int .i64), .dead, .dead, .dead, .hole (.list .value), .hole (.int .i64), .hole (.int .i64), .dead, .dead, .dead, .dead, .dead, .dead, .dead, .dead, .dead, .dead], [none], []⟩
@[reducible] noncomputable def f17_p0_o0 : Shape := ⟨[.dead, .dead, .dead, .hole (.int .i64), .dead, .dead, .dead, .dead, .dead, .dead, .dead, .dead, .dead, .dead, .dead, .dead, .dead, .dead, .dead, .dead], [], []⟩
@[reducible] noncomputable def f17_p0_outs : List (Ex × Shape) := [(.exit 0, f17_p0_o0)]
@[reducible] noncomputable def f17_p0_a (G : argsDen f17_ps → Option (argsDen f17_rs)) (hG : Sound Tryd.prog 17 (pfun G)) : Ann Tryd.prog 0 true (f17_c.cr.cr.cl.cr.cb.cb) := (.leaf _)
noncomputable def f17_p0_st (G : argsDen f17_ps → Option (argsDen f17_rs)) (hG : Sound Tryd.prog 17 (pfun G)) (rec : f17_p0_sh.den → Option (OutDen f17_p0_outs)) (y : f17_p0_sh.den) : Option (OutDen f17_p0_outs) := evA (f17_E G hG) (f17_p0_a G hG) (fill f17_p0_sh y) fun ex st => match ex with | .normal => (abs f17_p0_sh st).bind rec | e => packOut f17_p0_outs e st
theorem f17_p0_ok (G : argsDen f17_ps → Option (argsDen f17_rs)) (hG : Sound Tryd.prog 17 (pfun G)) : PieceSound Tryd.prog 0 true (.loop (f17_c.cr.cr.cl.cr.cb.cb)) f17_p0_sh f17_p0_outs (go (f17_p0_st G hG)) := go_of (f17_E_okE G hG) (f17_p0_a G hG) rfl rfl fun _ _ => rfl
@[reducible] noncomputable def f17_a (G : argsDen f17_ps → Option (argsDen f17_rs)) (hG : Sound Tryd.prog 17 (pfun G)) : Ann Tryd.prog 0 true f17_c := (.seq (.leaf _) (.seq (.leaf _) (.seq (.seq (.leaf _) (.block (.piece _ _ _ (f17_p0_ok G hG)))) (.leaf _))))
noncomputable def f17_b (G : argsDen f17_ps → Option (argsDen f17_rs)) (hG : Sound Tryd.prog 17 (pfun G)) (y : argsDen f17_ps) : Option (argsDen f17_rs) := evFunA (f17_E G hG) Tryd.f17 (f17_a G hG) (encArgs f17_ps y) (decRes f17_rs)
theorem f17_bok (G : argsDen f17_ps → Option (argsDen f17_rs)) (hG : Sound Tryd.prog 17 (pfun G)) : Sound Tryd.prog 17 (pfun (f17_b G hG)) := sound_of (c := f17_c) (f17_E_okE G hG) (by kernel_rfl) (by kernel_rfl) (by kernel_rfl) (f17_a G hG) (fun _ => rfl)
theorem f17_has : ∃ fn, Tryd.prog.funcs[17]? = some fn ∧ (fn.name == "runtime.NumGoroutine") = false ∧ fn.body.isSome = true := ⟨Tryd.f17, by kernel_rfl, by kernel_rfl, by kernel_rfl⟩
noncomputable def f17_S : (n : Nat) → {F : argsDen f17_ps → Option (argsDen f17_rs) // Sound Tryd.prog 17 (pfun F)} := recF f17_has fun F h => ⟨f17_b F h, f17_bok F h⟩
noncomputable def f17_F : argsDen f17_ps → Option (argsDen f17_rs) := (f17_S recN).1
theorem f17_ok : Sound Tryd.prog 17 (pfun f17_F) := (f17_S recN).2
@[reducible] noncomputable def f15_ps : List KD := [.agg [(.int .i64), (.int .i64), .str, (.list .value), (.list .str)]]
@[reducible] noncomputable def f15_rs : List KD := [.one (.int .i64)]
@[reducible] noncomputable def f15_c : Code := codeOf Tryd.f15
@[reducible] noncomputable def f15_E (G : argsDen f15_ps → Option (argsDen f15_rs)) (hG : Sound Tryd.prog 15 (pfun G)) : Env := envOf Tryd.prog 25 [rowOf true hG] []
theorem f15_E_okE (G : argsDen f15_ps → Option (argsDen f15_rs)) (hG : Sound Tryd.prog 15 (pfun G)) : EnvOk Tryd.prog (f15_E G hG) := envOf_ok _ _ _ mixed
/-! ### imprimatur/value.Count -/
@[reducible] noncomputable def f15_p0_sh : Shape := ⟨[.dead, .dead, .dead, .hole (.int .i64), .dead, .dead, .dead, .hole (.list .value), .hole (.int .i64), .hole (.int .i64), .dead, .dead, .dead, .dead, .dead, .dead, .dead, .dead, .dead], [none], []⟩
@[reducible] noncomputable def f15_p0_o0 : Shape := ⟨[.dead, .dead, .dead, .hole (.int .i64), .dead, .dead, .dead, .dead, .dead, .dead, .dead, .dead, .dead, .dead, .dead, .dead, .dead, .dead, .dead], [], []⟩
@[reducible] noncomputable def f15_p0_outs : List (Ex × Shape) := [(.exit 0, f15_p0_o0)]
@[reducible] noncomputable def f15_p0_a (G : argsDen f15_ps → Option (argsDen f15_rs)) (hG : Sound Tryd.prog 15 (pfun G)) : Ann Tryd.prog 0 true (f15_c.cr.cr.cl.cr.cb.cb) := (.leaf _)
noncomputable def f15_p0_st (G : argsDen f15_ps → Option (argsDen f15_rs)) (hG : Sound Tryd.prog 15 (pfun G)) (rec : f15_p0_sh.den → Option (OutDen f15_p0_outs)) (y : f15_p0_sh.den) : Option (OutDen f15_p0_outs) := evA (f15_E G hG) (f15_p0_a G hG) (fill f15_p0_sh y) fun ex st => match ex with | .normal => (abs f15_p0_sh st).bind rec | e => packOut f15_p0_outs e st
theorem f15_p0_ok (G : argsDen f15_ps → Option (argsDen f15_rs)) (hG : Sound Tryd.prog 15 (pfun G)) : PieceSound Tryd.prog 0 true (.loop (f15_c.cr.cr.cl.cr.cb.cb)) f15_p0_sh f15_p0_outs (go (f15_p0_st G hG)) := go_of (f15_E_okE G hG) (f15_p0_a G hG) rfl rfl fun _ _ => rfl
@[reducible] noncomputable def f15_a (G : argsDen f15_ps → Option (argsDen f15_rs)) (hG : Sound Tryd.prog 15 (pfun G)) : Ann Tryd.prog 0 true f15_c := (.seq (.leaf _) (.seq (.leaf _) (.seq (.seq (.leaf _) (.block (.piece _ _ _ (f15_p0_ok G hG)))) (.leaf _))))
noncomputable def f15_b (G : argsDen f15_ps → Option (argsDen f15_rs)) (hG : Sound Tryd.prog 15 (pfun G)) (y : argsDen f15_ps) : Option (argsDen f15_rs) := evFunA (f15_E G hG) Tryd.f15 (f15_a G hG) (encArgs f15_ps y) (decRes f15_rs)
theorem f15_bok (G : argsDen f15_ps → Option (argsDen f15_rs)) (hG : Sound Tryd.prog 15 (pfun G)) : Sound Tryd.prog 15 (pfun (f15_b G hG)) := sound_of (c := f15_c) (f15_E_okE G hG) (by kernel_rfl) (by kernel_rfl) (by kernel_rfl) (f15_a G hG) (fun _ => rfl)
theorem f15_has : ∃ fn, Tryd.prog.funcs[15]? = some fn ∧ (fn.name == "runtime.NumGoroutine") = false ∧ fn.body.isSome = true := ⟨Tryd.f15, by kernel_rfl, by kernel_rfl, by kernel_rfl⟩
noncomputable def f15_S : (n : Nat) → {F : argsDen f15_ps → Option (argsDen f15_rs) // Sound Tryd.prog 15 (pfun F)} := recF f15_has fun F h => ⟨f15_b F h, f15_bok F h⟩
noncomputable def f15_F : argsDen f15_ps → Option (argsDen f15_rs) := (f15_S recN).1
theorem f15_ok : Sound Tryd.prog 15 (pfun f15_F) := (f15_S recN).2
@[reducible] noncomputable def f75_c : Code := codeOf Tryd.f75
@[reducible] noncomputable def f75_E : Env := envOf Tryd.prog 25 [] []
theorem f75_E_okE : EnvOk Tryd.prog f75_E := envOf_ok _ _ _ mixed
/-! ### imprimatur/value.text$1 -/
@[reducible] noncomputable def f75_ps : List KD := [.one (.int .u8)]
@[reducible] noncomputable def f75_rs : List KD := [.one .bool]
@[reducible] noncomputable def f75_a : Ann Tryd.prog 0 true f75_c := (.leaf _)
noncomputable def f75_F (y : argsDen f75_ps) : Option (argsDen f75_rs) := evFunA f75_E Tryd.f75 f75_a (encArgs f75_ps y) (decRes f75_rs)
theorem f75_ok : Sound Tryd.prog 75 (pfun f75_F) := sound_of (c := f75_c) (f75_E_okE) (by kernel_rfl) (by kernel_rfl) (by kernel_rfl) f75_a (fun _ => rfl)
@[reducible] noncomputable def f99_c : Code := codeOf Tryd.f99
@[reducible] noncomputable def h99_E : Env := envOf Tryd.prog 25 [rowOf true f75_ok] []
theorem h99_E_okE : EnvOk Tryd.prog h99_E := envOf_ok _ _ _ mixed
/-! ### slices.IndexFunc[[]byte,byte] -/
@[reducible] noncomputable def h99_p0_sh : Shape := ⟨[.hole (.list (.int .u8)), .fn (.func 75) [] [], .dead, .dead, .dead, .dead, .dead, .hole (.int .i64), .hole (.int .i64), .dead, .dead, .dead, .dead, .dead, .dead, .dead, .dead, .dead, .dead], [], []⟩
@[reducible] noncomputable def h99_p0_o0 : Shape := ⟨[.dead, .dead, .dead, .dead, .dead, .dead, .dead, .dead, .dead, .dead, .dead, .dead, .dead, .dead, .dead, .dead, .dead, .dead, .dead], [], []⟩
@[reducible] noncomputable def h99_p0_o1 : Shape := ⟨[.dead, .dead, .dead, .dead, .hole (.int .i64), .dead, .dead, .dead, .dead, .dead, .dead, .dead, .dead, .dead, .dead, .dead, .dead, .dead, .dead], [], []⟩
@[reducible] noncomputable def h99_p0_outs : List (Ex × Shape) := [(.exit 0, h99_p0_o0), (.ret, h99_p0_o1)]
@[reducible] noncomputable def h99_p0_a : Ann Tryd.prog 0 true (f99_c.cr.cl.cr.cb.cb) := (.leaf _)
noncomputable def h99_p0_st (rec : h99_p0_sh.den → Option (OutDen h99_p0_outs)) (y : h99_p0_sh.den) : Option (OutDen h99_p0_outs) := evA h99_E h99_p0_a (fill h99_p0_sh y) fun ex st => match ex with | .normal => (abs h99_p0_sh st).bind rec | e => packOut h99_p0_outs e st
theorem h99_p0_ok : PieceSound Tryd.prog 0 true (.loop (f99_c.cr.cl.cr.cb.cb)) h99_p0_sh h99_p0_outs (go h99_p0_st) := go_of (h99_E_okE) h99_p0_a rfl rfl fun _ _ => rfl
@[reducible] noncomputable def h99_I : Shape := ⟨[.hole (.list (.int .u8)), .fn (.func 75) [] []], [], []⟩
@[reducible] noncomputable def h99_O : Shape := ⟨[.hole (.int .i64)], [], []⟩
@[reducible] noncomputable def h99_a : Ann Tryd.prog 0 true f99_c := (.seq (.leaf _) (.seq (.seq (.leaf _) (.block (.piece _ _ _ h99_p0_ok))) (.leaf _)))
noncomputable def h99_F (y : h99_I.den) : Option h99_O.den := evFunH h99_E Tryd.f99 h99_a h99_I h99_O y
theorem h99_ok : SoundH Tryd.prog 99 ⟨h99_I, h99_O, h99_F⟩ := sound_ofH (I := h99_I) (O := h99_O) (c := f99_c) (h99_E_okE) (by kernel_rfl) (by kernel_rfl) (by kernel_rfl) h99_a rfl (fun _ => rfl)
@[reducible] noncomputable def f74_c : Code := codeOf Tryd.f74
@[reducible] noncomputable def h74_E : Env := envOf Tryd.prog 25 [] [⟨99, _, h99_ok⟩]
theorem h74_E_okE : EnvOk Tryd.prog h74_E := envOf_ok _ _ _ mixed
/-! ### slices.ContainsFunc[[]byte,byte] -/
@[reducible] noncomputable def h74_I : Shape := ⟨[.hole (.list (.int .u8)), .fn (.func 75) [] []], [], []⟩
@[reducible] noncomputable def h74_O : Shape := ⟨[.hole .bool], [], []⟩
@[reducible] noncomputable def h74_a : Ann Tryd.prog 0 true f74_c := (.leaf _)
noncomputable def h74_F (y : h74_I.den) : Option h74_O.den := evFunH h74_E Tryd.f74 h74_a h74_I h74_O y
theorem h74_ok : SoundH Tryd.prog 74 ⟨h74_I, h74_O, h74_F⟩ := sound_ofH (I := h74_I) (O := h74_O) (c := f74_c) (h74_E_okE) (by kernel_rfl) (by kernel_rfl) (by kernel_rfl) h74_a rfl (fun _ => rfl)
@[reducible] noncomputable def f57_c : Code := codeOf Tryd.f57
@[reducible] noncomputable def f57_E : Env := envOf Tryd.prog 25 [] [⟨74, _, h74_ok⟩]
theorem f57_E_okE : EnvOk Tryd.prog f57_E := envOf_ok _ _ _ mixed
/-! ### imprimatur/value.text -/
@[reducible] noncomputable def f57_ps : List KD := [.one .str]
@[reducible] noncomputable def f57_rs : List KD := [.one .bool]
@[reducible] noncomputable def f57_a : Ann Tryd.prog 0 true f57_c := (.leaf _)
noncomputable def f57_F (y : argsDen f57_ps) : Option (argsDen f57_rs) := evFunA f57_E Tryd.f57 f57_a (encArgs f57_ps y) (decRes f57_rs)
theorem f57_ok : Sound Tryd.prog 57 (pfun f57_F) := sound_of (c := f57_c) (f57_E_okE) (by kernel_rfl) (by kernel_rfl) (by kernel_rfl) f57_a (fun _ => rfl)
@[reducible] noncomputable def f58_c : Code := codeOf Tryd.f58
@[reducible] noncomputable def f58_E : Env := envOf Tryd.prog 25 [rowOf true f57_ok] []
theorem f58_E_okE : EnvOk Tryd.prog f58_E := envOf_ok _ _ _ mixed
/-! ### imprimatur/value.keys -/
@[reducible] noncomputable def f58_p0_sh : Shape := ⟨[.hole (.list .str), .dead, .dead, .hole (.int .i64), .hole .str, .hole (.list .str), .hole (.int .i64), .hole (.int .i64), .dead, .dead, .dead, .dead, .dead, .dead, .dead, .dead, .dead, .dead, .dead, .dead, .dead, .dead, .dead, .dead, .dead, .dead, .dead, .dead, .dead], [], []⟩
@[reducible] noncomputable def f58_p0_o0 : Shape := ⟨[.hole (.list .str), .dead, .dead, .dead, .dead, .hole (.list .str), .hole (.int .i64), .hole (.int .i64), .dead, .dead, .dead, .dead, .dead, .dead, .dead, .dead, .dead, .dead, .dead, .dead, .dead, .dead, .dead, .dead, .dead, .dead, .dead, .hole .bool, .dead], [], []⟩
@[reducible] noncomputable def f58_p0_outs : List (Ex × Shape) := [(.normal, f58_p0_o0)]
@[reducible] noncomputable def f58_p0_a : Ann Tryd.prog 0 true (f58_c.cr.cl.cr.cb.cb.cr.cr.cl.cb.cr.cl) := (.leaf _)
noncomputable def f58_p0_F (y : f58_p0_sh.den) : Option (OutDen f58_p0_outs) := evA f58_E f58_p0_a (fill f58_p0_sh y) (packOut f58_p0_outs)
theorem f58_p0_ok : PieceSound Tryd.prog 0 true (f58_c.cr.cl.cr.cb.cb.cr.cr.cl.cb.cr.cl) f58_p0_sh f58_p0_outs f58_p0_F := piece_of (f58_E_okE) f58_p0_a rfl rfl fun _ => rfl
@[reducible] noncomputable def f58_p1_sh : Shape := ⟨[.hole (.list .str), .dead, .dead, .dead, .dead, .hole (.list .str), .hole (.int .i64), .hole (.int .i64), .dead, .dead, .dead, .dead, .dead, .dead, .dead, .dead, .dead, .dead, .dead, .dead, .dead, .dead, .dead, .dead, .dead, .dead, .dead, .dead, .dead], [], []⟩
@[reducible] noncomputable def f58_p1_o0 : Shape := ⟨[.dead, .dead, .dead, .dead, .dead, .dead, .dead, .dead, .dead, .dead, .dead, .dead, .dead, .dead, .dead, .dead, .dead, .dead, .dead, .dead, .dead, .dead, .dead, .dead, .dead, .dead, .dead, .dead, .dead], [], []⟩
@[reducible] noncomputable def f58_p1_o1 : Shape := ⟨[.dead, .dead, .hole .bool, .dead, .dead, .dead, .dead, .dead, .dead, .dead, .dead, .dead, .dead, .dead, .dead, .dead, .dead, .dead, .dead, .dead, .dead, .dead, .dead, .dead, .dead, .dead, .dead, .dead, .dead], [], []⟩
@[reducible] noncomputable def f58_p1_outs : List (Ex × Shape) := [(.exit 0, f58_p1_o0), (.ret, f58_p1_o1)]
@[reducible] noncomputable def f58_p1_a : Ann Tryd.prog 0 true (f58_c.cr.cl.cr.cb.cb) := (.seq (.leaf _) (.seq (.leaf _) (.seq (.block (.seq (.leaf _) (.seq (.piece _ _ _ f58_p0_ok) (.leaf _)))) (.leaf _))))
noncomputable def f58_p1_st (rec : f58_p1_sh.den → Option (OutDen f58_p1_outs)) (y : f58_p1_sh.den) : Option (OutDen f58_p1_outs) := evA f58_E f58_p1_a (fill f58_p1_sh y) fun ex st => match ex with | .normal => (abs f58_p1_sh st).bind rec | e => packOut f58_p1_outs e st
theorem f58_p1_ok : PieceSound Tryd.prog 0 true (.loop (f58_c.cr.cl.cr.cb.cb)) f58_p1_sh f58_p1_outs (go f58_p1_st) := go_of (f58_E_okE) f58_p1_a rfl rfl fun _ _ => rfl
@[reducible] noncomputable def f58_ps : List KD := [.one (.list .str)]
@[reducible] noncomputable def f58_rs : List KD := [.one .bool]
@[reducible] noncomputable def f58_a : Ann Tryd.prog 0 true f58_c := (.seq (.leaf _) (.seq (.seq (.leaf _) (.block (.piece _ _ _ f58_p1_ok))) (.leaf _)))
noncomputable def f58_F (y : argsDen f58_ps) : Option (argsDen f58_rs) := evFunA f58_E Tryd.f58 f58_a (encArgs f58_ps y) (decRes f58_rs)
theorem f58_ok : Sound Tryd.prog 58 (pfun f58_F) := sound_of (c := f58_c) (f58_E_okE) (by kernel_rfl) (by kernel_rfl) (by kernel_rfl) f58_a (fun _ => rfl)
@[reducible] noncomputable def f37_c : Code := codeOf Tryd.f37
@[reducible] noncomputable def f37_E : Env := envOf Tryd.prog 25 [rowOf true f57_ok, rowOf true f58_ok] []
theorem f37_E_okE : EnvOk Tryd.prog f37_E := envOf_ok _ _ _ mixed
/-! ### imprimatur/value.may -/
@[reducible] noncomputable def f37_p0_sh : Shape := ⟨[.dead, .ptr 0 0, .dead, .dead, .dead, .dead, .dead, .dead, .dead, .dead, .dead, .dead, .dead, .dead, .dead, .dead, .dead, .dead, .dead, .dead, .dead, .dead, .dead, .dead, .dead, .dead, .dead, .dead, .dead, .dead, .dead, .dead, .dead, .dead, .dead, .dead, .dead, .dead, .dead, .dead, .dead, .dead, .dead, .dead, .dead, .dead, .dead, .dead, .dead, .dead, .dead, .dead, .dead, .dead, .dead, .dead, .dead, .dead, .dead, .dead, .dead, .dead, .dead, .hole .bool, .dead, .dead, .dead, .dead, .dead, .dead, .dead, .dead, .dead, .dead, .dead, .dead, .dead, .dead, .dead, .dead, .dead, .dead, .dead, .dead, .dead, .dead, .dead], [some [.hole (.int .i64), .hole (.int .i64), .hole .str, .hole (.list .value), .hole (.list .str)]], []⟩
@[reducible] noncomputable def f37_p0_o0 : Shape := ⟨[.dead, .dead, .hole .bool, .dead, .dead, .dead, .dead, .dead, .dead, .dead, .dead, .dead, .dead, .dead, .dead, .dead, .dead, .dead, .dead, .dead, .dead, .dead, .dead, .dead, .dead, .dead, .dead, .dead, .dead, .dead, .dead, .dead, .dead, .dead, .dead, .dead, .dead, .dead, .dead, .dead, .dead, .dead, .dead, .dead, .dead, .dead, .dead, .dead, .dead, .dead, .dead, .dead, .dead, .dead, .dead, .dead, .dead, .dead, .dead, .dead, .dead, .dead, .dead, .dead, .dead, .dead, .dead, .dead, .dead, .dead, .dead, .dead, .dead, .dead, .dead, .dead, .dead, .dead, .dead, .dead, .dead, .dead, .dead, .dead, .dead, .dead, .dead], [], []⟩
@[reducible] noncomputable def f37_p0_o1 : Shape := ⟨[.dead, .dead, .dead, .dead, .dead, .dead, .dead, .dead, .dead, .dead, .dead, .dead, .dead, .dead, .dead, .dead, .dead, .dead, .dead, .dead, .dead, .dead, .dead, .dead, .dead, .dead, .dead, .dead, .dead, .dead, .dead, .dead, .dead, .dead, .dead, .dead, .dead, .dead, .dead, .dead, .dead, .dead, .dead, .dead, .dead, .dead, .dead, .dead, .dead, .dead, .dead, .dead, .dead, .dead, .dead, .dead, .dead, .dead, .dead, .dead, .dead, .dead, .dead, .dead, .dead, .dead, .dead, .dead, .dead, .dead, .dead, .dead, .dead, .dead, .dead, .dead, .dead, .dead, .dead, .dead, .dead, .dead, .dead, .dead, .dead, .dead, .dead], [], []⟩
@[reducible] noncomputable def f37_p0_outs : List (Ex × Shape) := [(.ret, f37_p0_o0), (.normal, f37_p0_o1)]
@[reducible] noncomputable def f37_p0_a : Ann Tryd.prog 0 true (f37_c.cr.cr.cl.cr.cb.cr.ce.cr.ce.cr.ce.cr) := (.leaf _)
noncomputable def f37_p0_F (y : f37_p0_sh.den) : Option (OutDen f37_p0_outs) := evA f37_E f37_p0_a (fill f37_p0_sh y) (packOut f37_p0_outs)
theorem f37_p0_ok : PieceSound Tryd.prog 0 true (f37_c.cr.cr.cl.cr.cb.cr.ce.cr.ce.cr.ce.cr) f37_p0_sh f37_p0_outs f37_p0_F := piece_of (f37_E_okE) f37_p0_a rfl rfl fun _ => rfl
@[reducible] noncomputable def f37_p1_sh : Shape := ⟨[.dead, .ptr 0 0, .dead, .dead, .dead, .dead, .dead, .dead, .dead, .dead, .dead, .dead, .dead, .dead, .dead, .dead, .dead, .dead, .dead, .dead, .dead, .dead, .dead, .dead, .dead, .dead, .dead, .dead, .dead, .dead, .dead, .dead, .dead, .dead, .dead, .dead, .dead, .dead, .dead, .dead, .dead, .dead, .dead, .dead, .dead, .dead, .dead, .dead, .dead, .dead, .dead, .dead, .dead, .dead, .dead, .dead, .dead, .dead, .dead, .dead, .dead, .dead, .dead, .dead, .dead, .dead, .dead, .dead, .dead, .dead, .dead, .dead, .dead, .dead, .dead, .dead, .dead, .dead, .dead, .dead, .dead, .dead, .dead, .dead, .dead, .dead, .dead], [some [.hole (.int .i64), .hole (.int .i64), .hole .str, .hole (.list .value), .hole (.list .str)]], []⟩
@[reducible] noncomputable def f37_p1_o0 : Shape := ⟨[.dead, .ptr 0 0, .dead, .hole .bool, .dead, .dead, .dead, .dead, .dead, .dead, .dead, .dead, .dead, .dead, .dead, .dead, .dead, .dead, .dead, .dead, .dead, .dead, .dead, .dead, .dead, .dead, .dead, .dead, .dead, .dead, .dead, .dead, .dead, .dead, .dead, .dead, .dead, .dead, .dead, .dead, .dead, .dead, .dead, .dead, .dead, .dead, .dead, .dead, .dead, .dead, .dead, .dead, .dead, .dead, .dead, .dead, .dead, .dead, .dead, .dead, .dead, .dead, .dead, .dead, .dead, .dead, .dead, .dead, .dead, .dead, .dead, .dead, .dead, .dead, .dead, .dead, .dead, .dead, .dead, .dead, .dead, .dead, .dead, .dead, .dead, .dead, .dead], [some [.hole (.int .i64), .hole (.int .i64), .hole .str, .hole (.list .value), .hole (.list .str)]], []⟩
@[reducible] noncomputable def f37_p1_outs : List (Ex × Shape) := [(.normal, f37_p1_o0)]
@[reducible] noncomputable def f37_p1_a : Ann Tryd.prog 0 true (f37_c.cr.cl) := (.leaf _)
noncomputable def f37_p1_F (y : f37_p1_sh.den) : Option (OutDen f37_p1_outs) := evA f37_E f37_p1_a (fill f37_p1_sh y) (packOut f37_p1_outs)
theorem f37_p1_ok : PieceSound Tryd.prog 0 true (f37_c.cr.cl) f37_p1_sh f37_p1_outs f37_p1_F := piece_of (f37_E_okE) f37_p1_a rfl rfl fun _ => rfl
@[reducible] noncomputable def f37_ps : List KD := [.agg [(.int .i64), (.int .i64), .str, (.list .value), (.list .str)]]
@[reducible] noncomputable def f37_rs : List KD := [.one .bool]
@[reducible] noncomputable def f37_a : Ann Tryd.prog 0 true f37_c := (.seq (.leaf _) (.seq (.piece _ _ _ f37_p1_ok) (.seq (.seq (.leaf _) (.block (.seq (.leaf _) (.cond (.leaf _) (.seq (.leaf _) (.cond (.leaf _) (.seq (.leaf _) (.cond (.leaf _) (.seq (.leaf _) (.piece _ _ _ f37_p0_ok)))))))))) (.leaf _))))
noncomputable def f37_F (y : argsDen f37_ps) : Option (argsDen f37_rs) := evFunA f37_E Tryd.f37 f37_a (encArgs f37_ps y) (decRes f37_rs)
theorem f37_ok : Sound Tryd.prog 37 (pfun f37_F) := sound_of (c := f37_c) (f37_E_okE) (by kernel_rfl) (by kernel_rfl) (by kernel_rfl) f37_a (fun _ => rfl)
@[reducible] noncomputable def h36_I : Shape := ⟨[.agg [.hole (.int .i64), .hole (.int .i64), .hole .str, .hole (.list .value), .hole (.list .str)], .fn (.func 37) [] []], [], []⟩
@[reducible] noncomputable def h36_O : Shape := ⟨[.hole .bool], [], []⟩
@[reducible] noncomputable def f56_c : Code := codeOf Tryd.f56
@[reducible] noncomputable def h56_E (G : h36_I.den → Option h36_O.den) (hG : SoundH Tryd.prog 36 ⟨h36_I, h36_O, G⟩) : Env := envOf Tryd.prog 25 [] [⟨36, _, hG⟩]
theorem h56_E_okE (G : h36_I.den → Option h36_O.den) (hG : SoundH Tryd.prog 36 ⟨h36_I, h36_O, G⟩) : EnvOk Tryd.prog (h56_E G hG) := envOf_ok _ _ _ mixed
/-! ### imprimatur/value.all$1 -/
@[reducible] noncomputable def h56_I : Shape := ⟨[.agg [.hole (.int .i64), .hole (.int .i64), .hole .str, .hole (.list .value), .hole (.list .str)], .ptr 0 0], [some [.fn (.func 37) [] []]], []⟩
@[reducible] noncomputable def h56_O : Shape := ⟨[.hole .bool], [some [.fn (.func 37) [] []]], []⟩
@[reducible] noncomputable def h56_a (G : h36_I.den → Option h36_O.den) (hG : SoundH Tryd.prog 36 ⟨h36_I, h36_O, G⟩) : Ann Tryd.prog 1 true f56_c := (.leaf _)
noncomputable def h56_F (G : h36_I.den → Option h36_O.den) (hG : SoundH Tryd.prog 36 ⟨h36_I, h36_O, G⟩) (y : h56_I.den) : Option h56_O.den := evFunH (h56_E G hG) Tryd.f56 (h56_a G hG) h56_I h56_O y
theorem h56_ok (G : h36_I.den → Option h36_O.den) (hG : SoundH Tryd.prog 36 ⟨h36_I, h36_O, G⟩) : SoundH Tryd.prog 56 ⟨h56_I, h56_O, (h56_F G hG)⟩ := sound_ofH (I := h56_I) (O := h56_O) (c := f56_c) (h56_E_okE G hG) (by kernel_rfl) (by kernel_rfl) (by kernel_rfl) (h56_a G hG) rfl (fun _ => rfl)
@[reducible] noncomputable def f73_c : Code := codeOf Tryd.f73
@[reducible] noncomputable def h73_E (G : h36_I.den → Option h36_O.den) (hG : SoundH Tryd.prog 36 ⟨h36_I, h36_O, G⟩) : Env := envOf Tryd.prog 25 [] [⟨56, _, (h56_ok G hG)⟩]
theorem h73_E_okE (G : h36_I.den → Option h36_O.den) (hG : SoundH Tryd.prog 36 ⟨h36_I, h36_O, G⟩) : EnvOk Tryd.prog (h73_E G hG) := envOf_ok _ _ _ mixed
/-! ### slices.IndexFunc[[]imprimatur/api.Value,imprimatur/api.Value] -/
@[reducible] noncomputable def h73_p0_sh : Shape := ⟨[.hole (.list .value), .fn (.func 56) [] [.ptr 0 0], .dead, .dead, .dead, .dead, .dead, .hole (.int .i64), .hole (.int .i64), .dead, .dead, .dead, .dead, .dead, .dead, .dead, .dead, .dead, .dead], [some [.fn (.func 37) [] []]], []⟩
@[reducible] noncomputable def h73_p0_o0 : Shape := ⟨[.dead, .dead, .dead, .dead, .dead, .dead, .dead, .dead, .dead, .dead, .dead, .dead, .dead, .dead, .dead, .dead, .dead, .dead, .dead], [some [.fn (.func 37) [] []]], []⟩
@[reducible] noncomputable def h73_p0_o1 : Shape := ⟨[.dead, .dead, .dead, .dead, .hole (.int .i64), .dead, .dead, .dead, .dead, .dead, .dead, .dead, .dead, .dead, .dead, .dead, .dead, .dead, .dead], [some [.fn (.func 37) [] []]], []⟩
@[reducible] noncomputable def h73_p0_outs : List (Ex × Shape) := [(.exit 0, h73_p0_o0), (.ret, h73_p0_o1)]
@[reducible] noncomputable def h73_p0_a (G : h36_I.den → Option h36_O.den) (hG : SoundH Tryd.prog 36 ⟨h36_I, h36_O, G⟩) : Ann Tryd.prog 1 true (f73_c.cr.cl.cr.cb.cb) := (.leaf _)
noncomputable def h73_p0_st (G : h36_I.den → Option h36_O.den) (hG : SoundH Tryd.prog 36 ⟨h36_I, h36_O, G⟩) (rec : h73_p0_sh.den → Option (OutDen h73_p0_outs)) (y : h73_p0_sh.den) : Option (OutDen h73_p0_outs) := evA (h73_E G hG) (h73_p0_a G hG) (fill h73_p0_sh y) fun ex st => match ex with | .normal => (abs h73_p0_sh st).bind rec | e => packOut h73_p0_outs e st
theorem h73_p0_ok (G : h36_I.den → Option h36_O.den) (hG : SoundH Tryd.prog 36 ⟨h36_I, h36_O, G⟩) : PieceSound Tryd.prog 1 true (.loop (f73_c.cr.cl.cr.cb.cb)) h73_p0_sh h73_p0_outs (go (h73_p0_st G hG)) := go_of (h73_E_okE G hG) (h73_p0_a G hG) rfl rfl fun _ _ => rfl
@[reducible] noncomputable def h73_I : Shape := ⟨[.hole (.list .value), .fn (.func 56) [] [.ptr 0 0]], [some [.fn (.func 37) [] []]], []⟩
@[reducible] noncomputable def h73_O : Shape := ⟨[.hole (.int .i64)], [some [.fn (.func 37) [] []]], []⟩
@[reducible] noncomputable def h73_a (G : h36_I.den → Option h36_O.den) (hG : SoundH Tryd.prog 36 ⟨h36_I, h36_O, G⟩) : Ann Tryd.prog 1 true f73_c := (.seq (.leaf _) (.seq (.seq (.leaf _) (.block (.piece _ _ _ (h73_p0_ok G hG)))) (.leaf _)))
noncomputable def h73_F (G : h36_I.den → Option h36_O.den) (hG : SoundH Tryd.prog 36 ⟨h36_I, h36_O, G⟩) (y : h73_I.den) : Option h73_O.den := evFunH (h73_E G hG) Tryd.f73 (h73_a G hG) h73_I h73_O y
theorem h73_ok (G : h36_I.den → Option h36_O.den) (hG : SoundH Tryd.prog 36 ⟨h36_I, h36_O, G⟩) : SoundH Tryd.prog 73 ⟨h73_I, h73_O, (h73_F G hG)⟩ := sound_ofH (I := h73_I) (O := h73_O) (c := f73_c) (h73_E_okE G hG) (by kernel_rfl) (by kernel_rfl) (by kernel_rfl) (h73_a G hG) rfl (fun _ => rfl)
@[reducible] noncomputable def f55_c : Code := codeOf Tryd.f55
@[reducible] noncomputable def h55_E (G : h36_I.den → Option h36_O.den) (hG : SoundH Tryd.prog 36 ⟨h36_I, h36_O, G⟩) : Env := envOf Tryd.prog 25 [] [⟨73, _, (h73_ok G hG)⟩]
theorem h55_E_okE (G : h36_I.den → Option h36_O.den) (hG : SoundH Tryd.prog 36 ⟨h36_I, h36_O, G⟩) : EnvOk Tryd.prog (h55_E G hG) := envOf_ok _ _ _ mixed
/-! ### slices.ContainsFunc[[]imprimatur/api.Value,imprimatur/api.Value] -/
@[reducible] noncomputable def h55_I : Shape := ⟨[.hole (.list .value), .fn (.func 56) [] [.ptr 0 0]], [some [.fn (.func 37) [] []]], []⟩
@[reducible] noncomputable def h55_O : Shape := ⟨[.hole .bool], [some [.fn (.func 37) [] []]], []⟩
@[reducible] noncomputable def h55_a (G : h36_I.den → Option h36_O.den) (hG : SoundH Tryd.prog 36 ⟨h36_I, h36_O, G⟩) : Ann Tryd.prog 1 true f55_c := (.leaf _)
noncomputable def h55_F (G : h36_I.den → Option h36_O.den) (hG : SoundH Tryd.prog 36 ⟨h36_I, h36_O, G⟩) (y : h55_I.den) : Option h55_O.den := evFunH (h55_E G hG) Tryd.f55 (h55_a G hG) h55_I h55_O y
theorem h55_ok (G : h36_I.den → Option h36_O.den) (hG : SoundH Tryd.prog 36 ⟨h36_I, h36_O, G⟩) : SoundH Tryd.prog 55 ⟨h55_I, h55_O, (h55_F G hG)⟩ := sound_ofH (I := h55_I) (O := h55_O) (c := f55_c) (h55_E_okE G hG) (by kernel_rfl) (by kernel_rfl) (by kernel_rfl) (h55_a G hG) rfl (fun _ => rfl)
@[reducible] noncomputable def f36_c : Code := codeOf Tryd.f36
@[reducible] noncomputable def h36_E (G : h36_I.den → Option h36_O.den) (hG : SoundH Tryd.prog 36 ⟨h36_I, h36_O, G⟩) : Env := envOf Tryd.prog 25 [rowOf true f37_ok] [⟨55, _, (h55_ok G hG)⟩]
theorem h36_E_okE (G : h36_I.den → Option h36_O.den) (hG : SoundH Tryd.prog 36 ⟨h36_I, h36_O, G⟩) : EnvOk Tryd.prog (h36_E G hG) := envOf_ok _ _ _ mixed
/-! ### imprimatur/value.all -/
@[reducible] noncomputable def h36_a (G : h36_I.den → Option h36_O.den) (hG : SoundH Tryd.prog 36 ⟨h36_I, h36_O, G⟩) : Ann Tryd.prog 0 true f36_c := (.leaf _)
noncomputable def h36_b (G : h36_I.den → Option h36_O.den) (hG : SoundH Tryd.prog 36 ⟨h36_I, h36_O, G⟩) (y : h36_I.den) : Option h36_O.den := evFunH (h36_E G hG) Tryd.f36 (h36_a G hG) h36_I h36_O y
theorem h36_bok (G : h36_I.den → Option h36_O.den) (hG : SoundH Tryd.prog 36 ⟨h36_I, h36_O, G⟩) : SoundH Tryd.prog 36 ⟨h36_I, h36_O, (h36_b G hG)⟩ := sound_ofH (I := h36_I) (O := h36_O) (c := f36_c) (h36_E_okE G hG) (by kernel_rfl) (by kernel_rfl) (by kernel_rfl) (h36_a G hG) rfl (fun _ => rfl)
theorem h36_has : ∃ fn, Tryd.prog.funcs[36]? = some fn ∧ (fn.name == "runtime.NumGoroutine") = false ∧ fn.body.isSome = true := ⟨Tryd.f36, by kernel_rfl, by kernel_rfl, by kernel_rfl⟩
noncomputable def h36_S : (n : Nat) → {F : h36_I.den → Option h36_O.den // SoundH Tryd.prog 36 ⟨h36_I, h36_O, F⟩} := recH h36_has fun F h => ⟨h36_b F h, h36_bok F h⟩
noncomputable def h36_F : h36_I.den → Option h36_O.den := (h36_S recN).1
theorem h36_ok : SoundH Tryd.prog 36 ⟨h36_I, h36_O, h36_F⟩ := (h36_S recN).2
@[reducible] noncomputable def f19_c : Code := codeOf Tryd.f19
@[reducible] noncomputable def f19_E : Env := envOf Tryd.prog 25 [rowOf true f17_ok, rowOf true f15_ok] [⟨36, _, h36_ok⟩]
theorem f19_E_okE : EnvOk Tryd.prog f19_E := envOf_ok _ _ _ mixed
/-! ### imprimatur/value.Right -/
@[reducible] noncomputable def f19_ps : List KD := [.agg [(.int .i64), (.int .i64), .str, (.list .value), (.list .str)]]
@[reducible] noncomputable def f19_rs : List KD := [.one .bool]
@[reducible] noncomputable def f19_a : Ann Tryd.prog 0 true f19_c := (.leaf _)
noncomputable def f19_F (y : argsDen f19_ps) : Option (argsDen f19_rs) := evFunA f19_E Tryd.f19 f19_a (encArgs f19_ps y) (decRes f19_rs)
theorem f19_ok : Sound Tryd.prog 19 (pfun f19_F) := sound_of (c := f19_c) (f19_E_okE) (by kernel_rfl) (by kernel_rfl) (by kernel_rfl) f19_a (fun _ => rfl)
@[reducible] noncomputable def f53_c : Code := codeOf Tryd.f53
@[reducible] noncomputable def h53_E : Env := envOf Tryd.prog 25 [] [⟨71, _, copy_ok⟩]
theorem h53_E_okE : EnvOk Tryd.prog h53_E := envOf_ok _ _ _ mixed
/-! ### (*strings.Builder).WriteString -/
@[reducible] noncomputable def h53_I : Shape := ⟨[.ptr 0 0, .hole .str], [some [.bld 0, .nilS]], []⟩
@[reducible] noncomputable def h53_O : Shape := ⟨[.hole (.int .i64), .dead], [some [.bld 0, .whole 0]], [some (.int .u8)]⟩
@[reducible] noncomputable def h53_a : Ann Tryd.prog 1 true f53_c := (.leaf _)
noncomputable def h53_F (y : h53_I.den) : Option h53_O.den := evFunH h53_E Tryd.f53 h53_a h53_I h53_O y
theorem h53_ok : SoundH Tryd.prog 53 ⟨h53_I, h53_O, h53_F⟩ := sound_ofH (I := h53_I) (O := h53_O) (c := f53_c) (h53_E_okE) (by kernel_rfl) (by kernel_rfl) (by kernel_rfl) h53_a rfl (fun _ => rfl)
@[reducible] noncomputable def f54_c : Code := codeOf Tryd.f54
@[reducible] noncomputable def f54_E : Env := envOf Tryd.prog 25 [rowOf true replace_ok] []
theorem f54_E_okE : EnvOk Tryd.prog f54_E := envOf_ok _ _ _ mixed
/-! ### imprimatur/value.quoted -/
@[reducible] noncomputable def f54_ps : List KD := [.one .str]
@[reducible] noncomputable def f54_rs : List KD := [.one .str]
@[reducible] noncomputable def f54_a : Ann Tryd.prog 0 true f54_c := (.leaf _)
noncomputable def f54_F (y : argsDen f54_ps) : Option (argsDen f54_rs) := evFunA f54_E Tryd.f54 f54_a (encArgs f54_ps y) (decRes f54_rs)
theorem f54_ok : Sound Tryd.prog 54 (pfun f54_F) := sound_of (c := f54_c) (f54_E_okE) (by kernel_rfl) (by kernel_rfl) (by kernel_rfl) f54_a (fun _ => rfl)
@[reducible] noncomputable def h53a_E : Env := envOf Tryd.prog 25 [] [⟨71, _, copy_ok⟩]
theorem h53a_E_okE : EnvOk Tryd.prog h53a_E := envOf_ok _ _ _ mixed
/-! ### (*strings.Builder).WriteString -/
@[reducible] noncomputable def h53a_I : Shape := ⟨[.ptr 0 0, .hole .str], [some [.bld 0, .whole 0]], [some (.int .u8)]⟩
@[reducible] noncomputable def h53a_O : Shape := ⟨[.hole (.int .i64), .dead], [some [.bld 0, .whole 0]], [some (.int .u8)]⟩
@[reducible] noncomputable def h53a_a : Ann Tryd.prog 1 true f53_c := (.leaf _)
noncomputable def h53a_F (y : h53a_I.den) : Option h53a_O.den := evFunH h53a_E Tryd.f53 h53a_a h53a_I h53a_O y
theorem h53a_ok : SoundH Tryd.prog 53 ⟨h53a_I, h53a_O, h53a_F⟩ := sound_ofH (I := h53a_I) (O := h53a_O) (c := f53_c) (h53a_E_okE) (by kernel_rfl) (by kernel_rfl) (by kernel_rfl) h53a_a rfl (fun _ => rfl)
@[reducible] noncomputable def h34a_I : Shape := ⟨[.ptr 0 0, .agg [.hole (.int .i64), .hole (.int .i64), .hole .str, .hole (.list .value), .hole (.list .str)]], [some [.bld 0, .whole 0]], [some (.int .u8)]⟩
@[reducible] noncomputable def h34a_O : Shape := ⟨[], [some [.bld 0, .whole 0]], [some (.int .u8)]⟩
@[reducible] noncomputable def f34_c : Code := codeOf Tryd.f34
@[reducible] noncomputable def h34a_E (G : h34a_I.den → Option h34a_O.den) (hG : SoundH Tryd.prog 34 ⟨h34a_I, h34a_O, G⟩) : Env := envOf Tryd.prog 25 [rowOf true format_ok, rowOf true f54_ok] [⟨53, _, h53a_ok⟩, ⟨34, _, hG⟩]
theorem h34a_E_okE (G : h34a_I.den → Option h34a_O.den) (hG : SoundH Tryd.prog 34 ⟨h34a_I, h34a_O, G⟩) : EnvOk Tryd.prog (h34a_E G hG) := envOf_ok _ _ _ mixed
/-! ### imprimatur/value.write -/
@[reducible] noncomputable def h34a_p0_sh : Shape := ⟨[.ptr 0 0, .dead, .dead, .ptr 1 0, .hole .str, .hole (.int .i64), .ptr 2 0, .dead, .dead, .dead, .dead, .dead, .dead, .dead, .dead, .dead, .dead, .dead, .dead, .dead, .dead, .dead, .dead, .dead, .dead, .dead, .dead, .dead, .dead, .dead, .dead, .hole (.list .value), .hole (.int .i64), .hole (.int .i64), .dead, .dead, .dead, .dead, .dead, .dead, .dead, .dead, .dead, .dead, .dead, .dead, .dead, .dead, .dead, .dead, .dead, .dead, .dead, .dead, .dead, .dead, .dead, .dead, .dead, .dead, .dead, .dead, .dead], [some [.bld 0, .whole 0], some [.hole (.int .i64), .hole (.int .i64), .hole .str, .hole (.list .value), .hole (.list .str)], some [.hole (.int .i64), .hole (.int .i64), .hole .str, .hole (.list .value), .hole (.list .str)]], [some (.int .u8)]⟩
@[reducible] noncomputable def h34a_p0_o0 : Shape := ⟨[.ptr 0 0, .dead, .dead, .ptr 1 0, .hole .str, .dead, .ptr 2 0, .dead, .dead, .dead, .dead, .dead, .dead, .dead, .dead, .dead, .dead, .dead, .dead, .dead, .dead, .dead, .dead, .dead, .dead, .dead, .dead, .dead, .dead, .dead, .dead, .hole (.list .value), .hole (.int .i64), .hole (.int .i64), .dead, .dead, .dead, .dead, .dead, .dead, .dead, .dead, .dead, .dead, .dead, .dead, .dead, .dead, .dead, .dead, .dead, .dead, .dead, .dead, .dead, .dead, .dead, .dead, .dead, .dead, .dead, .dead, .dead], [some [.bld 0, .whole 0], some [.hole (.int .i64), .hole (.int .i64), .hole .str, .hole (.list .value), .hole (.list .str)], some [.hole (.int .i64), .hole (.int .i64), .hole .str, .hole (.list .value), .hole (.list .str)]], [some (.int .u8)]⟩
@[reducible] noncomputable def h34a_p0_outs : List (Ex × Shape) := [(.normal, h34a_p0_o0)]
@[reducible] noncomputable def h34a_p0_a (G : h34a_I.den → Option h34a_O.den) (hG : SoundH Tryd.prog 34 ⟨h34a_I, h34a_O, G⟩) : Ann Tryd.prog 1 true (f34_c.cr.cr.cr.cr.cr.cl.cr.cb.cb.cr.cr.cl.cb.cr.cr.cl) := (.leaf _)
noncomputable def h34a_p0_F (G : h34a_I.den → Option h34a_O.den) (hG : SoundH Tryd.prog 34 ⟨h34a_I, h34a_O, G⟩) (y : h34a_p0_sh.den) : Option (OutDen h34a_p0_outs) := evA (h34a_E G hG) (h34a_p0_a G hG) (fill h34a_p0_sh y) (packOut h34a_p0_outs)
theorem h34a_p0_ok (G : h34a_I.den → Option h34a_O.den) (hG : SoundH Tryd.prog 34 ⟨h34a_I, h34a_O, G⟩) : PieceSound Tryd.prog 1 true (f34_c.cr.cr.cr.cr.cr.cl.cr.cb.cb.cr.cr.cl.cb.cr.cr.cl) h34a_p0_sh h34a_p0_outs (h34a_p0_F G hG) := piece_of (h34a_E_okE G hG) (h34a_p0_a G hG) rfl rfl fun _ => rfl
@[reducible] noncomputable def h34a_p1_sh : Shape := ⟨[.ptr 0 0, .dead, .dead, .ptr 1 0, .hole .str, .hole (.int .i64), .ptr 2 0, .dead, .dead, .dead, .dead, .dead, .dead, .dead, .dead, .dead, .dead, .dead, .dead, .dead, .dead, .dead, .dead, .dead, .dead, .dead, .dead, .dead, .dead, .dead, .dead, .hole (.list .value), .hole (.int .i64), .hole (.int .i64), .dead, .dead, .dead, .dead, .dead, .dead, .dead, .dead, .dead, .dead, .dead, .dead, .dead, .dead, .dead, .dead, .dead, .dead, .dead, .dead, .dead, .dead, .dead, .dead, .dead, .dead, .dead, .dead, .dead], [some [.bld 0, .whole 0], some [.hole (.int .i64), .hole (.int .i64), .hole .str, .hole (.list .value), .hole (.list .str)], some [.hole (.int .i64), .hole (.int .i64), .hole .str, .hole (.list .value), .hole (.list .str)]], [some (.int .u8)]⟩
@[reducible] noncomputable def h34a_p1_o0 : Shape := ⟨[.ptr 0 0, .dead, .dead, .ptr 1 0, .hole .str, .hole (.int .i64), .ptr 2 0, .dead, .dead, .dead, .dead, .dead, .dead, .dead, .dead, .dead, .dead, .dead, .dead, .dead, .dead, .dead, .dead, .dead, .dead, .dead, .dead, .dead, .dead, .dead, .dead, .hole (.list .value), .hole (.int .i64), .hole (.int .i64), .dead, .dead, .dead, .dead, .dead, .dead, .dead, .dead, .dead, .dead, .dead, .dead, .dead, .dead, .dead, .dead, .dead, .dead, .dead, .dead, .dead, .dead, .dead, .dead, .dead, .dead, .dead, .dead, .dead], [some [.bld 0, .whole 0], some [.hole (.int .i64), .hole (.int .i64), .hole .str, .hole (.list .value), .hole (.list .str)], some [.hole (.int .i64), .hole (.int .i64), .hole .str, .hole (.list .value), .hole (.list .str)]], [some (.int .u8)]⟩
@[reducible] noncomputable def h34a_p1_outs : List (Ex × Shape) := [(.normal, h34a_p1_o0)]
@[reducible] noncomputable def h34a_p1_a (G : h34a_I.den → Option h34a_O.den) (hG : SoundH Tryd.prog 34 ⟨h34a_I, h34a_O, G⟩) : Ann Tryd.prog 1 true (f34_c.cr.cr.cr.cr.cr.cl.cr.cb.cb.cr.cr.cl.cb.cr.cl) := (.leaf _)
noncomputable def h34a_p1_F (G : h34a_I.den → Option h34a_O.den) (hG : SoundH Tryd.prog 34 ⟨h34a_I, h34a_O, G⟩) (y : h34a_p1_sh.den) : Option (OutDen h34a_p1_outs) := evA (h34a_E G hG) (h34a_p1_a G hG) (fill h34a_p1_sh y) (packOut h34a_p1_outs)
theorem h34a_p1_ok (G : h34a_I.den → Option h34a_O.den) (hG : SoundH Tryd.prog 34 ⟨h34a_I, h34a_O, G⟩) : PieceSound Tryd.prog 1 true (f34_c.cr.cr.cr.cr.cr.cl.cr.cb.cb.cr.cr.cl.cb.cr.cl) h34a_p1_sh h34a_p1_outs (h34a_p1_F G hG) := piece_of (h34a_E_okE G hG) (h34a_p1_a G hG) rfl rfl fun _ => rfl
@[reducible] noncomputable def h34a_p2_sh : Shape := ⟨[.ptr 0 0, .dead, .dead, .ptr 1 0, .hole .str, .dead, .dead, .dead, .dead, .dead, .dead, .dead, .dead, .dead, .dead, .dead, .dead, .dead, .dead, .dead, .dead, .dead, .dead, .dead, .dead, .dead, .dead, .dead, .dead, .dead, .dead, .hole (.list .value), .hole (.int .i64), .hole (.int .i64), .dead, .dead, .dead, .dead, .dead, .dead, .dead, .dead, .dead, .dead, .dead, .dead, .dead, .dead, .dead, .dead, .dead, .dead, .dead, .dead, .dead, .dead, .dead, .dead, .dead, .dead, .dead, .dead, .dead], [some [.bld 0, .whole 0], some [.hole (.int .i64), .hole (.int .i64), .hole .str, .hole (.list .value), .hole (.list .str)]], [some (.int .u8)]⟩
@[reducible] noncomputable def h34a_p2_o0 : Shape := ⟨[.ptr 0 0, .dead, .dead, .dead, .hole .str, .dead, .dead, .dead, .dead, .dead, .dead, .dead, .dead, .dead, .dead, .dead, .dead, .dead, .dead, .dead, .dead, .dead, .dead, .dead, .dead, .dead, .dead, .dead, .dead, .dead, .dead, .dead, .dead, .dead, .dead, .dead, .dead, .dead, .dead, .dead, .dead, .dead, .dead, .dead, .dead, .dead, .dead, .dead, .dead, .dead, .dead, .dead, .dead, .dead, .dead, .dead, .dead, .dead, .dead, .dead, .dead, .dead, .dead], [some [.bld 0, .whole 0]], [some (.int .u8)]⟩
@[reducible] noncomputable def h34a_p2_outs : List (Ex × Shape) := [(.exit 1, h34a_p2_o0)]
@[reducible] noncomputable def h34a_p2_a (G : h34a_I.den → Option h34a_O.den) (hG : SoundH Tryd.prog 34 ⟨h34a_I, h34a_O, G⟩) : Ann Tryd.prog 1 true (f34_c.cr.cr.cr.cr.cr.cl.cr.cb.cb) := (.seq (.leaf _) (.seq (.leaf _) (.seq (.block (.seq (.leaf _) (.seq (.piece _ _ _ (h34a_p1_ok G hG)) (.seq (.piece _ _ _ (h34a_p0_ok G hG)) (.leaf _))))) (.leaf _))))
noncomputable def h34a_p2_st (G : h34a_I.den → Option h34a_O.den) (hG : SoundH Tryd.prog 34 ⟨h34a_I, h34a_O, G⟩) (rec : h34a_p2_sh.den → Option (OutDen h34a_p2_outs)) (y : h34a_p2_sh.den) : Option (OutDen h34a_p2_outs) := evA (h34a_E G hG) (h34a_p2_a G hG) (fill h34a_p2_sh y) fun ex st => match ex with | .normal => (abs h34a_p2_sh st).bind rec | e => packOut h34a_p2_outs e st
theorem h34a_p2_ok (G : h34a_I.den → Option h34a_O.den) (hG : SoundH Tryd.prog 34 ⟨h34a_I, h34a_O, G⟩) : PieceSound Tryd.prog 1 true (.loop (f34_c.cr.cr.cr.cr.cr.cl.cr.cb.cb)) h34a_p2_sh h34a_p2_outs (go (h34a_p2_st G hG)) := go_of (h34a_E_okE G hG) (h34a_p2_a G hG) rfl rfl fun _ _ => rfl
@[reducible] noncomputable def h34a_a (G : h34a_I.den → Option h34a_O.den) (hG : SoundH Tryd.prog 34 ⟨h34a_I, h34a_O, G⟩) : Ann Tryd.prog 1 true f34_c := (.seq (.leaf _) (.seq (.leaf _) (.seq (.leaf _) (.seq (.leaf _) (.seq (.leaf _) (.seq (.seq (.leaf _) (.block (.piece _ _ _ (h34a_p2_ok G hG)))) (.leaf _)))))))
noncomputable def h34a_b (G : h34a_I.den → Option h34a_O.den) (hG : SoundH Tryd.prog 34 ⟨h34a_I, h34a_O, G⟩) (y : h34a_I.den) : Option h34a_O.den := evFunH (h34a_E G hG) Tryd.f34 (h34a_a G hG) h34a_I h34a_O y
theorem h34a_bok (G : h34a_I.den → Option h34a_O.den) (hG : SoundH Tryd.prog 34 ⟨h34a_I, h34a_O, G⟩) : SoundH Tryd.prog 34 ⟨h34a_I, h34a_O, (h34a_b G hG)⟩ := sound_ofH (I := h34a_I) (O := h34a_O) (c := f34_c) (h34a_E_okE G hG) (by kernel_rfl) (by kernel_rfl) (by kernel_rfl) (h34a_a G hG) rfl (fun _ => rfl)
theorem h34a_has : ∃ fn, Tryd.prog.funcs[34]? = some fn ∧ (fn.name == "runtime.NumGoroutine") = false ∧ fn.body.isSome = true := ⟨Tryd.f34, by kernel_rfl, by kernel_rfl, by kernel_rfl⟩
noncomputable def h34a_S : (n : Nat) → {F : h34a_I.den → Option h34a_O.den // SoundH Tryd.prog 34 ⟨h34a_I, h34a_O, F⟩} := recH h34a_has fun F h => ⟨h34a_b F h, h34a_bok F h⟩
noncomputable def h34a_F : h34a_I.den → Option h34a_O.den := (h34a_S recN).1
theorem h34a_ok : SoundH Tryd.prog 34 ⟨h34a_I, h34a_O, h34a_F⟩ := (h34a_S recN).2
@[reducible] noncomputable def h34_E : Env := envOf Tryd.prog 25 [rowOf true format_ok, rowOf true f54_ok] [⟨53, _, h53_ok⟩, ⟨53, _, h53a_ok⟩, ⟨34, _, h34a_ok⟩]
theorem h34_E_okE : EnvOk Tryd.prog h34_E := envOf_ok _ _ _ mixed
/-! ### imprimatur/value.write -/
@[reducible] noncomputable def h34_p0_sh : Shape := ⟨[.ptr 0 0, .dead, .dead, .ptr 1 0, .hole .str, .hole (.int .i64), .ptr 2 0, .dead, .dead, .dead, .dead, .dead, .dead, .dead, .dead, .dead, .dead, .dead, .dead, .dead, .dead, .dead, .dead, .dead, .dead, .dead, .dead, .dead, .dead, .dead, .dead, .hole (.list .value), .hole (.int .i64), .hole (.int .i64), .dead, .dead, .dead, .dead, .dead, .dead, .dead, .dead, .dead, .dead, .dead, .dead, .dead, .dead, .dead, .dead, .dead, .dead, .dead, .dead, .dead, .dead, .dead, .dead, .dead, .dead, .dead, .dead, .dead], [some [.bld 0, .whole 0], some [.hole (.int .i64), .hole (.int .i64), .hole .str, .hole (.list .value), .hole (.list .str)], some [.hole (.int .i64), .hole (.int .i64), .hole .str, .hole (.list .value), .hole (.list .str)]], [some (.int .u8)]⟩
@[reducible] noncomputable def h34_p0_o0 : Shape := ⟨[.ptr 0 0, .dead, .dead, .ptr 1 0, .hole .str, .dead, .ptr 2 0, .dead, .dead, .dead, .dead, .dead, .dead, .dead, .dead, .dead, .dead, .dead, .dead, .dead, .dead, .dead, .dead, .dead, .dead, .dead, .dead, .dead, .dead, .dead, .dead, .hole (.list .value), .hole (.int .i64), .hole (.int .i64), .dead, .dead, .dead, .dead, .dead, .dead, .dead, .dead, .dead, .dead, .dead, .dead, .dead, .dead, .dead, .dead, .dead, .dead, .dead, .dead, .dead, .dead, .dead, .dead, .dead, .dead, .dead, .dead, .dead], [some [.bld 0, .whole 0], some [.hole (.int .i64), .hole (.int .i64), .hole .str, .hole (.list .value), .hole (.list .str)], some [.hole (.int .i64), .hole (.int .i64), .hole .str, .hole (.list .value), .hole (.list .str)]], [some (.int .u8)]⟩
@[reducible] noncomputable def h34_p0_outs : List (Ex × Shape) := [(.normal, h34_p0_o0)]
@[reducible] noncomputable def h34_p0_a : Ann Tryd.prog 1 true (f34_c.cr.cr.cr.cr.cr.cl.cr.cb.cb.cr.cr.cl.cb.cr.cr.cl) := (.leaf _)
noncomputable def h34_p0_F (y : h34_p0_sh.den) : Option (OutDen h34_p0_outs) := evA h34_E h34_p0_a (fill h34_p0_sh y) (packOut h34_p0_outs)
theorem h34_p0_ok : PieceSound Tryd.prog 1 true (f34_c.cr.cr.cr.cr.cr.cl.cr.cb.cb.cr.cr.cl.cb.cr.cr.cl) h34_p0_sh h34_p0_outs h34_p0_F := piece_of (h34_E_okE) h34_p0_a rfl rfl fun _ => rfl
@[reducible] noncomputable def h34_p1_sh : Shape := ⟨[.ptr 0 0, .dead, .dead, .ptr 1 0, .hole .str, .hole (.int .i64), .ptr 2 0, .dead, .dead, .dead, .dead, .dead, .dead, .dead, .dead, .dead, .dead, .dead, .dead, .dead, .dead, .dead, .dead, .dead, .dead, .dead, .dead, .dead, .dead, .dead, .dead, .hole (.list .value), .hole (.int .i64), .hole (.int .i64), .dead, .dead, .dead, .dead, .dead, .dead, .dead, .dead, .dead, .dead, .dead, .dead, .dead, .dead, .dead, .dead, .dead, .dead, .dead, .dead, .dead, .dead, .dead, .dead, .dead, .dead, .dead, .dead, .dead], [some [.bld 0, .whole 0], some [.hole (.int .i64), .hole (.int .i64), .hole .str, .hole (.list .value), .hole (.list .str)], some [.hole (.int .i64), .hole (.int .i64), .hole .str, .hole (.list .value), .hole (.list .str)]], [some (.int .u8)]⟩
@[reducible] noncomputable def h34_p1_o0 : Shape := ⟨[.ptr 0 0, .dead, .dead, .ptr 1 0, .hole .str, .hole (.int .i64), .ptr 2 0, .dead, .dead, .dead, .dead, .dead, .dead, .dead, .dead, .dead, .dead, .dead, .dead, .dead, .dead, .dead, .dead, .dead, .dead, .dead, .dead, .dead, .dead, .dead, .dead, .hole (.list .value), .hole (.int .i64), .hole (.int .i64), .dead, .dead, .dead, .dead, .dead, .dead, .dead, .dead, .dead, .dead, .dead, .dead, .dead, .dead, .dead, .dead, .dead, .dead, .dead, .dead, .dead, .dead, .dead, .dead, .dead, .dead, .dead, .dead, .dead], [some [.bld 0, .whole 0], some [.hole (.int .i64), .hole (.int .i64), .hole .str, .hole (.list .value), .hole (.list .str)], some [.hole (.int .i64), .hole (.int .i64), .hole .str, .hole (.list .value), .hole (.list .str)]], [some (.int .u8)]⟩
@[reducible] noncomputable def h34_p1_outs : List (Ex × Shape) := [(.normal, h34_p1_o0)]
@[reducible] noncomputable def h34_p1_a : Ann Tryd.prog 1 true (f34_c.cr.cr.cr.cr.cr.cl.cr.cb.cb.cr.cr.cl.cb.cr.cl) := (.leaf _)
noncomputable def h34_p1_F (y : h34_p1_sh.den) : Option (OutDen h34_p1_outs) := evA h34_E h34_p1_a (fill h34_p1_sh y) (packOut h34_p1_outs)
theorem h34_p1_ok : PieceSound Tryd.prog 1 true (f34_c.cr.cr.cr.cr.cr.cl.cr.cb.cb.cr.cr.cl.cb.cr.cl) h34_p1_sh h34_p1_outs h34_p1_F := piece_of (h34_E_okE) h34_p1_a rfl rfl fun _ => rfl
@[reducible] noncomputable def h34_p2_sh : Shape := ⟨[.ptr 0 0, .dead, .dead, .ptr 1 0, .hole .str, .dead, .dead, .dead, .dead, .dead, .dead, .dead, .dead, .dead, .dead, .dead, .dead, .dead, .dead, .dead, .dead, .dead, .dead, .dead, .dead, .dead, .dead, .dead, .dead, .dead, .dead, .hole (.list .value), .hole (.int .i64), .hole (.int .i64), .dead, .dead, .dead, .dead, .dead, .dead, .dead, .dead, .dead, .dead, .dead, .dead, .dead, .dead, .dead, .dead, .dead, .dead, .dead, .dead, .dead, .dead, .dead, .dead, .dead, .dead, .dead, .dead, .dead], [some [.bld 0, .whole 0], some [.hole (.int .i64), .hole (.int .i64), .hole .str, .hole (.list .value), .hole (.list .str)]], [some (.int .u8)]⟩
@[reducible] noncomputable def h34_p2_o0 : Shape := ⟨[.ptr 0 0, .dead, .dead, .dead, .hole .str, .dead, .dead, .dead, .dead, .dead, .dead, .dead, .dead, .dead, .dead, .dead, .dead, .dead, .dead, .dead, .dead, .dead, .dead, .dead, .dead, .dead, .dead, .dead, .dead, .dead, .dead, .dead, .dead, .dead, .dead, .dead, .dead, .dead, .dead, .dead, .dead, .dead, .dead, .dead, .dead, .dead, .dead, .dead, .dead, .dead, .dead, .dead, .dead, .dead, .dead, .dead, .dead, .dead, .dead, .dead, .dead, .dead, .dead], [some [.bld 0, .whole 0]], [some (.int .u8)]⟩
@[reducible] noncomputable def h34_p2_outs : List (Ex × Shape) := [(.exit 1, h34_p2_o0)]
@[reducible] noncomputable def h34_p2_a : Ann Tryd.prog 1 true (f34_c.cr.cr.cr.cr.cr.cl.cr.cb.cb) := (.seq (.leaf _) (.seq (.leaf _) (.seq (.block (.seq (.leaf _) (.seq (.piece _ _ _ h34_p1_ok) (.seq (.piece _ _ _ h34_p0_ok) (.leaf _))))) (.leaf _))))
noncomputable def h34_p2_st (rec : h34_p2_sh.den → Option (OutDen h34_p2_outs)) (y : h34_p2_sh.den) : Option (OutDen h34_p2_outs) := evA h34_E h34_p2_a (fill h34_p2_sh y) fun ex st => match ex with | .normal => (abs h34_p2_sh st).bind rec | e => packOut h34_p2_outs e st
theorem h34_p2_ok : PieceSound Tryd.prog 1 true (.loop (f34_c.cr.cr.cr.cr.cr.cl.cr.cb.cb)) h34_p2_sh h34_p2_outs (go h34_p2_st) := go_of (h34_E_okE) h34_p2_a rfl rfl fun _ _ => rfl
@[reducible] noncomputable def h34_I : Shape := ⟨[.ptr 0 0, .agg [.hole (.int .i64), .hole (.int .i64), .hole .str, .hole (.list .value), .hole (.list .str)]], [some [.bld 0, .nilS]], []⟩
@[reducible] noncomputable def h34_O : Shape := ⟨[], [some [.bld 0, .whole 0]], [some (.int .u8)]⟩
@[reducible] noncomputable def h34_a : Ann Tryd.prog 1 true f34_c := (.seq (.leaf _) (.seq (.leaf _) (.seq (.leaf _) (.seq (.leaf _) (.seq (.leaf _) (.seq (.seq (.leaf _) (.block (.piece _ _ _ h34_p2_ok))) (.leaf _)))))))
noncomputable def h34_F (y : h34_I.den) : Option h34_O.den := evFunH h34_E Tryd.f34 h34_a h34_I h34_O y
theorem h34_ok : SoundH Tryd.prog 34 ⟨h34_I, h34_O, h34_F⟩ := sound_ofH (I := h34_I) (O := h34_O) (c := f34_c) (h34_E_okE) (by kernel_rfl) (by kernel_rfl) (by kernel_rfl) h34_a rfl (fun _ => rfl)
@[reducible] noncomputable def f14_c : Code := codeOf Tryd.f14
@[reducible] noncomputable def f14_E : Env := envOf Tryd.prog 25 [rowOf true f19_ok] [⟨34, _, h34_ok⟩, ⟨35, _, str_ok⟩]
theorem f14_E_okE : EnvOk Tryd.prog f14_E := envOf_ok _ _ _ mixed
/-! ### imprimatur/value.Print -/
@[reducible] noncomputable def f14_ps : List KD := [.agg [(.int .i64), (.int .i64), .str, (.list .value), (.list .str)]]
@[reducible] noncomputable def f14_rs : List KD := [.one .str, .one (.int .i64)]
@[reducible] noncomputable def f14_a : Ann Tryd.prog 0 true f14_c := (.leaf _)
noncomputable def f14_F (y : argsDen f14_ps) : Option (argsDen f14_rs) := evFunA f14_E Tryd.f14 f14_a (encArgs f14_ps y) (decRes f14_rs)
theorem f14_ok : Sound Tryd.prog 14 (pfun f14_F) := sound_of (c := f14_c) (f14_E_okE) (by kernel_rfl) (by kernel_rfl) (by kernel_rfl) f14_a (fun _ => rfl)
@[reducible] noncomputable def f13_c : Code := codeOf Tryd.f13
@[reducible] noncomputable def f13_E : Env := envOf Tryd.prog 25 [rowOf false f23_ok, rowOf false f22_ok, rowOf false f28_ok, rowOf true f14_ok] []
theorem f13_E_okE : EnvOk Tryd.prog f13_E := envOf_ok _ _ _ mixed
/-! ### imprimatur/imprimaturlaw11.alive -/
@[reducible] noncomputable def f13_ps : List KD := []
@[reducible] noncomputable def f13_rs : List KD := [.one .bool]
@[reducible] noncomputable def f13_a : Ann Tryd.prog 0 true f13_c := (.leaf _)
noncomputable def f13_F0 (y : argsDen f13_ps) : Option (argsDen f13_rs) := evFunA f13_E Tryd.f13 f13_a (encArgs f13_ps y) (decRes f13_rs)
noncomputable def f13_F : argsDen f13_ps → Option (argsDen f13_rs) := Classical.choose (⟨f13_F0, rfl⟩ : ∃ f : argsDen f13_ps → Option (argsDen f13_rs), f = f13_F0)
theorem f13_Fe : f13_F = f13_F0 := Classical.choose_spec (⟨f13_F0, rfl⟩ : ∃ f : argsDen f13_ps → Option (argsDen f13_rs), f = f13_F0)
theorem f13_ok0 : Sound Tryd.prog 13 (pfun f13_F0) := sound_of (c := f13_c) (f13_E_okE) (by kernel_rfl) (by kernel_rfl) (by kernel_rfl) f13_a (fun _ => rfl)
theorem f13_ok : Sound Tryd.prog 13 (pfun f13_F) := by rw [f13_Fe]; exact f13_ok0
@[reducible] noncomputable def f18_ps : List KD := [.agg [(.int .i64), (.int .i64), .str, (.list .value), (.list .str)]]
@[reducible] noncomputable def f18_rs : List KD := [.one (.int .i64)]
@[reducible] noncomputable def f18_c : Code := codeOf Tryd.f18
@[reducible] noncomputable def f18_E (G : argsDen f18_ps → Option (argsDen f18_rs)) (hG : Sound Tryd.prog 18 (pfun G)) : Env := envOf Tryd.prog 25 [rowOf true hG] []
theorem f18_E_okE (G : argsDen f18_ps → Option (argsDen f18_rs)) (hG : Sound Tryd.prog 18 (pfun G)) : EnvOk Tryd.prog (f18_E G hG) := envOf_ok _ _ _ mixed
/-! ### imprimatur/imprimaturref11.Depth -/
@[reducible] noncomputable def f18_p0_sh : Shape := ⟨[.dead, .dead, .dead, .hole (.int .i64), .dead, .dead, .dead, .dead, .hole (.list .value), .hole (.int .i64), .hole (.int .i64), .dead, .dead, .dead, .dead, .dead, .dead, .dead, .dead, .dead, .dead, .dead, .dead, .dead], [none], []⟩
@[reducible] noncomputable def f18_p0_o0 : Shape := ⟨[.dead, .dead, .dead, .hole (.int .i64), .dead, .dead, .dead, .dead, .hole (.list .value), .hole (.int .i64), .hole (.int .i64), .dead, .dead, .dead, .dead, .dead, .dead, .dead, .dead, .dead, .dead, .dead, .dead, .dead], [], []⟩
@[reducible] noncomputable def f18_p0_outs : List (Ex × Shape) := [(.normal, f18_p0_o0)]
@[reducible] noncomputable def f18_p0_a (G : argsDen f18_ps → Option (argsDen f18_rs)) (hG : Sound Tryd.prog 18 (pfun G)) : Ann Tryd.prog 0 true (f18_c.cr.cr.cl.cr.cb.cb.cr.cr.cl) := (.leaf _)
noncomputable def f18_p0_F (G : argsDen f18_ps → Option (argsDen f18_rs)) (hG : Sound Tryd.prog 18 (pfun G)) (y : f18_p0_sh.den) : Option (OutDen f18_p0_outs) := evA (f18_E G hG) (f18_p0_a G hG) (fill f18_p0_sh y) (packOut f18_p0_outs)
theorem f18_p0_ok (G : argsDen f18_ps → Option (argsDen f18_rs)) (hG : Sound Tryd.prog 18 (pfun G)) : PieceSound Tryd.prog 0 true (f18_c.cr.cr.cl.cr.cb.cb.cr.cr.cl) f18_p0_sh f18_p0_outs (f18_p0_F G hG) := piece_of (f18_E_okE G hG) (f18_p0_a G hG) rfl rfl fun _ => rfl
@[reducible] noncomputable def f18_p1_sh : Shape := ⟨[.dead, .dead, .dead, .hole (.int .i64), .dead, .dead, .dead, .dead, .hole (.list .value), .hole (.int .i64), .hole (.int .i64), .dead, .dead, .dead, .dead, .dead, .dead, .dead, .dead, .dead, .dead, .dead, .dead, .dead], [none], []⟩
@[reducible] noncomputable def f18_p1_o0 : Shape := ⟨[.dead, .dead, .dead, .hole (.int .i64), .dead, .dead, .dead, .dead, .dead, .dead, .dead, .dead, .dead, .dead, .dead, .dead, .dead, .dead, .dead, .dead, .dead, .dead, .dead, .dead], [], []⟩
@[reducible] noncomputable def f18_p1_outs : List (Ex × Shape) := [(.exit 0, f18_p1_o0)]
@[reducible] noncomputable def f18_p1_a (G : argsDen f18_ps → Option (argsDen f18_rs)) (hG : Sound Tryd.prog 18 (pfun G)) : Ann Tryd.prog 0 true (f18_c.cr.cr.cl.cr.cb.cb) := (.seq (.leaf _) (.seq (.leaf _) (.seq (.piece _ _ _ (f18_p0_ok G hG)) (.leaf _))))
noncomputable def f18_p1_st (G : argsDen f18_ps → Option (argsDen f18_rs)) (hG : Sound Tryd.prog 18 (pfun G)) (rec : f18_p1_sh.den → Option (OutDen f18_p1_outs)) (y : f18_p1_sh.den) : Option (OutDen f18_p1_outs) := evA (f18_E G hG) (f18_p1_a G hG) (fill f18_p1_sh y) fun ex st => match ex with | .normal => (abs f18_p1_sh st).bind rec | e => packOut f18_p1_outs e st
theorem f18_p1_ok (G : argsDen f18_ps → Option (argsDen f18_rs)) (hG : Sound Tryd.prog 18 (pfun G)) : PieceSound Tryd.prog 0 true (.loop (f18_c.cr.cr.cl.cr.cb.cb)) f18_p1_sh f18_p1_outs (go (f18_p1_st G hG)) := go_of (f18_E_okE G hG) (f18_p1_a G hG) rfl rfl fun _ _ => rfl
@[reducible] noncomputable def f18_a (G : argsDen f18_ps → Option (argsDen f18_rs)) (hG : Sound Tryd.prog 18 (pfun G)) : Ann Tryd.prog 0 true f18_c := (.seq (.leaf _) (.seq (.leaf _) (.seq (.seq (.leaf _) (.block (.piece _ _ _ (f18_p1_ok G hG)))) (.leaf _))))
noncomputable def f18_b (G : argsDen f18_ps → Option (argsDen f18_rs)) (hG : Sound Tryd.prog 18 (pfun G)) (y : argsDen f18_ps) : Option (argsDen f18_rs) := evFunA (f18_E G hG) Tryd.f18 (f18_a G hG) (encArgs f18_ps y) (decRes f18_rs)
theorem f18_bok (G : argsDen f18_ps → Option (argsDen f18_rs)) (hG : Sound Tryd.prog 18 (pfun G)) : Sound Tryd.prog 18 (pfun (f18_b G hG)) := sound_of (c := f18_c) (f18_E_okE G hG) (by kernel_rfl) (by kernel_rfl) (by kernel_rfl) (f18_a G hG) (fun _ => rfl)
theorem f18_has : ∃ fn, Tryd.prog.funcs[18]? = some fn ∧ (fn.name == "runtime.NumGoroutine") = false ∧ fn.body.isSome = true := ⟨Tryd.f18, by kernel_rfl, by kernel_rfl, by kernel_rfl⟩
noncomputable def f18_S : (n : Nat) → {F : argsDen f18_ps → Option (argsDen f18_rs) // Sound Tryd.prog 18 (pfun F)} := recF f18_has fun F h => ⟨f18_b F h, f18_bok F h⟩
noncomputable def f18_F : argsDen f18_ps → Option (argsDen f18_rs) := (f18_S recN).1
theorem f18_ok : Sound Tryd.prog 18 (pfun f18_F) := (f18_S recN).2
@[reducible] noncomputable def f76_c : Code := codeOf Tryd.f76
@[reducible] noncomputable def f76_E : Env := envOf Tryd.prog 25 [] []
theorem f76_E_okE : EnvOk Tryd.prog f76_E := envOf_ok _ _ _ mixed
/-! ### imprimatur/imprimaturref11.Text -/
@[reducible] noncomputable def f76_p0_sh : Shape := ⟨[.hole .str, .dead, .dead, .hole (.int .i64), .dead, .dead, .dead, .dead, .dead, .dead, .dead, .dead, .dead, .dead, .dead, .dead, .dead], [], []⟩
@[reducible] noncomputable def f76_p0_o0 : Shape := ⟨[.hole .str, .dead, .dead, .dead, .dead, .dead, .dead, .dead, .dead, .dead, .dead, .dead, .dead, .dead, .dead, .dead, .dead], [], []⟩
@[reducible] noncomputable def f76_p0_o1 : Shape := ⟨[.dead, .dead, .hole .bool, .dead, .dead, .dead, .dead, .dead, .dead, .dead, .dead, .dead, .dead, .dead, .dead, .dead, .dead], [], []⟩
@[reducible] noncomputable def f76_p0_outs : List (Ex × Shape) := [(.exit 0, f76_p0_o0), (.ret, f76_p0_o1)]
@[reducible] noncomputable def f76_p0_a : Ann Tryd.prog 0 true (f76_c.cr.cl.cr.cb.cb) := (.leaf _)
noncomputable def f76_p0_st (rec : f76_p0_sh.den → Option (OutDen f76_p0_outs)) (y : f76_p0_sh.den) : Option (OutDen f76_p0_outs) := evA f76_E f76_p0_a (fill f76_p0_sh y) fun ex st => match ex with | .normal => (abs f76_p0_sh st).bind rec | e => packOut f76_p0_outs e st
theorem f76_p0_ok : PieceSound Tryd.prog 0 true (.loop (f76_c.cr.cl.cr.cb.cb)) f76_p0_sh f76_p0_outs (go f76_p0_st) := go_of (f76_E_okE) f76_p0_a rfl rfl fun _ _ => rfl
@[reducible] noncomputable def f76_ps : List KD := [.one .str]
@[reducible] noncomputable def f76_rs : List KD := [.one .bool]
@[reducible] noncomputable def f76_a : Ann Tryd.prog 0 true f76_c := (.seq (.leaf _) (.seq (.seq (.leaf _) (.block (.piece _ _ _ f76_p0_ok))) (.leaf _)))
noncomputable def f76_F (y : argsDen f76_ps) : Option (argsDen f76_rs) := evFunA f76_E Tryd.f76 f76_a (encArgs f76_ps y) (decRes f76_rs)
theorem f76_ok : Sound Tryd.prog 76 (pfun f76_F) := sound_of (c := f76_c) (f76_E_okE) (by kernel_rfl) (by kernel_rfl) (by kernel_rfl) f76_a (fun _ => rfl)
@[reducible] noncomputable def f52_c : Code := codeOf Tryd.f52
@[reducible] noncomputable def f52_E : Env := envOf Tryd.prog 25 [] []
theorem f52_E_okE : EnvOk Tryd.prog f52_E := envOf_ok _ _ _ mixed
/-! ### imprimatur/imprimaturref11.Less -/
@[reducible] noncomputable def f52_p0_sh : Shape := ⟨[.hole .str, .hole .str, .dead, .dead, .dead, .hole (.int .i64), .dead, .dead, .dead, .dead, .dead, .dead, .dead, .dead, .dead, .dead, .dead, .dead, .dead, .dead, .dead, .dead, .dead, .dead, .dead, .dead, .dead, .dead, .dead, .dead, .dead, .dead, .dead, .dead, .dead, .dead, .dead], [], []⟩
@[reducible] noncomputable def f52_p0_o0 : Shape := ⟨[.hole .str, .hole .str, .dead, .dead, .dead, .dead, .dead, .dead, .dead, .dead, .dead, .dead, .dead, .dead, .dead, .dead, .dead, .dead, .dead, .dead, .dead, .dead, .dead, .dead, .dead, .dead, .dead, .dead, .dead, .dead, .dead, .dead, .dead, .dead, .dead, .dead, .dead], [], []⟩
@[reducible] noncomputable def f52_p0_o1 : Shape := ⟨[.dead, .dead, .dead, .dead, .hole .bool, .dead, .dead, .dead, .dead, .dead, .dead, .dead, .dead, .dead, .dead, .dead, .dead, .dead, .dead, .dead, .dead, .dead, .dead, .dead, .dead, .dead, .dead, .dead, .dead, .dead, .dead, .dead, .dead, .dead, .dead, .dead, .dead], [], []⟩
@[reducible] noncomputable def f52_p0_outs : List (Ex × Shape) := [(.exit 0, f52_p0_o0), (.ret, f52_p0_o1)]
@[reducible] noncomputable def f52_p0_a : Ann Tryd.prog 0 true (f52_c.cr.cl.cr.cb.cb) := (.leaf _)
noncomputable def f52_p0_st (rec : f52_p0_sh.den → Option (OutDen f52_p0_outs)) (y : f52_p0_sh.den) : Option (OutDen f52_p0_outs) := evA f52_E f52_p0_a (fill f52_p0_sh y) fun ex st => match ex with | .normal => (abs f52_p0_sh st).bind rec | e => packOut f52_p0_outs e st
theorem f52_p0_ok : PieceSound Tryd.prog 0 true (.loop (f52_c.cr.cl.cr.cb.cb)) f52_p0_sh f52_p0_outs (go f52_p0_st) := go_of (f52_E_okE) f52_p0_a rfl rfl fun _ _ => rfl
@[reducible] noncomputable def f52_ps : List KD := [.one .str, .one .str]
@[reducible] noncomputable def f52_rs : List KD := [.one .bool]
@[reducible] noncomputable def f52_a : Ann Tryd.prog 0 true f52_c := (.seq (.leaf _) (.seq (.seq (.leaf _) (.block (.piece _ _ _ f52_p0_ok))) (.leaf _)))
noncomputable def f52_F (y : argsDen f52_ps) : Option (argsDen f52_rs) := evFunA f52_E Tryd.f52 f52_a (encArgs f52_ps y) (decRes f52_rs)
theorem f52_ok : Sound Tryd.prog 52 (pfun f52_F) := sound_of (c := f52_c) (f52_E_okE) (by kernel_rfl) (by kernel_rfl) (by kernel_rfl) f52_a (fun _ => rfl)
@[reducible] noncomputable def f59_c : Code := codeOf Tryd.f59
@[reducible] noncomputable def f59_E : Env := envOf Tryd.prog 25 [rowOf true f76_ok, rowOf true f52_ok] []
theorem f59_E_okE : EnvOk Tryd.prog f59_E := envOf_ok _ _ _ mixed
/-! ### imprimatur/imprimaturref11.one -/
@[reducible] noncomputable def f59_p0_sh : Shape := ⟨[.dead, .ptr 0 0, .dead, .hole (.int .i64), .hole .str, .dead, .dead, .dead, .dead, .dead, .dead, .dead, .dead, .dead, .dead, .dead, .dead, .dead, .dead, .dead, .dead, .dead, .dead, .dead, .dead, .dead, .dead, .dead, .dead, .dead, .dead, .dead, .dead, .dead, .dead, .dead, .dead, .dead, .dead, .dead, .dead, .dead, .dead, .dead, .dead, .dead, .dead, .dead, .dead, .dead, .dead, .dead, .dead, .dead, .dead, .dead, .dead, .dead, .dead, .dead, .dead, .dead, .dead, .dead, .dead, .dead, .dead, .dead, .dead, .dead, .dead, .dead, .dead, .dead, .dead, .dead, .dead, .dead, .dead, .dead, .dead, .dead, .dead, .dead, .hole (.list .str), .hole (.int .i64), .hole (.int .i64), .dead, .dead, .dead, .dead, .dead, .dead, .dead, .dead, .dead, .dead, .dead, .dead, .dead, .dead, .dead, .dead, .dead, .dead, .dead, .dead, .dead, .dead, .dead], [some [.hole (.int .i64), .hole (.int .i64), .hole .str, .hole (.list .value), .hole (.list .str)]], []⟩
@[reducible] noncomputable def f59_p0_o0 : Shape := ⟨[.dead, .ptr 0 0, .dead, .dead, .dead, .dead, .dead, .dead, .dead, .dead, .dead, .dead, .dead, .dead, .dead, .dead, .dead, .dead, .dead, .dead, .dead, .dead, .dead, .dead, .dead, .dead, .dead, .dead, .dead, .dead, .dead, .dead, .dead, .dead, .dead, .dead, .dead, .dead, .dead, .dead, .dead, .dead, .dead, .dead, .dead, .dead, .dead, .dead, .dead, .dead, .dead, .dead, .dead, .dead, .dead, .dead, .dead, .dead, .dead, .dead, .dead, .dead, .dead, .dead, .dead, .dead, .dead, .dead, .dead, .dead, .dead, .dead, .dead, .dead, .dead, .dead, .dead, .dead, .dead, .dead, .dead, .dead, .dead, .dead, .hole (.list .str), .hole (.int .i64), .hole (.int .i64), .dead, .dead, .dead, .dead, .dead, .dead, .dead, .dead, .dead, .dead, .dead, .dead, .dead, .dead, .dead, .dead, .dead, .dead, .dead, .dead, .dead, .hole .bool, .dead], [some [.hole (.int .i64), .hole (.int .i64), .hole .str, .hole (.list .value), .hole (.list .str)]], []⟩
@[reducible] noncomputable def f59_p0_outs : List (Ex × Shape) := [(.normal, f59_p0_o0)]
@[reducible] noncomputable def f59_p0_a : Ann Tryd.prog 0 true (f59_c.cr.cr.cr.cl.cr.cb.cb.cr.cr.cl.cb.cr.cl) := (.leaf _)
noncomputable def f59_p0_F (y : f59_p0_sh.den) : Option (OutDen f59_p0_outs) := evA f59_E f59_p0_a (fill f59_p0_sh y) (packOut f59_p0_outs)
theorem f59_p0_ok : PieceSound Tryd.prog 0 true (f59_c.cr.cr.cr.cl.cr.cb.cb.cr.cr.cl.cb.cr.cl) f59_p0_sh f59_p0_outs f59_p0_F := piece_of (f59_E_okE) f59_p0_a rfl rfl fun _ => rfl
@[reducible] noncomputable def f59_p1_sh : Shape := ⟨[.dead, .ptr 0 0, .dead, .dead, .dead, .dead, .dead, .dead, .dead, .dead, .dead, .dead, .dead, .dead, .dead, .dead, .dead, .dead, .dead, .dead, .dead, .dead, .dead, .dead, .dead, .dead, .dead, .dead, .dead, .dead, .dead, .dead, .dead, .dead, .dead, .dead, .dead, .dead, .dead, .dead, .dead, .dead, .dead, .dead, .dead, .dead, .dead, .dead, .dead, .dead, .dead, .dead, .dead, .dead, .dead, .dead, .dead, .dead, .dead, .dead, .dead, .dead, .dead, .dead, .dead, .dead, .dead, .dead, .dead, .dead, .dead, .dead, .dead, .dead, .dead, .dead, .dead, .dead, .dead, .dead, .dead, .dead, .dead, .dead, .hole (.list .str), .hole (.int .i64), .hole (.int .i64), .dead, .dead, .dead, .dead, .dead, .dead, .dead, .dead, .dead, .dead, .dead, .dead, .dead, .dead, .dead, .dead, .dead, .dead, .dead, .dead, .dead, .dead, .dead], [some [.hole (.int .i64), .hole (.int .i64), .hole .str, .hole (.list .value), .hole (.list .str)]], []⟩
@[reducible] noncomputable def f59_p1_o0 : Shape := ⟨[.dead, .dead, .dead, .dead, .dead, .dead, .dead, .dead, .dead, .dead, .dead, .dead, .dead, .dead, .dead, .dead, .dead, .dead, .dead, .dead, .dead, .dead, .dead, .dead, .dead, .dead, .dead, .dead, .dead, .dead, .dead, .dead, .dead, .dead, .dead, .dead, .dead, .dead, .dead, .dead, .dead, .dead, .dead, .dead, .dead, .dead, .dead, .dead, .dead, .dead, .dead, .dead, .dead, .dead, .dead, .dead, .dead, .dead, .dead, .dead, .dead, .dead, .dead, .dead, .dead, .dead, .dead, .dead, .dead, .dead, .dead, .dead, .dead, .dead, .dead, .dead, .dead, .dead, .dead, .dead, .dead, .dead, .dead, .dead, .dead, .dead, .dead, .dead, .dead, .dead, .dead, .dead, .dead, .dead, .dead, .dead, .dead, .dead, .dead, .dead, .dead, .dead, .dead, .dead, .dead, .dead, .dead, .dead, .dead, .dead], [], []⟩
@[reducible] noncomputable def f59_p1_o1 : Shape := ⟨[.dead, .dead, .hole .bool, .dead, .dead, .dead, .dead, .dead, .dead, .dead, .dead, .dead, .dead, .dead, .dead, .dead, .dead, .dead, .dead, .dead, .dead, .dead, .dead, .dead, .dead, .dead, .dead, .dead, .dead, .dead, .dead, .dead, .dead, .dead, .dead, .dead, .dead, .dead, .dead, .dead, .dead, .dead, .dead, .dead, .dead, .dead, .dead, .dead, .dead, .dead, .dead, .dead, .dead, .dead, .dead, .dead, .dead, .dead, .dead, .dead, .dead, .dead, .dead, .dead, .dead, .dead, .dead, .dead, .dead, .dead, .dead, .dead, .dead, .dead, .dead, .dead, .dead, .dead, .dead, .dead, .dead, .dead, .dead, .dead, .dead, .dead, .dead, .dead, .dead, .dead, .dead, .dead, .dead, .dead, .dead, .dead, .dead, .dead, .dead, .dead, .dead, .dead, .dead, .dead, .dead, .dead, .dead, .dead, .dead, .dead], [], []⟩
@[reducible] noncomputable def f59_p1_outs : List (Ex × Shape) := [(.exit 0, f59_p1_o0), (.ret, f59_p1_o1)]
@[reducible] noncomputable def f59_p1_a : Ann Tryd.prog 0 true (f59_c.cr.cr.cr.cl.cr.cb.cb) := (.seq (.leaf _) (.seq (.leaf _) (.seq (.block (.seq (.leaf _) (.seq (.piece _ _ _ f59_p0_ok) (.leaf _)))) (.leaf _))))
noncomputable def f59_p1_st (rec : f59_p1_sh.den → Option (OutDen f59_p1_outs)) (y : f59_p1_sh.den) : Option (OutDen f59_p1_outs) := evA f59_E f59_p1_a (fill f59_p1_sh y) fun ex st => match ex with | .normal => (abs f59_p1_sh st).bind rec | e => packOut f59_p1_outs e st
theorem f59_p1_ok : PieceSound Tryd.prog 0 true (.loop (f59_c.cr.cr.cr.cl.cr.cb.cb)) f59_p1_sh f59_p1_outs (go f59_p1_st) := go_of (f59_E_okE) f59_p1_a rfl rfl fun _ _ => rfl
@[reducible] noncomputable def f59_p2_sh : Shape := ⟨[.dead, .ptr 0 0, .dead, .dead, .dead, .dead, .dead, .dead, .dead, .dead, .dead, .dead, .dead, .dead, .dead, .dead, .dead, .dead, .dead, .dead, .dead, .dead, .dead, .dead, .dead, .dead, .dead, .dead, .dead, .dead, .dead, .dead, .dead, .dead, .dead, .dead, .dead, .dead, .dead, .dead, .dead, .dead, .dead, .dead, .dead, .dead, .dead, .dead, .dead, .dead, .dead, .dead, .dead, .dead, .dead, .dead, .dead, .dead, .dead, .dead, .dead, .dead, .dead, .dead, .dead, .dead, .dead, .dead, .dead, .dead, .dead, .dead, .dead, .dead, .dead, .dead, .dead, .dead, .dead, .dead, .dead, .dead, .dead, .dead, .dead, .dead, .dead, .dead, .dead, .dead, .dead, .dead, .dead, .dead, .dead, .dead, .dead, .dead, .dead, .dead, .dead, .dead, .dead, .dead, .dead, .dead, .dead, .dead, .dead, .dead], [some [.hole (.int .i64), .hole (.int .i64), .hole .str, .hole (.list .value), .hole (.list .str)]], []⟩
@[reducible] noncomputable def f59_p2_o0 : Shape := ⟨[.dead, .ptr 0 0, .dead, .dead, .dead, .dead, .dead, .dead, .dead, .dead, .dead, .dead, .dead, .dead, .dead, .dead, .dead, .dead, .dead, .dead, .dead, .dead, .dead, .dead, .dead, .dead, .dead, .dead, .dead, .dead, .dead, .dead, .dead, .dead, .dead, .dead, .dead, .dead, .dead, .dead, .dead, .dead, .dead, .dead, .dead, .dead, .dead, .dead, .dead, .dead, .dead, .dead, .dead, .dead, .dead, .dead, .dead, .dead, .dead, .dead, .dead, .dead, .dead, .dead, .dead, .dead, .dead, .dead, .dead, .dead, .dead, .dead, .dead, .dead, .dead, .dead, .dead, .dead, .dead, .dead, .dead, .dead, .hole .bool, .dead, .dead, .dead, .dead, .dead, .dead, .dead, .dead, .dead, .dead, .dead, .dead, .dead, .dead, .dead, .dead, .dead, .dead, .dead, .dead, .dead, .dead, .dead, .dead, .dead, .dead, .dead], [some [.hole (.int .i64), .hole (.int .i64), .hole .str, .hole (.list .value), .hole (.list .str)]], []⟩
@[reducible] noncomputable def f59_p2_outs : List (Ex × Shape) := [(.normal, f59_p2_o0)]
@[reducible] noncomputable def f59_p2_a : Ann Tryd.prog 0 true (f59_c.cr.cr.cl.cl) := (.leaf _)
noncomputable def f59_p2_F (y : f59_p2_sh.den) : Option (OutDen f59_p2_outs) := evA f59_E f59_p2_a (fill f59_p2_sh y) (packOut f59_p2_outs)
theorem f59_p2_ok : PieceSound Tryd.prog 0 true (f59_c.cr.cr.cl.cl) f59_p2_sh f59_p2_outs f59_p2_F := piece_of (f59_E_okE) f59_p2_a rfl rfl fun _ => rfl
@[reducible] noncomputable def f59_p3_sh : Shape := ⟨[.dead, .ptr 0 0, .dead, .dead, .dead, .dead, .dead, .dead, .dead, .dead, .dead, .dead, .dead, .dead, .dead, .dead, .dead, .dead, .dead, .dead, .dead, .dead, .dead, .dead, .dead, .dead, .dead, .dead, .dead, .dead, .dead, .dead, .dead, .dead, .dead, .dead, .dead, .dead, .dead, .dead, .dead, .dead, .dead, .dead, .dead, .dead, .dead, .dead, .dead, .dead, .dead, .dead, .dead, .dead, .dead, .dead, .dead, .dead, .dead, .dead, .dead, .dead, .dead, .dead, .dead, .dead, .dead, .dead, .dead, .dead, .dead, .dead, .dead, .dead, .dead, .dead, .dead, .dead, .dead, .dead, .dead, .dead, .dead, .dead, .dead, .dead, .dead, .dead, .dead, .dead, .dead, .dead, .dead, .dead, .dead, .dead, .dead, .dead, .dead, .dead, .dead, .dead, .dead, .dead, .dead, .dead, .dead, .dead, .dead, .dead], [some [.hole (.int .i64), .hole (.int .i64), .hole .str, .hole (.list .value), .hole (.list .str)]], []⟩
@[reducible] noncomputable def f59_p3_o0 : Shape := ⟨[.dead, .ptr 0 0, .dead, .dead, .dead, .dead, .dead, .dead, .dead, .dead, .dead, .dead, .dead, .dead, .dead, .dead, .dead, .dead, .dead, .dead, .dead, .dead, .dead, .dead, .dead, .dead, .dead, .dead, .dead, .dead, .dead, .dead, .dead, .dead, .dead, .dead, .dead, .dead, .dead, .dead, .dead, .dead, .dead, .dead, .dead, .dead, .dead, .dead, .dead, .dead, .dead, .dead, .dead, .dead, .hole .bool, .dead, .dead, .dead, .dead, .dead, .dead, .dead, .dead, .dead, .dead, .dead, .dead, .dead, .dead, .dead, .dead, .dead, .dead, .dead, .dead, .dead, .dead, .dead, .dead, .dead, .dead, .dead, .dead, .dead, .dead, .dead, .dead, .dead, .dead, .dead, .dead, .dead, .dead, .dead, .dead, .dead, .dead, .dead, .dead, .dead, .dead, .dead, .dead, .dead, .dead, .dead, .dead, .dead, .dead, .dead], [some [.hole (.int .i64), .hole (.int .i64), .hole .str, .hole (.list .value), .hole (.list .str)]], []⟩
@[reducible] noncomputable def f59_p3_outs : List (Ex × Shape) := [(.normal, f59_p3_o0)]
@[reducible] noncomputable def f59_p3_a : Ann Tryd.prog 0 true (f59_c.cr.cl.cl) := (.leaf _)
noncomputable def f59_p3_F (y : f59_p3_sh.den) : Option (OutDen f59_p3_outs) := evA f59_E f59_p3_a (fill f59_p3_sh y) (packOut f59_p3_outs)
theorem f59_p3_ok : PieceSound Tryd.prog 0 true (f59_c.cr.cl.cl) f59_p3_sh f59_p3_outs f59_p3_F := piece_of (f59_E_okE) f59_p3_a rfl rfl fun _ => rfl
@[reducible] noncomputable def f59_ps : List KD := [.agg [(.int .i64), (.int .i64), .str, (.list .value), (.list .str)]]
@[reducible] noncomputable def f59_rs : List KD := [.one .bool]
@[reducible] noncomputable def f59_a : Ann Tryd.prog 0 true f59_c := (.seq (.leaf _) (.seq (.seq (.piece _ _ _ f59_p3_ok) (.leaf _)) (.seq (.seq (.piece _ _ _ f59_p2_ok) (.leaf _)) (.seq (.seq (.leaf _) (.block (.piece _ _ _ f59_p1_ok))) (.leaf _)))))
noncomputable def f59_F (y : argsDen f59_ps) : Option (argsDen f59_rs) := evFunA f59_E Tryd.f59 f59_a (encArgs f59_ps y) (decRes f59_rs)
theorem f59_ok : Sound Tryd.prog 59 (pfun f59_F) := sound_of (c := f59_c) (f59_E_okE) (by kernel_rfl) (by kernel_rfl) (by kernel_rfl) f59_a (fun _ => rfl)
@[reducible] noncomputable def f38_ps : List KD := [.agg [(.int .i64), (.int .i64), .str, (.list .value), (.list .str)]]
@[reducible] noncomputable def f38_rs : List KD := [.one .bool]
@[reducible] noncomputable def f38_c : Code := codeOf Tryd.f38
@[reducible] noncomputable def f38_E (G : argsDen f38_ps → Option (argsDen f38_rs)) (hG : Sound Tryd.prog 38 (pfun G)) : Env := envOf Tryd.prog 25 [rowOf true hG, rowOf true f59_ok] []
theorem f38_E_okE (G : argsDen f38_ps → Option (argsDen f38_rs)) (hG : Sound Tryd.prog 38 (pfun G)) : EnvOk Tryd.prog (f38_E G hG) := envOf_ok _ _ _ mixed
/-! ### imprimatur/imprimaturref11.each -/
@[reducible] noncomputable def f38_p0_sh : Shape := ⟨[.dead, .ptr 0 0, .dead, .dead, .dead, .dead, .hole (.list .value), .hole (.int .i64), .hole (.int .i64), .dead, .dead, .dead, .dead, .dead, .dead, .dead, .dead, .dead], [some [.hole (.int .i64), .hole (.int .i64), .hole .str, .hole (.list .value), .hole (.list .str)]], []⟩
@[reducible] noncomputable def f38_p0_o0 : Shape := ⟨[.dead, .ptr 0 0, .dead, .dead, .dead, .dead, .dead, .dead, .dead, .dead, .dead, .dead, .dead, .dead, .dead, .dead, .dead, .dead], [some [.hole (.int .i64), .hole (.int .i64), .hole .str, .hole (.list .value), .hole (.list .str)]], []⟩
@[reducible] noncomputable def f38_p0_o1 : Shape := ⟨[.dead, .dead, .hole .bool, .dead, .dead, .dead, .dead, .dead, .dead, .dead, .dead, .dead, .dead, .dead, .dead, .dead, .dead, .dead], [], []⟩
@[reducible] noncomputable def f38_p0_outs : List (Ex × Shape) := [(.exit 0, f38_p0_o0), (.ret, f38_p0_o1)]
@[reducible] noncomputable def f38_p0_a (G : argsDen f38_ps → Option (argsDen f38_rs)) (hG : Sound Tryd.prog 38 (pfun G)) : Ann Tryd.prog 0 true (f38_c.cr.cl.cr.cb.cb) := (.leaf _)
noncomputable def f38_p0_st (G : argsDen f38_ps → Option (argsDen f38_rs)) (hG : Sound Tryd.prog 38 (pfun G)) (rec : f38_p0_sh.den → Option (OutDen f38_p0_outs)) (y : f38_p0_sh.den) : Option (OutDen f38_p0_outs) := evA (f38_E G hG) (f38_p0_a G hG) (fill f38_p0_sh y) fun ex st => match ex with | .normal => (abs f38_p0_sh st).bind rec | e => packOut f38_p0_outs e st
theorem f38_p0_ok (G : argsDen f38_ps → Option (argsDen f38_rs)) (hG : Sound Tryd.prog 38 (pfun G)) : PieceSound Tryd.prog 0 true (.loop (f38_c.cr.cl.cr.cb.cb)) f38_p0_sh f38_p0_outs (go (f38_p0_st G hG)) := go_of (f38_E_okE G hG) (f38_p0_a G hG) rfl rfl fun _ _ => rfl
@[reducible] noncomputable def f38_a (G : argsDen f38_ps → Option (argsDen f38_rs)) (hG : Sound Tryd.prog 38 (pfun G)) : Ann Tryd.prog 0 true f38_c := (.seq (.leaf _) (.seq (.seq (.leaf _) (.block (.piece _ _ _ (f38_p0_ok G hG)))) (.leaf _)))
noncomputable def f38_b (G : argsDen f38_ps → Option (argsDen f38_rs)) (hG : Sound Tryd.prog 38 (pfun G)) (y : argsDen f38_ps) : Option (argsDen f38_rs) := evFunA (f38_E G hG) Tryd.f38 (f38_a G hG) (encArgs f38_ps y) (decRes f38_rs)
theorem f38_bok (G : argsDen f38_ps → Option (argsDen f38_rs)) (hG : Sound Tryd.prog 38 (pfun G)) : Sound Tryd.prog 38 (pfun (f38_b G hG)) := sound_of (c := f38_c) (f38_E_okE G hG) (by kernel_rfl) (by kernel_rfl) (by kernel_rfl) (f38_a G hG) (fun _ => rfl)
theorem f38_has : ∃ fn, Tryd.prog.funcs[38]? = some fn ∧ (fn.name == "runtime.NumGoroutine") = false ∧ fn.body.isSome = true := ⟨Tryd.f38, by kernel_rfl, by kernel_rfl, by kernel_rfl⟩
noncomputable def f38_S : (n : Nat) → {F : argsDen f38_ps → Option (argsDen f38_rs) // Sound Tryd.prog 38 (pfun F)} := recF f38_has fun F h => ⟨f38_b F h, f38_bok F h⟩
noncomputable def f38_F : argsDen f38_ps → Option (argsDen f38_rs) := (f38_S recN).1
theorem f38_ok : Sound Tryd.prog 38 (pfun f38_F) := (f38_S recN).2
@[reducible] noncomputable def f20_c : Code := codeOf Tryd.f20
@[reducible] noncomputable def f20_E : Env := envOf Tryd.prog 25 [rowOf true f16_ok, rowOf true f18_ok, rowOf true f38_ok] []
theorem f20_E_okE : EnvOk Tryd.prog f20_E := envOf_ok _ _ _ mixed
/-! ### imprimatur/imprimaturref11.Right -/
@[reducible] noncomputable def f20_ps : List KD := [.agg [(.int .i64), (.int .i64), .str, (.list .value), (.list .str)]]
@[reducible] noncomputable def f20_rs : List KD := [.one .bool]
@[reducible] noncomputable def f20_a : Ann Tryd.prog 0 true f20_c := (.leaf _)
noncomputable def f20_F (y : argsDen f20_ps) : Option (argsDen f20_rs) := evFunA f20_E Tryd.f20 f20_a (encArgs f20_ps y) (decRes f20_rs)
theorem f20_ok : Sound Tryd.prog 20 (pfun f20_F) := sound_of (c := f20_c) (f20_E_okE) (by kernel_rfl) (by kernel_rfl) (by kernel_rfl) f20_a (fun _ => rfl)
@[reducible] noncomputable def f40_c : Code := codeOf Tryd.f40
@[reducible] noncomputable def f40_E : Env := envOf Tryd.prog 25 [] [] [5]
theorem f40_E_okE : EnvOk Tryd.prog f40_E := envOf_ok _ _ _ mixed [5]
/-! ### imprimatur/imprimaturref11.Quoted -/
@[reducible] noncomputable def f40_p0_sh : Shape := ⟨[.hole .str, .dead, .dead, .whole 0, .hole (.int .i64), .dead, .dead, .dead, .dead, .dead, .dead, .dead, .dead, .dead, .dead, .dead, .dead, .dead, .dead, .dead, .dead, .dead, .dead, .dead, .dead, .dead, .dead, .dead, .dead, .dead, .dead, .dead, .dead, .dead, .dead, .dead], [], [some (.int .u8)]⟩
@[reducible] noncomputable def f40_p0_o0 : Shape := ⟨[.hole .str, .dead, .dead, .whole 0, .hole (.int .i64), .dead, .dead, .dead, .dead, .dead, .dead, .dead, .dead, .dead, .dead, .dead, .dead, .dead, .dead, .dead, .dead, .hole .bool, .dead, .dead, .dead, .dead, .dead, .dead, .dead, .dead, .dead, .dead, .dead, .dead, .dead, .dead], [], [some (.int .u8)]⟩
@[reducible] noncomputable def f40_p0_outs : List (Ex × Shape) := [(.normal, f40_p0_o0)]
@[reducible] noncomputable def f40_p0_a : Ann Tryd.prog 0 true (f40_c.cr.cr.cl.cr.cb.cb.cr.cl.cb.cl.cl) := (.leaf _)
noncomputable def f40_p0_F (y : f40_p0_sh.den) : Option (OutDen f40_p0_outs) := evA f40_E f40_p0_a (fill f40_p0_sh y) (packOut f40_p0_outs)
theorem f40_p0_ok : PieceSound Tryd.prog 0 true (f40_c.cr.cr.cl.cr.cb.cb.cr.cl.cb.cl.cl) f40_p0_sh f40_p0_outs f40_p0_F := piece_of (f40_E_okE) f40_p0_a rfl rfl fun _ => rfl
@[reducible] noncomputable def f40_p1_sh : Shape := ⟨[.hole .str, .dead, .dead, .whole 0, .hole (.int .i64), .dead, .dead, .dead, .dead, .dead, .dead, .dead, .dead, .dead, .dead, .dead, .dead, .dead, .dead, .dead, .dead, .dead, .dead, .dead, .dead, .dead, .dead, .dead, .dead, .dead, .dead, .dead, .dead, .dead, .dead, .dead], [], [some (.int .u8)]⟩
@[reducible] noncomputable def f40_p1_o0 : Shape := ⟨[.hole .str, .dead, .dead, .whole 0, .hole (.int .i64), .dead, .dead, .dead, .dead, .dead, .dead, .dead, .dead, .dead, .dead, .dead, .dead, .dead, .dead, .dead, .dead, .dead, .dead, .dead, .dead, .dead, .dead, .dead, .dead, .dead, .dead, .dead, .dead, .dead, .dead, .dead], [], [some (.int .u8)]⟩
@[reducible] noncomputable def f40_p1_outs : List (Ex × Shape) := [(.normal, f40_p1_o0)]
@[reducible] noncomputable def f40_p1_a : Ann Tryd.prog 0 true (f40_c.cr.cr.cl.cr.cb.cb.cr.cl.cb.cl) := (.seq (.piece _ _ _ f40_p0_ok) (.leaf _))
noncomputable def f40_p1_F (y : f40_p1_sh.den) : Option (OutDen f40_p1_outs) := evA f40_E f40_p1_a (fill f40_p1_sh y) (packOut f40_p1_outs)
theorem f40_p1_ok : PieceSound Tryd.prog 0 true (f40_c.cr.cr.cl.cr.cb.cb.cr.cl.cb.cl) f40_p1_sh f40_p1_outs f40_p1_F := piece_of (f40_E_okE) f40_p1_a rfl rfl fun _ => rfl
@[reducible] noncomputable def f40_p2_sh : Shape := ⟨[.hole .str, .dead, .dead, .whole 0, .hole (.int .i64), .dead, .dead, .dead, .dead, .dead, .dead, .dead, .dead, .dead, .dead, .dead, .dead, .dead, .dead, .dead, .dead, .dead, .dead, .dead, .dead, .dead, .dead, .dead, .dead, .dead, .dead, .dead, .dead, .dead, .dead, .dead], [], [some (.int .u8)]⟩
@[reducible] noncomputable def f40_p2_o0 : Shape := ⟨[.dead, .dead, .dead, .whole 0, .dead, .dead, .dead, .dead, .dead, .dead, .dead, .dead, .dead, .dead, .dead, .dead, .dead, .dead, .dead, .dead, .dead, .dead, .dead, .dead, .dead, .dead, .dead, .dead, .dead, .dead, .dead, .dead, .dead, .dead, .dead, .dead], [], [some (.int .u8)]⟩
@[reducible] noncomputable def f40_p2_outs : List (Ex × Shape) := [(.exit 0, f40_p2_o0)]
@[reducible] noncomputable def f40_p2_a : Ann Tryd.prog 0 true (f40_c.cr.cr.cl.cr.cb.cb) := (.seq (.leaf _) (.seq (.block (.seq (.piece _ _ _ f40_p1_ok) (.leaf _))) (.leaf _)))
noncomputable def f40_p2_st (rec : f40_p2_sh.den → Option (OutDen f40_p2_outs)) (y : f40_p2_sh.den) : Option (OutDen f40_p2_outs) := evA f40_E f40_p2_a (fill f40_p2_sh y) fun ex st => match ex with | .normal => (abs f40_p2_sh st).bind rec | e => packOut f40_p2_outs e st
theorem f40_p2_ok : PieceSound Tryd.prog 0 true (.loop (f40_c.cr.cr.cl.cr.cb.cb)) f40_p2_sh f40_p2_outs (go f40_p2_st) := go_of (f40_E_okE) f40_p2_a rfl rfl fun _ _ => rfl
@[reducible] noncomputable def f40_ps : List KD := [.one .str]
@[reducible] noncomputable def f40_rs : List KD := [.one .str]
@[reducible] noncomputable def f40_a : Ann Tryd.prog 0 true f40_c := (.seq (.leaf _) (.seq (.leaf _) (.seq (.seq (.leaf _) (.block (.piece _ _ _ f40_p2_ok))) (.leaf _))))
noncomputable def f40_F (y : argsDen f40_ps) : Option (argsDen f40_rs) := evFunA f40_E Tryd.f40 f40_a (encArgs f40_ps y) (decRes f40_rs)
theorem f40_ok : Sound Tryd.prog 40 (pfun f40_F) := sound_of (c := f40_c) (f40_E_okE) (by kernel_rfl) (by kernel_rfl) (by kernel_rfl) f40_a (fun _ => rfl)
@[reducible] noncomputable def f21_ps : List KD := [.agg [(.int .i64), (.int .i64), .str, (.list .value), (.list .str)]]
@[reducible] noncomputable def f21_rs : List KD := [.one .str]
@[reducible] noncomputable def f21_c : Code := codeOf Tryd.f21
@[reducible] noncomputable def f21_E (G : argsDen f21_ps → Option (argsDen f21_rs)) (hG : Sound Tryd.prog 21 (pfun G)) : Env := envOf Tryd.prog 25 [rowOf true format_ok, rowOf true f40_ok, rowOf true hG] []
theorem f21_E_okE (G : argsDen f21_ps → Option (argsDen f21_rs)) (hG : Sound Tryd.prog 21 (pfun G)) : EnvOk Tryd.prog (f21_E G hG) := envOf_ok _ _ _ mixed
/-! ### imprimatur/imprimaturref11.Write -/
@[reducible] noncomputable def f21_p0_sh : Shape := ⟨[.dead, .ptr 0 0, .dead, .hole .str, .hole (.int .i64), .ptr 1 0, .dead, .dead, .dead, .dead, .dead, .dead, .dead, .dead, .dead, .dead, .dead, .dead, .dead, .hole (.list .value), .hole (.int .i64), .hole (.int .i64), .dead, .dead, .dead, .dead, .dead, .dead, .dead, .dead, .dead, .dead, .dead, .dead, .dead, .dead, .dead, .dead, .dead, .dead, .dead, .dead, .dead, .dead, .dead, .dead, .dead, .dead, .dead, .dead, .dead, .dead, .dead, .dead, .dead, .dead], [some [.hole (.int .i64), .hole (.int .i64), .hole .str, .hole (.list .value), .hole (.list .str)], some [.hole (.int .i64), .hole (.int .i64), .hole .str, .hole (.list .value), .hole (.list .str)]], []⟩
@[reducible] noncomputable def f21_p0_o0 : Shape := ⟨[.dead, .ptr 0 0, .dead, .hole .str, .dead, .ptr 1 0, .dead, .dead, .dead, .dead, .dead, .dead, .dead, .dead, .dead, .dead, .dead, .dead, .dead, .hole (.list .value), .hole (.int .i64), .hole (.int .i64), .dead, .dead, .dead, .dead, .dead, .dead, .dead, .dead, .dead, .dead, .dead, .dead, .dead, .dead, .dead, .dead, .dead, .dead, .dead, .dead, .dead, .dead, .dead, .dead, .dead, .dead, .dead, .dead, .dead, .dead, .dead, .dead, .dead, .dead], [some [.hole (.int .i64), .hole (.int .i64), .hole .str, .hole (.list .value), .hole (.list .str)], some [.hole (.int .i64), .hole (.int .i64), .hole .str, .hole (.list .value), .hole (.list .str)]], []⟩
@[reducible] noncomputable def f21_p0_outs : List (Ex × Shape) := [(.normal, f21_p0_o0)]
@[reducible] noncomputable def f21_p0_a (G : argsDen f21_ps → Option (argsDen f21_rs)) (hG : Sound Tryd.prog 21 (pfun G)) : Ann Tryd.prog 0 true (f21_c.cr.cr.cr.cr.cl.cr.cb.cb.cr.cr.cl.cb.cr.cr.cl) := (.leaf _)
noncomputable def f21_p0_F (G : argsDen f21_ps → Option (argsDen f21_rs)) (hG : Sound Tryd.prog 21 (pfun G)) (y : f21_p0_sh.den) : Option (OutDen f21_p0_outs) := evA (f21_E G hG) (f21_p0_a G hG) (fill f21_p0_sh y) (packOut f21_p0_outs)
theorem f21_p0_ok (G : argsDen f21_ps → Option (argsDen f21_rs)) (hG : Sound Tryd.prog 21 (pfun G)) : PieceSound Tryd.prog 0 true (f21_c.cr.cr.cr.cr.cl.cr.cb.cb.cr.cr.cl.cb.cr.cr.cl) f21_p0_sh f21_p0_outs (f21_p0_F G hG) := piece_of (f21_E_okE G hG) (f21_p0_a G hG) rfl rfl fun _ => rfl
@[reducible] noncomputable def f21_p1_sh : Shape := ⟨[.dead, .ptr 0 0, .dead, .hole .str, .hole (.int .i64), .ptr 1 0, .dead, .dead, .dead, .dead, .dead, .dead, .dead, .dead, .dead, .dead, .dead, .dead, .dead, .hole (.list .value), .hole (.int .i64), .hole (.int .i64), .dead, .dead, .dead, .dead, .dead, .dead, .dead, .dead, .dead, .dead, .dead, .dead, .dead, .dead, .dead, .dead, .dead, .dead, .dead, .dead, .dead, .dead, .dead, .dead, .dead, .dead, .dead, .dead, .dead, .dead, .dead, .dead, .dead, .dead], [some [.hole (.int .i64), .hole (.int .i64), .hole .str, .hole (.list .value), .hole (.list .str)], some [.hole (.int .i64), .hole (.int .i64), .hole .str, .hole (.list .value), .hole (.list .str)]], []⟩
@[reducible] noncomputable def f21_p1_o0 : Shape := ⟨[.dead, .ptr 0 0, .dead, .hole .str, .hole (.int .i64), .ptr 1 0, .dead, .dead, .dead, .dead, .dead, .dead, .dead, .dead, .dead, .dead, .dead, .dead, .dead, .hole (.list .value), .hole (.int .i64), .hole (.int .i64), .dead, .dead, .dead, .dead, .dead, .dead, .dead, .dead, .dead, .dead, .dead, .dead, .dead, .dead, .dead, .dead, .dead, .dead, .dead, .dead, .dead, .dead, .dead, .dead, .dead, .dead, .dead, .dead, .dead, .dead, .dead, .dead, .dead, .dead], [some [.hole (.int .i64), .hole (.int .i64), .hole .str, .hole (.list .value), .hole (.list .str)], some [.hole (.int .i64), .hole (.int .i64), .hole .str, .hole (.list .value), .hole (.list .str)]], []⟩
@[reducible] noncomputable def f21_p1_outs : List (Ex × Shape) := [(.normal, f21_p1_o0)]
@[reducible] noncomputable def f21_p1_a (G : argsDen f21_ps → Option (argsDen f21_rs)) (hG : Sound Tryd.prog 21 (pfun G)) : Ann Tryd.prog 0 true (f21_c.cr.cr.cr.cr.cl.cr.cb.cb.cr.cr.cl.cb.cr.cl) := (.leaf _)
noncomputable def f21_p1_F (G : argsDen f21_ps → Option (argsDen f21_rs)) (hG : Sound Tryd.prog 21 (pfun G)) (y : f21_p1_sh.den) : Option (OutDen f21_p1_outs) := evA (f21_E G hG) (f21_p1_a G hG) (fill f21_p1_sh y) (packOut f21_p1_outs)
theorem f21_p1_ok (G : argsDen f21_ps → Option (argsDen f21_rs)) (hG : Sound Tryd.prog 21 (pfun G)) : PieceSound Tryd.prog 0 true (f21_c.cr.cr.cr.cr.cl.cr.cb.cb.cr.cr.cl.cb.cr.cl) f21_p1_sh f21_p1_outs (f21_p1_F G hG) := piece_of (f21_E_okE G hG) (f21_p1_a G hG) rfl rfl fun _ => rfl
@[reducible] noncomputable def f21_p2_sh : Shape := ⟨[.dead, .ptr 0 0, .dead, .hole .str, .dead, .dead, .dead, .dead, .dead, .dead, .dead, .dead, .dead, .dead, .dead, .dead, .dead, .dead, .dead, .hole (.list .value), .hole (.int .i64), .hole (.int .i64), .dead, .dead, .dead, .dead, .dead, .dead, .dead, .dead, .dead, .dead, .dead, .dead, .dead, .dead, .dead, .dead, .dead, .dead, .dead, .dead, .dead, .dead, .dead, .dead, .dead, .dead, .dead, .dead, .dead, .dead, .dead, .dead, .dead, .dead], [some [.hole (.int .i64), .hole (.int .i64), .hole .str, .hole (.list .value), .hole (.list .str)]], []⟩
@[reducible] noncomputable def f21_p2_o0 : Shape := ⟨[.dead, .ptr 0 0, .dead, .hole .str, .dead, .dead, .dead, .dead, .dead, .dead, .dead, .dead, .dead, .dead, .dead, .dead, .dead, .dead, .dead, .dead, .dead, .dead, .dead, .dead, .dead, .dead, .dead, .dead, .dead, .dead, .dead, .dead, .dead, .dead, .dead, .dead, .dead, .dead, .dead, .dead, .dead, .dead, .dead, .dead, .dead, .dead, .dead, .dead, .dead, .dead, .dead, .dead, .dead, .dead, .dead, .dead], [some [.hole (.int .i64), .hole (.int .i64), .hole .str, .hole (.list .value), .hole (.list .str)]], []⟩
@[reducible] noncomputable def f21_p2_outs : List (Ex × Shape) := [(.exit 0, f21_p2_o0)]
@[reducible] noncomputable def f21_p2_a (G : argsDen f21_ps → Option (argsDen f21_rs)) (hG : Sound Tryd.prog 21 (pfun G)) : Ann Tryd.prog 0 true (f21_c.cr.cr.cr.cr.cl.cr.cb.cb) := (.seq (.leaf _) (.seq (.leaf _) (.seq (.block (.seq (.leaf _) (.seq (.piece _ _ _ (f21_p1_ok G hG)) (.seq (.piece _ _ _ (f21_p0_ok G hG)) (.leaf _))))) (.leaf _))))
noncomputable def f21_p2_st (G : argsDen f21_ps → Option (argsDen f21_rs)) (hG : Sound Tryd.prog 21 (pfun G)) (rec : f21_p2_sh.den → Option (OutDen f21_p2_outs)) (y : f21_p2_sh.den) : Option (OutDen f21_p2_outs) := evA (f21_E G hG) (f21_p2_a G hG) (fill f21_p2_sh y) fun ex st => match ex with | .normal => (abs f21_p2_sh st).bind rec | e => packOut f21_p2_outs e st
theorem f21_p2_ok (G : argsDen f21_ps → Option (argsDen f21_rs)) (hG : Sound Tryd.prog 21 (pfun G)) : PieceSound Tryd.prog 0 true (.loop (f21_c.cr.cr.cr.cr.cl.cr.cb.cb)) f21_p2_sh f21_p2_outs (go (f21_p2_st G hG)) := go_of (f21_E_okE G hG) (f21_p2_a G hG) rfl rfl fun _ _ => rfl
@[reducible] noncomputable def f21_a (G : argsDen f21_ps → Option (argsDen f21_rs)) (hG : Sound Tryd.prog 21 (pfun G)) : Ann Tryd.prog 0 true f21_c := (.seq (.leaf _) (.seq (.leaf _) (.seq (.leaf _) (.seq (.leaf _) (.seq (.seq (.leaf _) (.block (.piece _ _ _ (f21_p2_ok G hG)))) (.leaf _))))))
noncomputable def f21_b (G : argsDen f21_ps → Option (argsDen f21_rs)) (hG : Sound Tryd.prog 21 (pfun G)) (y : argsDen f21_ps) : Option (argsDen f21_rs) := evFunA (f21_E G hG) Tryd.f21 (f21_a G hG) (encArgs f21_ps y) (decRes f21_rs)
theorem f21_bok (G : argsDen f21_ps → Option (argsDen f21_rs)) (hG : Sound Tryd.prog 21 (pfun G)) : Sound Tryd.prog 21 (pfun (f21_b G hG)) := sound_of (c := f21_c) (f21_E_okE G hG) (by kernel_rfl) (by kernel_rfl) (by kernel_rfl) (f21_a G hG) (fun _ => rfl)
theorem f21_has : ∃ fn, Tryd.prog.funcs[21]? = some fn ∧ (fn.name == "runtime.NumGoroutine") = false ∧ fn.body.isSome = true := ⟨Tryd.f21, by kernel_rfl, by kernel_rfl, by kernel_rfl⟩
noncomputable def f21_S : (n : Nat) → {F : argsDen f21_ps → Option (argsDen f21_rs) // Sound Tryd.prog 21 (pfun F)} := recF f21_has fun F h => ⟨f21_b F h, f21_bok F h⟩
noncomputable def f21_F : argsDen f21_ps → Option (argsDen f21_rs) := (f21_S recN).1
theorem f21_ok : Sound Tryd.prog 21 (pfun f21_F) := (f21_S recN).2
@[reducible] noncomputable def f3_c : Code := codeOf Tryd.f3
@[reducible] noncomputable def f3_E : Env := envOf Tryd.prog 25 [rowOf true f12_ok, rowOf true f13_ok, rowOf true f14_ok, rowOf true f15_ok, rowOf true f16_ok, rowOf true f17_ok, rowOf true f18_ok, rowOf true f19_ok, rowOf true f20_ok, rowOf true f21_ok] []
theorem f3_E_okE : EnvOk Tryd.prog f3_E := envOf_ok _ _ _ mixed
/-! ### imprimatur/imprimaturlaw11.ValuePrints -/
@[reducible] noncomputable def f3_p0_sh : Shape := ⟨[.dead, .ptr 0 0, .dead, .hole .str, .hole (.int .i64), .dead, .dead, .dead, .dead, .dead, .dead, .dead, .dead, .dead, .dead, .dead, .dead, .dead, .dead, .dead, .dead, .dead, .dead, .dead, .dead, .dead, .dead, .dead, .dead, .dead, .dead, .dead, .dead, .dead, .dead, .dead, .dead, .dead, .dead, .dead, .dead, .dead, .dead, .dead, .dead, .dead, .dead, .dead, .dead, .dead, .dead, .dead, .dead], [some [.hole (.int .i64), .hole (.int .i64), .hole .str, .hole (.list .value), .hole (.list .str)]], []⟩
@[reducible] noncomputable def f3_p0_o0 : Shape := ⟨[.dead, .ptr 0 0, .dead, .hole .str, .hole (.int .i64), .dead, .dead, .dead, .dead, .dead, .dead, .dead, .dead, .dead, .dead, .dead, .dead, .dead, .dead, .dead, .dead, .dead, .dead, .dead, .dead, .dead, .dead, .dead, .dead, .dead, .dead, .dead, .dead, .dead, .dead, .hole .bool, .dead, .dead, .dead, .dead, .dead, .dead, .dead, .dead, .dead, .dead, .dead, .dead, .dead, .dead, .dead, .dead, .dead], [some [.hole (.int .i64), .hole (.int .i64), .hole .str, .hole (.list .value), .hole (.list .str)]], []⟩
@[reducible] noncomputable def f3_p0_outs : List (Ex × Shape) := [(.normal, f3_p0_o0)]
@[reducible] noncomputable def f3_p0_a : Ann Tryd.prog 0 true (f3_c.cr.cr.cr.cl.cl) := (.leaf _)
noncomputable def f3_p0_F (y : f3_p0_sh.den) : Option (OutDen f3_p0_outs) := evA f3_E f3_p0_a (fill f3_p0_sh y) (packOut f3_p0_outs)
theorem f3_p0_ok : PieceSound Tryd.prog 0 true (f3_c.cr.cr.cr.cl.cl) f3_p0_sh f3_p0_outs f3_p0_F := piece_of (f3_E_okE) f3_p0_a rfl rfl fun _ => rfl
@[reducible] noncomputable def f3_ps : List KD := [.agg [(.int .i64), (.int .i64), .str, (.list .value), (.list .str)]]
@[reducible] noncomputable def f3_rs : List KD := [.one .bool]
@[reducible] noncomputable def f3_a : Ann Tryd.prog 0 true f3_c := (.seq (.leaf _) (.seq (.leaf _) (.seq (.leaf _) (.seq (.seq (.piece _ _ _ f3_p0_ok) (.leaf _)) (.leaf _)))))
noncomputable def f3_F (y : argsDen f3_ps) : Option (argsDen f3_rs) := evFunA f3_E Tryd.f3 f3_a (encArgs f3_ps y) (decRes f3_rs)
theorem f3_ok : Sound Tryd.prog 3 (pfun f3_F) := sound_of (c := f3_c) (f3_E_okE) (by kernel_rfl) (by kernel_rfl) (by kernel_rfl) f3_a (fun _ => rfl)
@[reducible] noncomputable def f4_c : Code := codeOf Tryd.f4
@[reducible] noncomputable def f4_E : Env := envOf Tryd.prog 25 [rowOf false f22_ok, rowOf true f14_ok, rowOf true f13_ok, rowOf false f23_ok] []
theorem f4_E_okE : EnvOk Tryd.prog f4_E := envOf_ok _ _ _ mixed
/-! ### imprimatur/imprimaturlaw11.ValueTexts -/
@[reducible] noncomputable def f4_p0_sh : Shape := ⟨[.hole .str, .hole (.int .i64), .dead, .dead, .dead, .hole (.int .i64), .hole (.int .i64), .dead, .dead, .dead, .dead, .dead, .dead, .dead, .dead, .dead, .dead, .dead, .dead, .dead, .dead, .dead, .dead, .hole (.int .i64), .hole (.int .i64), .dead, .dead, .dead, .dead, .dead, .dead, .dead, .dead, .dead, .dead, .dead, .dead, .dead, .dead, .dead, .dead, .dead, .dead, .dead, .dead, .dead, .dead, .dead, .dead, .dead, .dead, .dead, .dead, .dead, .dead, .dead, .dead, .dead, .dead, .dead, .dead, .dead, .dead, .dead, .dead, .dead, .dead, .dead, .dead, .dead, .dead, .dead, .dead, .dead, .dead, .dead, .dead, .dead, .dead, .dead, .dead, .dead, .dead, .dead, .dead, .dead, .dead, .dead, .dead, .dead, .dead, .dead, .dead, .dead, .dead, .dead, .dead, .dead, .dead, .dead, .dead, .dead, .dead, .dead, .dead, .dead, .dead, .dead, .dead, .dead, .dead, .dead, .dead, .dead, .dead, .dead, .dead, .dead, .dead], [], []⟩
@[reducible] noncomputable def f4_p0_o0 : Shape := ⟨[.hole .str, .hole (.int .i64), .dead, .dead, .dead, .hole (.int .i64), .dead, .dead, .dead, .dead, .dead, .dead, .dead, .dead, .dead, .dead, .dead, .dead, .dead, .dead, .dead, .dead, .dead, .hole (.int .i64), .hole (.int .i64), .dead, .dead, .dead, .dead, .dead, .dead, .dead, .dead, .dead, .dead, .dead, .dead, .dead, .dead, .dead, .dead, .dead, .dead, .dead, .dead, .dead, .dead, .dead, .dead, .dead, .dead, .hole .bool, .dead, .dead, .dead, .dead, .dead, .dead, .dead, .dead, .dead, .dead, .dead, .dead, .dead, .dead, .dead, .dead, .dead, .dead, .dead, .dead, .dead, .dead, .dead, .dead, .dead, .dead, .dead, .dead, .dead, .dead, .dead, .dead, .dead, .dead, .dead, .dead, .dead, .dead, .dead, .dead, .dead, .dead, .dead, .dead, .dead, .dead, .dead, .dead, .dead, .dead, .dead, .dead, .dead, .dead, .dead, .dead, .dead, .dead, .dead, .dead, .dead, .dead, .dead, .dead, .dead, .dead, .dead], [], []⟩
@[reducible] noncomputable def f4_p0_outs : List (Ex × Shape) := [(.normal, f4_p0_o0)]
@[reducible] noncomputable def f4_p0_a : Ann Tryd.prog 0 true (f4_c.cr.cr.cr.cl.cr.cb.cb.cr.cr.cl.cb.cr.cr.cl) := (.leaf _)
noncomputable def f4_p0_F (y : f4_p0_sh.den) : Option (OutDen f4_p0_outs) := evA f4_E f4_p0_a (fill f4_p0_sh y) (packOut f4_p0_outs)
theorem f4_p0_ok : PieceSound Tryd.prog 0 true (f4_c.cr.cr.cr.cl.cr.cb.cb.cr.cr.cl.cb.cr.cr.cl) f4_p0_sh f4_p0_outs f4_p0_F := piece_of (f4_E_okE) f4_p0_a rfl rfl fun _ => rfl
@[reducible] noncomputable def f4_p1_sh : Shape := ⟨[.hole .str, .hole (.int .i64), .dead, .dead, .dead, .hole (.int .i64), .dead, .dead, .dead, .dead, .dead, .dead, .dead, .dead, .dead, .dead, .dead, .dead, .dead, .dead, .dead, .dead, .dead, .hole (.int .i64), .hole (.int .i64), .dead, .dead, .dead, .dead, .dead, .dead, .dead, .dead, .dead, .dead, .dead, .dead, .dead, .dead, .dead, .dead, .dead, .dead, .dead, .dead, .dead, .dead, .dead, .dead, .dead, .dead, .dead, .dead, .dead, .dead, .dead, .dead, .dead, .dead, .dead, .dead, .dead, .dead, .dead, .dead, .dead, .dead, .dead, .dead, .dead, .dead, .dead, .dead, .dead, .dead, .dead, .dead, .dead, .dead, .dead, .dead, .dead, .dead, .dead, .dead, .dead, .dead, .dead, .dead, .dead, .dead, .dead, .dead, .dead, .dead, .dead, .dead, .dead, .dead, .dead, .dead, .dead, .dead, .dead, .dead, .dead, .dead, .dead, .dead, .dead, .dead, .dead, .dead, .dead, .dead, .dead, .dead, .dead, .dead], [], []⟩
@[reducible] noncomputable def f4_p1_o0 : Shape := ⟨[.dead, .dead, .dead, .dead, .hole .bool, .dead, .dead, .dead, .dead, .dead, .dead, .dead, .dead, .dead, .dead, .dead, .dead, .dead, .dead, .dead, .dead, .dead, .dead, .dead, .dead, .dead, .dead, .dead, .dead, .dead, .dead, .dead, .dead, .dead, .dead, .dead, .dead, .dead, .dead, .dead, .dead, .dead, .dead, .dead, .dead, .dead, .dead, .dead, .dead, .dead, .dead, .dead, .dead, .dead, .dead, .dead, .dead, .dead, .dead, .dead, .dead, .dead, .dead, .dead, .dead, .dead, .dead, .dead, .dead, .dead, .dead, .dead, .dead, .dead, .dead, .dead, .dead, .dead, .dead, .dead, .dead, .dead, .dead, .dead, .dead, .dead, .dead, .dead, .dead, .dead, .dead, .dead, .dead, .dead, .dead, .dead, .dead, .dead, .dead, .dead, .dead, .dead, .dead, .dead, .dead, .dead, .dead, .dead, .dead, .dead, .dead, .dead, .dead, .dead, .dead, .dead, .dead, .dead, .dead], [], []⟩
@[reducible] noncomputable def f4_p1_o1 : Shape := ⟨[.hole .str, .hole (.int .i64), .dead, .dead, .dead, .hole (.int .i64), .dead, .dead, .dead, .dead, .dead, .dead, .dead, .dead, .dead, .dead, .dead, .dead, .dead, .dead, .dead, .dead, .dead, .hole (.int .i64), .hole (.int .i64), .dead, .dead, .dead, .dead, .dead, .dead, .dead, .dead, .dead, .dead, .dead, .dead, .dead, .dead, .dead, .dead, .dead, .dead, .dead, .dead, .dead, .dead, .dead, .dead, .dead, .dead, .dead, .dead, .dead, .dead, .dead, .dead, .dead, .dead, .dead, .dead, .dead, .dead, .dead, .dead, .dead, .dead, .dead, .dead, .dead, .dead, .dead, .dead, .dead, .dead, .dead, .dead, .dead, .dead, .dead, .dead, .dead, .dead, .dead, .dead, .dead, .dead, .dead, .dead, .dead, .dead, .dead, .dead, .dead, .dead, .dead, .dead, .dead, .dead, .dead, .dead, .dead, .dead, .dead, .dead, .dead, .dead, .dead, .dead, .dead, .dead, .dead, .dead, .dead, .dead, .dead, .dead, .dead, .dead], [], []⟩
@[reducible] noncomputable def f4_p1_outs : List (Ex × Shape) := [(.ret, f4_p1_o0), (.normal, f4_p1_o1)]
@[reducible] noncomputable def f4_p1_a : Ann Tryd.prog 0 true (f4_c.cr.cr.cr.cl.cr.cb.cb.cr.cr.cl) := (.block (.seq (.leaf _) (.seq (.leaf _) (.seq (.piece _ _ _ f4_p0_ok) (.leaf _)))))
noncomputable def f4_p1_F (y : f4_p1_sh.den) : Option (OutDen f4_p1_outs) := evA f4_E f4_p1_a (fill f4_p1_sh y) (packOut f4_p1_outs)
theorem f4_p1_ok : PieceSound Tryd.prog 0 true (f4_c.cr.cr.cr.cl.cr.cb.cb.cr.cr.cl) f4_p1_sh f4_p1_outs f4_p1_F := piece_of (f4_E_okE) f4_p1_a rfl rfl fun _ => rfl
@[reducible] noncomputable def f4_p2_sh : Shape := ⟨[.hole .str, .hole (.int .i64), .dead, .dead, .dead, .hole (.int .i64), .dead, .dead, .dead, .hole (.int .i64), .hole (.int .i64), .dead, .dead, .dead, .dead, .dead, .dead, .dead, .dead, .dead, .dead, .dead, .dead, .dead, .dead, .dead, .dead, .dead, .dead, .dead, .dead, .dead, .dead, .dead, .dead, .dead, .dead, .dead, .dead, .dead, .dead, .dead, .dead, .dead, .dead, .dead, .dead, .dead, .dead, .dead, .dead, .dead, .dead, .dead, .dead, .dead, .dead, .dead, .dead, .dead, .dead, .dead, .dead, .dead, .dead, .dead, .dead, .dead, .dead, .dead, .dead, .dead, .dead, .dead, .dead, .dead, .dead, .dead, .dead, .dead, .dead, .dead, .dead, .dead, .dead, .dead, .dead, .dead, .dead, .dead, .dead, .dead, .dead, .dead, .dead, .dead, .dead, .dead, .dead, .dead, .dead, .dead, .dead, .dead, .dead, .dead, .dead, .dead, .dead, .dead, .dead, .dead, .dead, .dead, .dead, .dead, .dead, .dead, .dead], [], []⟩
@[reducible] noncomputable def f4_p2_o0 : Shape := ⟨[.hole .str, .hole (.int .i64), .dead, .dead, .dead, .hole (.int .i64), .dead, .dead, .dead, .hole (.int .i64), .dead, .dead, .dead, .dead, .dead, .dead, .dead, .dead, .dead, .dead, .dead, .dead, .dead, .dead, .dead, .dead, .dead, .dead, .dead, .dead, .dead, .dead, .dead, .dead, .dead, .dead, .dead, .dead, .dead, .dead, .dead, .dead, .dead, .dead, .dead, .dead, .dead, .dead, .dead, .dead, .dead, .dead, .dead, .dead, .dead, .dead, .dead, .dead, .dead, .dead, .dead, .dead, .dead, .dead, .dead, .dead, .dead, .dead, .dead, .dead, .dead, .dead, .dead, .dead, .dead, .dead, .dead, .dead, .dead, .dead, .dead, .dead, .dead, .dead, .dead, .dead, .dead, .dead, .dead, .dead, .dead, .dead, .dead, .dead, .dead, .dead, .dead, .dead, .dead, .dead, .dead, .dead, .dead, .dead, .dead, .dead, .dead, .dead, .dead, .dead, .dead, .dead, .dead, .dead, .dead, .dead, .dead, .dead, .dead], [], []⟩
@[reducible] noncomputable def f4_p2_outs : List (Ex × Shape) := [(.exit 2, f4_p2_o0)]
@[reducible] noncomputable def f4_p2_a : Ann Tryd.prog 0 true (f4_c.cr.cr.cr.cr.cr.cl.cr.cb.cb) := (.leaf _)
noncomputable def f4_p2_st (rec : f4_p2_sh.den → Option (OutDen f4_p2_outs)) (y : f4_p2_sh.den) : Option (OutDen f4_p2_outs) := evA f4_E f4_p2_a (fill f4_p2_sh y) fun ex st => match ex with | .normal => (abs f4_p2_sh st).bind rec | e => packOut f4_p2_outs e st
theorem f4_p2_ok : PieceSound Tryd.prog 0 true (.loop (f4_c.cr.cr.cr.cr.cr.cl.cr.cb.cb)) f4_p2_sh f4_p2_outs (go f4_p2_st) := go_of (f4_E_okE) f4_p2_a rfl rfl fun _ _ => rfl
@[reducible] noncomputable def f4_p3_sh : Shape := ⟨[.hole .str, .hole (.int .i64), .dead, .dead, .dead, .hole (.int .i64), .dead, .dead, .dead, .hole (.int .i64), .dead, .dead, .dead, .dead, .dead, .dead, .dead, .dead, .dead, .dead, .dead, .dead, .dead, .dead, .dead, .dead, .dead, .dead, .dead, .dead, .dead, .dead, .dead, .dead, .dead, .dead, .dead, .dead, .dead, .dead, .dead, .dead, .dead, .dead, .dead, .dead, .dead, .dead, .dead, .dead, .dead, .dead, .dead, .dead, .dead, .dead, .dead, .dead, .dead, .dead, .dead, .dead, .dead, .dead, .dead, .dead, .dead, .dead, .dead, .dead, .dead, .dead, .dead, .dead, .dead, .dead, .dead, .dead, .dead, .dead, .dead, .dead, .dead, .dead, .dead, .dead, .dead, .dead, .dead, .dead, .dead, .dead, .dead, .dead, .dead, .dead, .dead, .dead, .dead, .dead, .dead, .dead, .dead, .dead, .dead, .dead, .dead, .dead, .dead, .dead, .dead, .dead, .dead, .dead, .dead, .dead, .dead, .dead, .dead], [], []⟩
@[reducible] noncomputable def f4_p3_o0 : Shape := ⟨[.hole .str, .hole (.int .i64), .dead, .dead, .dead, .hole (.int .i64), .dead, .dead, .dead, .hole (.int .i64), .dead, .dead, .dead, .dead, .dead, .dead, .dead, .dead, .dead, .dead, .dead, .dead, .dead, .dead, .dead, .dead, .dead, .dead, .dead, .dead, .dead, .dead, .dead, .dead, .dead, .dead, .dead, .dead, .dead, .dead, .dead, .dead, .dead, .dead, .dead, .dead, .dead, .dead, .dead, .dead, .dead, .dead, .dead, .dead, .dead, .dead, .dead, .dead, .dead, .dead, .dead, .dead, .dead, .dead, .dead, .dead, .dead, .dead, .dead, .dead, .dead, .dead, .dead, .dead, .dead, .dead, .dead, .dead, .dead, .dead, .dead, .dead, .dead, .dead, .dead, .dead, .dead, .dead, .dead, .dead, .dead, .dead, .dead, .dead, .dead, .dead, .dead, .dead, .dead, .dead, .dead, .dead, .dead, .dead, .dead, .dead, .dead, .dead, .dead, .dead, .dead, .dead, .dead, .dead, .dead, .dead, .dead, .dead, .dead], [], []⟩
@[reducible] noncomputable def f4_p3_outs : List (Ex × Shape) := [(.normal, f4_p3_o0)]
@[reducible] noncomputable def f4_p3_a : Ann Tryd.prog 0 true (f4_c.cr.cr.cr.cr.cr.cr.cl) := (.leaf _)
noncomputable def f4_p3_F (y : f4_p3_sh.den) : Option (OutDen f4_p3_outs) := evA f4_E f4_p3_a (fill f4_p3_sh y) (packOut f4_p3_outs)
theorem f4_p3_ok : PieceSound Tryd.prog 0 true (f4_c.cr.cr.cr.cr.cr.cr.cl) f4_p3_sh f4_p3_outs f4_p3_F := piece_of (f4_E_okE) f4_p3_a rfl rfl fun _ => rfl
@[reducible] noncomputable def f4_p4_sh : Shape := ⟨[.hole .str, .hole (.int .i64), .dead, .dead, .dead, .hole (.int .i64), .dead, .dead, .dead, .dead, .dead, .dead, .dead, .dead, .dead, .dead, .dead, .dead, .dead, .dead, .dead, .dead, .dead, .hole (.int .i64), .hole (.int .i64), .dead, .dead, .dead, .dead, .dead, .dead, .dead, .dead, .dead, .dead, .dead, .dead, .dead, .dead, .dead, .dead, .dead, .dead, .dead, .dead, .dead, .dead, .dead, .dead, .dead, .dead, .dead, .dead, .dead, .dead, .dead, .dead, .dead, .dead, .dead, .dead, .dead, .dead, .dead, .dead, .dead, .dead, .dead, .dead, .dead, .dead, .dead, .dead, .dead, .dead, .dead, .dead, .dead, .dead, .dead, .dead, .dead, .dead, .dead, .dead, .dead, .dead, .dead, .dead, .dead, .dead, .dead, .dead, .dead, .dead, .dead, .dead, .dead, .dead, .dead, .dead, .dead, .dead, .dead, .dead, .dead, .dead, .dead, .dead, .dead, .dead, .dead, .dead, .dead, .dead, .dead, .dead, .dead, .dead], [], []⟩
@[reducible] noncomputable def f4_p4_o0 : Shape := ⟨[.hole .str, .hole (.int .i64), .dead, .dead, .dead, .hole (.int .i64), .dead, .dead, .dead, .dead, .dead, .dead, .dead, .dead, .dead, .dead, .dead, .dead, .dead, .dead, .dead, .dead, .dead, .dead, .dead, .dead, .dead, .dead, .dead, .dead, .dead, .dead, .dead, .dead, .dead, .dead, .dead, .dead, .dead, .dead, .dead, .dead, .dead, .dead, .dead, .dead, .dead, .dead, .dead, .dead, .dead, .dead, .dead, .dead, .dead, .dead, .dead, .dead, .dead, .dead, .dead, .dead, .dead, .dead, .dead, .dead, .dead, .dead, .dead, .dead, .dead, .dead, .dead, .dead, .dead, .dead, .dead, .dead, .dead, .dead, .dead, .dead, .dead, .dead, .dead, .dead, .dead, .dead, .dead, .dead, .dead, .dead, .dead, .dead, .dead, .dead, .dead, .dead, .dead, .dead, .dead, .dead, .dead, .dead, .dead, .dead, .dead, .dead, .dead, .dead, .dead, .dead, .dead, .dead, .dead, .dead, .dead, .dead, .dead], [], []⟩
@[reducible] noncomputable def f4_p4_o1 : Shape := ⟨[.dead, .dead, .dead, .dead, .hole .bool, .dead, .dead, .dead, .dead, .dead, .dead, .dead, .dead, .dead, .dead, .dead, .dead, .dead, .dead, .dead, .dead, .dead, .dead, .dead, .dead, .dead, .dead, .dead, .dead, .dead, .dead, .dead, .dead, .dead, .dead, .dead, .dead, .dead, .dead, .dead, .dead, .dead, .dead, .dead, .dead, .dead, .dead, .dead, .dead, .dead, .dead, .dead, .dead, .dead, .dead, .dead, .dead, .dead, .dead, .dead, .dead, .dead, .dead, .dead, .dead, .dead, .dead, .dead, .dead, .dead, .dead, .dead, .dead, .dead, .dead, .dead, .dead, .dead, .dead, .dead, .dead, .dead, .dead, .dead, .dead, .dead, .dead, .dead, .dead, .dead, .dead, .dead, .dead, .dead, .dead, .dead, .dead, .dead, .dead, .dead, .dead, .dead, .dead, .dead, .dead, .dead, .dead, .dead, .dead, .dead, .dead, .dead, .dead, .dead, .dead, .dead, .dead, .dead, .dead], [], []⟩
@[reducible] noncomputable def f4_p4_outs : List (Ex × Shape) := [(.exit 0, f4_p4_o0), (.ret, f4_p4_o1)]
@[reducible] noncomputable def f4_p4_a : Ann Tryd.prog 0 true (f4_c.cr.cr.cr.cl.cr.cb.cb) := (.seq (.leaf _) (.seq (.leaf _) (.seq (.piece _ _ _ f4_p1_ok) (.leaf _))))
noncomputable def f4_p4_st (rec : f4_p4_sh.den → Option (OutDen f4_p4_outs)) (y : f4_p4_sh.den) : Option (OutDen f4_p4_outs) := evA f4_E f4_p4_a (fill f4_p4_sh y) fun ex st => match ex with | .normal => (abs f4_p4_sh st).bind rec | e => packOut f4_p4_outs e st
theorem f4_p4_ok : PieceSound Tryd.prog 0 true (.loop (f4_c.cr.cr.cr.cl.cr.cb.cb)) f4_p4_sh f4_p4_outs (go f4_p4_st) := go_of (f4_E_okE) f4_p4_a rfl rfl fun _ _ => rfl
@[reducible] noncomputable def f4_ps : List KD := [.one .str, .one (.int .i64)]
@[reducible] noncomputable def f4_rs : List KD := [.one .bool]
@[reducible] noncomputable def f4_a : Ann Tryd.prog 0 true f4_c := (.seq (.leaf _) (.seq (.leaf _) (.seq (.leaf _) (.seq (.seq (.leaf _) (.block (.piece _ _ _ f4_p4_ok))) (.seq (.leaf _) (.seq (.seq (.leaf _) (.block (.piece _ _ _ f4_p2_ok))) (.seq (.piece _ _ _ f4_p3_ok) (.leaf _))))))))
noncomputable def f4_F (y : argsDen f4_ps) : Option (argsDen f4_rs) := evFunA f4_E Tryd.f4 f4_a (encArgs f4_ps y) (decRes f4_rs)
theorem f4_ok : Sound Tryd.prog 4 (pfun f4_F) := sound_of (c := f4_c) (f4_E_okE) (by kernel_rfl) (by kernel_rfl) (by kernel_rfl) f4_a (fun _ => rfl)
@[reducible] noncomputable def f24_ps : List KD := [.agg [(.int .i64), (.int .i64), .str, (.list .value), (.list .str)], .agg [(.int .i64), (.int .i64), .str, (.list .value), (.list .str)]]
@[reducible] noncomputable def f24_rs : List KD := [.one .bool]
@[reducible] noncomputable def f24_c : Code := codeOf Tryd.f24
@[reducible] noncomputable def f24_E (G : argsDen f24_ps → Option (argsDen f24_rs)) (hG : Sound Tryd.prog 24 (pfun G)) : Env := envOf Tryd.prog 25 [rowOf true hG] []
theorem f24_E_okE (G : argsDen f24_ps → Option (argsDen f24_rs)) (hG : Sound Tryd.prog 24 (pfun G)) : EnvOk Tryd.prog (f24_E G hG) := envOf_ok _ _ _ mixed
/-! ### imprimatur/imprimaturref11.Same -/
@[reducible] noncomputable def f24_p0_sh : Shape := ⟨[.dead, .dead, .ptr 0 0, .ptr 1 0, .dead, .dead, .dead, .dead, .dead, .dead, .dead, .dead, .dead, .dead, .dead, .dead, .dead, .dead, .dead, .dead, .dead, .dead, .dead, .dead, .dead, .dead, .dead, .dead, .dead, .dead, .dead, .dead, .dead, .dead, .dead, .dead, .dead, .dead, .dead, .dead, .dead, .dead, .dead, .dead, .dead, .dead, .dead, .dead, .dead, .dead, .dead, .dead, .dead, .dead, .dead, .dead, .dead, .dead, .dead, .dead, .dead, .dead, .dead, .dead, .hole (.int .i64), .hole (.int .i64), .dead, .dead, .dead, .dead, .dead, .dead, .dead, .dead, .dead, .dead, .dead, .dead, .dead, .dead, .dead], [some [.hole (.int .i64), .hole (.int .i64), .hole .str, .hole (.list .value), .hole (.list .str)], some [.hole (.int .i64), .hole (.int .i64), .hole .str, .hole (.list .value), .hole (.list .str)]], []⟩
@[reducible] noncomputable def f24_p0_o0 : Shape := ⟨[.dead, .dead, .dead, .dead, .dead, .dead, .dead, .dead, .dead, .dead, .dead, .dead, .dead, .dead, .dead, .dead, .dead, .dead, .dead, .dead, .dead, .dead, .dead, .dead, .dead, .dead, .dead, .dead, .dead, .dead, .dead, .dead, .dead, .dead, .dead, .dead, .dead, .dead, .dead, .dead, .dead, .dead, .dead, .dead, .dead, .dead, .dead, .dead, .dead, .dead, .dead, .dead, .dead, .dead, .dead, .dead, .dead, .dead, .dead, .dead, .dead, .dead, .dead, .dead, .dead, .dead, .dead, .dead, .dead, .dead, .dead, .dead, .dead, .dead, .dead, .dead, .dead, .dead, .dead, .dead, .dead], [], []⟩
@[reducible] noncomputable def f24_p0_o1 : Shape := ⟨[.dead, .dead, .dead, .dead, .hole .bool, .dead, .dead, .dead, .dead, .dead, .dead, .dead, .dead, .dead, .dead, .dead, .dead, .dead, .dead, .dead, .dead, .dead, .dead, .dead, .dead, .dead, .dead, .dead, .dead, .dead, .dead, .dead, .dead, .dead, .dead, .dead, .dead, .dead, .dead, .dead, .dead, .dead, .dead, .dead, .dead, .dead, .dead, .dead, .dead, .dead, .dead, .dead, .dead, .dead, .dead, .dead, .dead, .dead, .dead, .dead, .dead, .dead, .dead, .dead, .dead, .dead, .dead, .dead, .dead, .dead, .dead, .dead, .dead, .dead, .dead, .dead, .dead, .dead, .dead, .dead, .dead], [], []⟩
@[reducible] noncomputable def f24_p0_outs : List (Ex × Shape) := [(.exit 2, f24_p0_o0), (.ret, f24_p0_o1)]
@[reducible] noncomputable def f24_p0_a (G : argsDen f24_ps → Option (argsDen f24_rs)) (hG : Sound Tryd.prog 24 (pfun G)) : Ann Tryd.prog 0 true (f24_c.cr.cr.cr.cl.cr.cb.cb) := (.leaf _)
noncomputable def f24_p0_st (G : argsDen f24_ps → Option (argsDen f24_rs)) (hG : Sound Tryd.prog 24 (pfun G)) (rec : f24_p0_sh.den → Option (OutDen f24_p0_outs)) (y : f24_p0_sh.den) : Option (OutDen f24_p0_outs) := evA (f24_E G hG) (f24_p0_a G hG) (fill f24_p0_sh y) fun ex st => match ex with | .normal => (abs f24_p0_sh st).bind rec | e => packOut f24_p0_outs e st
theorem f24_p0_ok (G : argsDen f24_ps → Option (argsDen f24_rs)) (hG : Sound Tryd.prog 24 (pfun G)) : PieceSound Tryd.prog 0 true (.loop (f24_c.cr.cr.cr.cl.cr.cb.cb)) f24_p0_sh f24_p0_outs (go (f24_p0_st G hG)) := go_of (f24_E_okE G hG) (f24_p0_a G hG) rfl rfl fun _ _ => rfl
@[reducible] noncomputable def f24_p1_sh : Shape := ⟨[.dead, .dead, .ptr 0 0, .ptr 1 0, .dead, .dead, .dead, .dead, .dead, .dead, .dead, .dead, .dead, .dead, .dead, .dead, .dead, .dead, .dead, .dead, .dead, .dead, .dead, .dead, .dead, .dead, .dead, .dead, .dead, .dead, .dead, .dead, .dead, .dead, .dead, .dead, .dead, .dead, .dead, .dead, .dead, .dead, .dead, .dead, .dead, .dead, .hole (.int .i64), .hole (.int .i64), .dead, .dead, .dead, .dead, .dead, .dead, .dead, .dead, .dead, .dead, .dead, .dead, .dead, .dead, .dead, .dead, .dead, .dead, .dead, .dead, .dead, .dead, .dead, .dead, .dead, .dead, .dead, .dead, .dead, .dead, .dead, .dead, .dead], [some [.hole (.int .i64), .hole (.int .i64), .hole .str, .hole (.list .value), .hole (.list .str)], some [.hole (.int .i64), .hole (.int .i64), .hole .str, .hole (.list .value), .hole (.list .str)]], []⟩
@[reducible] noncomputable def f24_p1_o0 : Shape := ⟨[.dead, .dead, .ptr 0 0, .ptr 1 0, .dead, .dead, .dead, .dead, .dead, .dead, .dead, .dead, .dead, .dead, .dead, .dead, .dead, .dead, .dead, .dead, .dead, .dead, .dead, .dead, .dead, .dead, .dead, .dead, .dead, .dead, .dead, .dead, .dead, .dead, .dead, .dead, .dead, .dead, .dead, .dead, .dead, .dead, .dead, .dead, .dead, .dead, .dead, .dead, .dead, .dead, .dead, .dead, .dead, .dead, .dead, .dead, .dead, .dead, .dead, .dead, .dead, .dead, .dead, .dead, .dead, .dead, .dead, .dead, .dead, .dead, .dead, .dead, .dead, .dead, .dead, .dead, .dead, .dead, .dead, .dead, .dead], [some [.hole (.int .i64), .hole (.int .i64), .hole .str, .hole (.list .value), .hole (.list .str)], some [.hole (.int .i64), .hole (.int .i64), .hole .str, .hole (.list .value), .hole (.list .str)]], []⟩
@[reducible] noncomputable def f24_p1_o1 : Shape := ⟨[.dead, .dead, .dead, .dead, .hole .bool, .dead, .dead, .dead, .dead, .dead, .dead, .dead, .dead, .dead, .dead, .dead, .dead, .dead, .dead, .dead, .dead, .dead, .dead, .dead, .dead, .dead, .dead, .dead, .dead, .dead, .dead, .dead, .dead, .dead, .dead, .dead, .dead, .dead, .dead, .dead, .dead, .dead, .dead, .dead, .dead, .dead, .dead, .dead, .dead, .dead, .dead, .dead, .dead, .dead, .dead, .dead, .dead, .dead, .dead, .dead, .dead, .dead, .dead, .dead, .dead, .dead, .dead, .dead, .dead, .dead, .dead, .dead, .dead, .dead, .dead, .dead, .dead, .dead, .dead, .dead, .dead], [], []⟩
@[reducible] noncomputable def f24_p1_outs : List (Ex × Shape) := [(.exit 0, f24_p1_o0), (.ret, f24_p1_o1)]
@[reducible] noncomputable def f24_p1_a (G : argsDen f24_ps → Option (argsDen f24_rs)) (hG : Sound Tryd.prog 24 (pfun G)) : Ann Tryd.prog 0 true (f24_c.cr.cr.cl.cr.cb.cb) := (.leaf _)
noncomputable def f24_p1_st (G : argsDen f24_ps → Option (argsDen f24_rs)) (hG : Sound Tryd.prog 24 (pfun G)) (rec : f24_p1_sh.den → Option (OutDen f24_p1_outs)) (y : f24_p1_sh.den) : Option (OutDen f24_p1_outs) := evA (f24_E G hG) (f24_p1_a G hG) (fill f24_p1_sh y) fun ex st => match ex with | .normal => (abs f24_p1_sh st).bind rec | e => packOut f24_p1_outs e st
theorem f24_p1_ok (G : argsDen f24_ps → Option (argsDen f24_rs)) (hG : Sound Tryd.prog 24 (pfun G)) : PieceSound Tryd.prog 0 true (.loop (f24_c.cr.cr.cl.cr.cb.cb)) f24_p1_sh f24_p1_outs (go (f24_p1_st G hG)) := go_of (f24_E_okE G hG) (f24_p1_a G hG) rfl rfl fun _ _ => rfl
@[reducible] noncomputable def f24_p2_sh : Shape := ⟨[.dead, .dead, .ptr 0 0, .ptr 1 0, .dead, .dead, .dead, .dead, .dead, .dead, .dead, .dead, .dead, .dead, .dead, .dead, .dead, .dead, .dead, .dead, .dead, .dead, .dead, .dead, .dead, .dead, .dead, .dead, .dead, .dead, .dead, .dead, .dead, .dead, .dead, .dead, .dead, .dead, .dead, .dead, .dead, .dead, .dead, .dead, .dead, .dead, .dead, .dead, .dead, .dead, .dead, .dead, .dead, .dead, .dead, .dead, .dead, .dead, .dead, .dead, .dead, .dead, .dead, .dead, .dead, .dead, .dead, .dead, .dead, .dead, .dead, .dead, .dead, .dead, .dead, .dead, .dead, .dead, .dead, .dead, .dead], [some [.hole (.int .i64), .hole (.int .i64), .hole .str, .hole (.list .value), .hole (.list .str)], some [.hole (.int .i64), .hole (.int .i64), .hole .str, .hole (.list .value), .hole (.list .str)]], []⟩
@[reducible] noncomputable def f24_p2_o0 : Shape := ⟨[.dead, .dead, .ptr 0 0, .ptr 1 0, .dead, .dead, .dead, .dead, .dead, .dead, .dead, .dead, .dead, .dead, .dead, .dead, .dead, .dead, .dead, .dead, .dead, .dead, .dead, .dead, .dead, .dead, .dead, .dead, .dead, .dead, .dead, .dead, .dead, .dead, .dead, .dead, .dead, .dead, .dead, .dead, .dead, .dead, .dead, .hole .bool, .dead, .dead, .dead, .dead, .dead, .dead, .dead, .dead, .dead, .dead, .dead, .dead, .dead, .dead, .dead, .dead, .dead, .dead, .dead, .dead, .dead, .dead, .dead, .dead, .dead, .dead, .dead, .dead, .dead, .dead, .dead, .dead, .dead, .dead, .dead, .dead, .dead], [some [.hole (.int .i64), .hole (.int .i64), .hole .str, .hole (.list .value), .hole (.list .str)], some [.hole (.int .i64), .hole (.int .i64), .hole .str, .hole (.list .value), .hole (.list .str)]], []⟩
@[reducible] noncomputable def f24_p2_outs : List (Ex × Shape) := [(.normal, f24_p2_o0)]
@[reducible] noncomputable def f24_p2_a (G : argsDen f24_ps → Option (argsDen f24_rs)) (hG : Sound Tryd.prog 24 (pfun G)) : Ann Tryd.prog 0 true (f24_c.cr.cl.cl) := (.leaf _)
noncomputable def f24_p2_F (G : argsDen f24_ps → Option (argsDen f24_rs)) (hG : Sound Tryd.prog 24 (pfun G)) (y : f24_p2_sh.den) : Option (OutDen f24_p2_outs) := evA (f24_E G hG) (f24_p2_a G hG) (fill f24_p2_sh y) (packOut f24_p2_outs)
theorem f24_p2_ok (G : argsDen f24_ps → Option (argsDen f24_rs)) (hG : Sound Tryd.prog 24 (pfun G)) : PieceSound Tryd.prog 0 true (f24_c.cr.cl.cl) f24_p2_sh f24_p2_outs (f24_p2_F G hG) := piece_of (f24_E_okE G hG) (f24_p2_a G hG) rfl rfl fun _ => rfl
@[reducible] noncomputable def f24_a (G : argsDen f24_ps → Option (argsDen f24_rs)) (hG : Sound Tryd.prog 24 (pfun G)) : Ann Tryd.prog 0 true f24_c := (.seq (.leaf _) (.seq (.seq (.piece _ _ _ (f24_p2_ok G hG)) (.leaf _)) (.seq (.seq (.leaf _) (.block (.piece _ _ _ (f24_p1_ok G hG)))) (.seq (.seq (.leaf _) (.block (.piece _ _ _ (f24_p0_ok G hG)))) (.leaf _)))))
noncomputable def f24_b (G : argsDen f24_ps → Option (argsDen f24_rs)) (hG : Sound Tryd.prog 24 (pfun G)) (y : argsDen f24_ps) : Option (argsDen f24_rs) := evFunA (f24_E G hG) Tryd.f24 (f24_a G hG) (encArgs f24_ps y) (decRes f24_rs)
theorem f24_bok (G : argsDen f24_ps → Option (argsDen f24_rs)) (hG : Sound Tryd.prog 24 (pfun G)) : Sound Tryd.prog 24 (pfun (f24_b G hG)) := sound_of (c := f24_c) (f24_E_okE G hG) (by kernel_rfl) (by kernel_rfl) (by kernel_rfl) (f24_a G hG) (fun _ => rfl)
theorem f24_has : ∃ fn, Tryd.prog.funcs[24]? = some fn ∧ (fn.name == "runtime.NumGoroutine") = false ∧ fn.body.isSome = true := ⟨Tryd.f24, by kernel_rfl, by kernel_rfl, by kernel_rfl⟩
noncomputable def f24_S : (n : Nat) → {F : argsDen f24_ps → Option (argsDen f24_rs) // Sound Tryd.prog 24 (pfun F)} := recF f24_has fun F h => ⟨f24_b F h, f24_bok F h⟩
noncomputable def f24_F : argsDen f24_ps → Option (argsDen f24_rs) := (f24_S recN).1
theorem f24_ok : Sound Tryd.prog 24 (pfun f24_F) := (f24_S recN).2
@[reducible] noncomputable def f41_c : Code := codeOf Tryd.f41
@[reducible] noncomputable def f41_E : Env := envOf Tryd.prog 25 [] []
theorem f41_E_okE : EnvOk Tryd.prog f41_E := envOf_ok _ _ _ mixed
/-! ### slices.Equal[[]string,string] -/
@[reducible] noncomputable def f41_p0_sh : Shape := ⟨[.hole (.list .str), .hole (.list .str), .dead, .dead, .dead, .dead, .dead, .dead, .dead, .dead, .dead, .dead, .hole (.int .i64), .hole (.int .i64), .dead, .dead, .dead, .dead, .dead, .dead, .dead, .dead, .dead, .dead, .dead, .dead], [], []⟩
@[reducible] noncomputable def f41_p0_o0 : Shape := ⟨[.dead, .dead, .dead, .dead, .dead, .dead, .dead, .dead, .dead, .dead, .dead, .dead, .dead, .dead, .dead, .dead, .dead, .dead, .dead, .dead, .dead, .dead, .dead, .dead, .dead, .dead], [], []⟩
@[reducible] noncomputable def f41_p0_o1 : Shape := ⟨[.dead, .dead, .dead, .dead, .hole .bool, .dead, .dead, .dead, .dead, .dead, .dead, .dead, .dead, .dead, .dead, .dead, .dead, .dead, .dead, .dead, .dead, .dead, .dead, .dead, .dead, .dead], [], []⟩
@[reducible] noncomputable def f41_p0_outs : List (Ex × Shape) := [(.exit 0, f41_p0_o0), (.ret, f41_p0_o1)]
@[reducible] noncomputable def f41_p0_a : Ann Tryd.prog 0 true (f41_c.cr.cr.cl.cr.cb.cb) := (.leaf _)
noncomputable def f41_p0_st (rec : f41_p0_sh.den → Option (OutDen f41_p0_outs)) (y : f41_p0_sh.den) : Option (OutDen f41_p0_outs) := evA f41_E f41_p0_a (fill f41_p0_sh y) fun ex st => match ex with | .normal => (abs f41_p0_sh st).bind rec | e => packOut f41_p0_outs e st
theorem f41_p0_ok : PieceSound Tryd.prog 0 true (.loop (f41_c.cr.cr.cl.cr.cb.cb)) f41_p0_sh f41_p0_outs (go f41_p0_st) := go_of (f41_E_okE) f41_p0_a rfl rfl fun _ _ => rfl
@[reducible] noncomputable def f41_ps : List KD := [.one (.list .str), .one (.list .str)]
@[reducible] noncomputable def f41_rs : List KD := [.one .bool]
@[reducible] noncomputable def f41_a : Ann Tryd.prog 0 true f41_c := (.seq (.leaf _) (.seq (.leaf _) (.seq (.seq (.leaf _) (.block (.piece _ _ _ f41_p0_ok))) (.leaf _))))
noncomputable def f41_F (y : argsDen f41_ps) : Option (argsDen f41_rs) := evFunA f41_E Tryd.f41 f41_a (encArgs f41_ps y) (decRes f41_rs)
theorem f41_ok : Sound Tryd.prog 41 (pfun f41_F) := sound_of (c := f41_c) (f41_E_okE) (by kernel_rfl) (by kernel_rfl) (by kernel_rfl) f41_a (fun _ => rfl)
@[reducible] noncomputable def f25_ps : List KD := [.agg [(.int .i64), (.int .i64), .str, (.list .value), (.list .str)], .agg [(.int .i64), (.int .i64), .str, (.list .value), (.list .str)]]
@[reducible] noncomputable def f25_rs : List KD := [.one .bool]
@[reducible] noncomputable def f42_c : Code := codeOf Tryd.f42
@[reducible] noncomputable def h42_E (G : argsDen f25_ps → Option (argsDen f25_rs)) (hG : Sound Tryd.prog 25 (pfun G)) : Env := envOf Tryd.prog 25 [rowOf true hG] []
theorem h42_E_okE (G : argsDen f25_ps → Option (argsDen f25_rs)) (hG : Sound Tryd.prog 25 (pfun G)) : EnvOk Tryd.prog (h42_E G hG) := envOf_ok _ _ _ mixed
/-! ### slices.EqualFunc[[]imprimatur/api.Value,[]imprimatur/api.Value,imprimatur/api.Value,imprimatur/api.Value] -/
@[reducible] noncomputable def h42_p0_sh : Shape := ⟨[.dead, .hole (.list .value), .fn (.func 25) [] [], .dead, .dead, .dead, .dead, .dead, .dead, .dead, .dead, .dead, .dead, .dead, .dead, .hole (.list .value), .hole (.int .i64), .hole (.int .i64), .dead, .dead, .dead, .dead, .dead, .dead, .dead, .dead, .dead, .dead, .dead, .dead, .dead, .dead], [], []⟩
@[reducible] noncomputable def h42_p0_o0 : Shape := ⟨[.dead, .dead, .dead, .dead, .dead, .dead, .dead, .dead, .dead, .dead, .dead, .dead, .dead, .dead, .dead, .dead, .dead, .dead, .dead, .dead, .dead, .dead, .dead, .dead, .dead, .dead, .dead, .dead, .dead, .dead, .dead, .dead], [], []⟩
@[reducible] noncomputable def h42_p0_o1 : Shape := ⟨[.dead, .dead, .dead, .dead, .dead, .dead, .hole .bool, .dead, .dead, .dead, .dead, .dead, .dead, .dead, .dead, .dead, .dead, .dead, .dead, .dead, .dead, .dead, .dead, .dead, .dead, .dead, .dead, .dead, .dead, .dead, .dead, .dead], [], []⟩
@[reducible] noncomputable def h42_p0_outs : List (Ex × Shape) := [(.exit 0, h42_p0_o0), (.ret, h42_p0_o1)]
@[reducible] noncomputable def h42_p0_a (G : argsDen f25_ps → Option (argsDen f25_rs)) (hG : Sound Tryd.prog 25 (pfun G)) : Ann Tryd.prog 0 true (f42_c.cr.cr.cl.cr.cb.cb) := (.leaf _)
noncomputable def h42_p0_st (G : argsDen f25_ps → Option (argsDen f25_rs)) (hG : Sound Tryd.prog 25 (pfun G)) (rec : h42_p0_sh.den → Option (OutDen h42_p0_outs)) (y : h42_p0_sh.den) : Option (OutDen h42_p0_outs) := evA (h42_E G hG) (h42_p0_a G hG) (fill h42_p0_sh y) fun ex st => match ex with | .normal => (abs h42_p0_sh st).bind rec | e => packOut h42_p0_outs e st
theorem h42_p0_ok (G : argsDen f25_ps → Option (argsDen f25_rs)) (hG : Sound Tryd.prog 25 (pfun G)) : PieceSound Tryd.prog 0 true (.loop (f42_c.cr.cr.cl.cr.cb.cb)) h42_p0_sh h42_p0_outs (go (h42_p0_st G hG)) := go_of (h42_E_okE G hG) (h42_p0_a G hG) rfl rfl fun _ _ => rfl
@[reducible] noncomputable def h42_I : Shape := ⟨[.hole (.list .value), .hole (.list .value), .fn (.func 25) [] []], [], []⟩
@[reducible] noncomputable def h42_O : Shape := ⟨[.hole .bool], [], []⟩
@[reducible] noncomputable def h42_a (G : argsDen f25_ps → Option (argsDen f25_rs)) (hG : Sound Tryd.prog 25 (pfun G)) : Ann Tryd.prog 0 true f42_c := (.seq (.leaf _) (.seq (.leaf _) (.seq (.seq (.leaf _) (.block (.piece _ _ _ (h42_p0_ok G hG)))) (.leaf _))))
noncomputable def h42_F (G : argsDen f25_ps → Option (argsDen f25_rs)) (hG : Sound Tryd.prog 25 (pfun G)) (y : h42_I.den) : Option h42_O.den := evFunH (h42_E G hG) Tryd.f42 (h42_a G hG) h42_I h42_O y
theorem h42_ok (G : argsDen f25_ps → Option (argsDen f25_rs)) (hG : Sound Tryd.prog 25 (pfun G)) : SoundH Tryd.prog 42 ⟨h42_I, h42_O, (h42_F G hG)⟩ := sound_ofH (I := h42_I) (O := h42_O) (c := f42_c) (h42_E_okE G hG) (by kernel_rfl) (by kernel_rfl) (by kernel_rfl) (h42_a G hG) rfl (fun _ => rfl)
@[reducible] noncomputable def f25_c : Code := codeOf Tryd.f25
@[reducible] noncomputable def f25_E (G : argsDen f25_ps → Option (argsDen f25_rs)) (hG : Sound Tryd.prog 25 (pfun G)) : Env := envOf Tryd.prog 25 [rowOf true f41_ok] [⟨42, _, (h42_ok G hG)⟩]
theorem f25_E_okE (G : argsDen f25_ps → Option (argsDen f25_rs)) (hG : Sound Tryd.prog 25 (pfun G)) : EnvOk Tryd.prog (f25_E G hG) := envOf_ok _ _ _ mixed
/-! ### imprimatur/value.Same -/
@[reducible] noncomputable def f25_a (G : argsDen f25_ps → Option (argsDen f25_rs)) (hG : Sound Tryd.prog 25 (pfun G)) : Ann Tryd.prog 0 true f25_c := (.leaf _)
noncomputable def f25_b (G : argsDen f25_ps → Option (argsDen f25_rs)) (hG : Sound Tryd.prog 25 (pfun G)) (y : argsDen f25_ps) : Option (argsDen f25_rs) := evFunA (f25_E G hG) Tryd.f25 (f25_a G hG) (encArgs f25_ps y) (decRes f25_rs)
theorem f25_bok (G : argsDen f25_ps → Option (argsDen f25_rs)) (hG : Sound Tryd.prog 25 (pfun G)) : Sound Tryd.prog 25 (pfun (f25_b G hG)) := sound_of (c := f25_c) (f25_E_okE G hG) (by kernel_rfl) (by kernel_rfl) (by kernel_rfl) (f25_a G hG) (fun _ => rfl)
theorem f25_has : ∃ fn, Tryd.prog.funcs[25]? = some fn ∧ (fn.name == "runtime.NumGoroutine") = false ∧ fn.body.isSome = true := ⟨Tryd.f25, by kernel_rfl, by kernel_rfl, by kernel_rfl⟩
noncomputable def f25_S : (n : Nat) → {F : argsDen f25_ps → Option (argsDen f25_rs) // Sound Tryd.prog 25 (pfun F)} := recF f25_has fun F h => ⟨f25_b F h, f25_bok F h⟩
noncomputable def f25_F : argsDen f25_ps → Option (argsDen f25_rs) := (f25_S recN).1
theorem f25_ok : Sound Tryd.prog 25 (pfun f25_F) := (f25_S recN).2
@[reducible] noncomputable def f5_c : Code := codeOf Tryd.f5
@[reducible] noncomputable def f5_E : Env := envOf Tryd.prog 25 [rowOf true f12_ok, rowOf true f13_ok, rowOf true f24_ok, rowOf true f25_ok, rowOf true f14_ok] []
theorem f5_E_okE : EnvOk Tryd.prog f5_E := envOf_ok _ _ _ mixed
/-! ### imprimatur/imprimaturlaw11.ValueOne -/
@[reducible] noncomputable def f5_p0_sh : Shape := ⟨[.dead, .dead, .dead, .dead, .dead, .hole .bool, .hole .str, .hole (.int .i64), .hole .str, .hole (.int .i64), .dead, .dead, .dead, .dead, .dead, .dead, .dead, .dead, .dead, .dead, .dead, .dead, .dead, .dead, .dead, .dead, .dead, .dead, .dead, .dead, .dead, .dead, .dead, .dead, .dead, .dead, .dead, .dead, .dead, .dead, .dead, .dead, .dead, .dead, .dead, .dead, .dead, .dead, .dead, .dead, .dead, .dead, .dead, .dead, .dead, .dead], [none, none], []⟩
@[reducible] noncomputable def f5_p0_o0 : Shape := ⟨[.dead, .dead, .dead, .dead, .dead, .hole .bool, .hole .str, .dead, .hole .str, .dead, .dead, .dead, .dead, .dead, .dead, .dead, .dead, .dead, .dead, .dead, .dead, .dead, .dead, .dead, .dead, .dead, .dead, .dead, .dead, .dead, .dead, .dead, .dead, .dead, .dead, .dead, .dead, .dead, .dead, .dead, .dead, .dead, .dead, .dead, .dead, .dead, .dead, .dead, .dead, .dead, .hole .bool, .dead, .dead, .dead, .dead, .dead], [], []⟩
@[reducible] noncomputable def f5_p0_outs : List (Ex × Shape) := [(.normal, f5_p0_o0)]
@[reducible] noncomputable def f5_p0_a : Ann Tryd.prog 0 true (f5_c.cr.cr.cr.cr.cr.cr.cl.cl) := (.leaf _)
noncomputable def f5_p0_F (y : f5_p0_sh.den) : Option (OutDen f5_p0_outs) := evA f5_E f5_p0_a (fill f5_p0_sh y) (packOut f5_p0_outs)
theorem f5_p0_ok : PieceSound Tryd.prog 0 true (f5_c.cr.cr.cr.cr.cr.cr.cl.cl) f5_p0_sh f5_p0_outs f5_p0_F := piece_of (f5_E_okE) f5_p0_a rfl rfl fun _ => rfl
@[reducible] noncomputable def f5_p1_sh : Shape := ⟨[.dead, .dead, .ptr 0 0, .ptr 1 0, .dead, .hole .bool, .dead, .dead, .dead, .dead, .dead, .dead, .dead, .dead, .dead, .dead, .dead, .dead, .dead, .dead, .dead, .dead, .dead, .dead, .dead, .dead, .dead, .dead, .dead, .dead, .dead, .dead, .dead, .dead, .dead, .dead, .dead, .dead, .dead, .dead, .dead, .dead, .dead, .dead, .dead, .dead, .dead, .dead, .dead, .dead, .dead, .dead, .dead, .dead, .dead, .dead], [some [.hole (.int .i64), .hole (.int .i64), .hole .str, .hole (.list .value), .hole (.list .str)], some [.hole (.int .i64), .hole (.int .i64), .hole .str, .hole (.list .value), .hole (.list .str)]], []⟩
@[reducible] noncomputable def f5_p1_o0 : Shape := ⟨[.dead, .dead, .ptr 0 0, .ptr 1 0, .dead, .hole .bool, .dead, .dead, .dead, .dead, .dead, .dead, .dead, .dead, .dead, .dead, .dead, .dead, .dead, .dead, .dead, .dead, .dead, .dead, .dead, .dead, .dead, .dead, .dead, .dead, .dead, .dead, .dead, .dead, .hole .bool, .dead, .dead, .dead, .dead, .dead, .dead, .dead, .dead, .dead, .dead, .dead, .dead, .dead, .dead, .dead, .dead, .dead, .dead, .dead, .dead, .dead], [some [.hole (.int .i64), .hole (.int .i64), .hole .str, .hole (.list .value), .hole (.list .str)], some [.hole (.int .i64), .hole (.int .i64), .hole .str, .hole (.list .value), .hole (.list .str)]], []⟩
@[reducible] noncomputable def f5_p1_outs : List (Ex × Shape) := [(.normal, f5_p1_o0)]
@[reducible] noncomputable def f5_p1_a : Ann Tryd.prog 0 true (f5_c.cr.cr.cr.cl.cl) := (.leaf _)
noncomputable def f5_p1_F (y : f5_p1_sh.den) : Option (OutDen f5_p1_outs) := evA f5_E f5_p1_a (fill f5_p1_sh y) (packOut f5_p1_outs)
theorem f5_p1_ok : PieceSound Tryd.prog 0 true (f5_c.cr.cr.cr.cl.cl) f5_p1_sh f5_p1_outs f5_p1_F := piece_of (f5_E_okE) f5_p1_a rfl rfl fun _ => rfl
@[reducible] noncomputable def f5_p2_sh : Shape := ⟨[.dead, .dead, .ptr 0 0, .ptr 1 0, .dead, .dead, .dead, .dead, .dead, .dead, .dead, .dead, .dead, .dead, .dead, .dead, .dead, .dead, .dead, .dead, .dead, .dead, .dead, .dead, .dead, .dead, .dead, .dead, .dead, .dead, .dead, .dead, .dead, .dead, .dead, .dead, .dead, .dead, .dead, .dead, .dead, .dead, .dead, .dead, .dead, .dead, .dead, .dead, .dead, .dead, .dead, .dead, .dead, .dead, .dead, .dead], [some [.hole (.int .i64), .hole (.int .i64), .hole .str, .hole (.list .value), .hole (.list .str)], some [.hole (.int .i64), .hole (.int .i64), .hole .str, .hole (.list .value), .hole (.list .str)]], []⟩
@[reducible] noncomputable def f5_p2_o0 : Shape := ⟨[.dead, .dead, .ptr 0 0, .ptr 1 0, .dead, .dead, .dead, .dead, .dead, .dead, .dead, .dead, .dead, .dead, .dead, .hole .bool, .dead, .dead, .dead, .dead, .dead, .dead, .dead, .dead, .dead, .dead, .dead, .dead, .dead, .dead, .dead, .dead, .dead, .dead, .dead, .dead, .dead, .dead, .dead, .dead, .dead, .dead, .dead, .dead, .dead, .dead, .dead, .dead, .dead, .dead, .dead, .dead, .dead, .dead, .dead, .dead], [some [.hole (.int .i64), .hole (.int .i64), .hole .str, .hole (.list .value), .hole (.list .str)], some [.hole (.int .i64), .hole (.int .i64), .hole .str, .hole (.list .value), .hole (.list .str)]], []⟩
@[reducible] noncomputable def f5_p2_outs : List (Ex × Shape) := [(.normal, f5_p2_o0)]
@[reducible] noncomputable def f5_p2_a : Ann Tryd.prog 0 true (f5_c.cr.cl.cl) := (.leaf _)
noncomputable def f5_p2_F (y : f5_p2_sh.den) : Option (OutDen f5_p2_outs) := evA f5_E f5_p2_a (fill f5_p2_sh y) (packOut f5_p2_outs)
theorem f5_p2_ok : PieceSound Tryd.prog 0 true (f5_c.cr.cl.cl) f5_p2_sh f5_p2_outs f5_p2_F := piece_of (f5_E_okE) f5_p2_a rfl rfl fun _ => rfl
@[reducible] noncomputable def f5_ps : List KD := [.agg [(.int .i64), (.int .i64), .str, (.list .value), (.list .str)], .agg [(.int .i64), (.int .i64), .str, (.list .value), (.list .str)]]
@[reducible] noncomputable def f5_rs : List KD := [.one .bool]
@[reducible] noncomputable def f5_a : Ann Tryd.prog 0 true f5_c := (.seq (.leaf _) (.seq (.seq (.piece _ _ _ f5_p2_ok) (.leaf _)) (.seq (.leaf _) (.seq (.seq (.piece _ _ _ f5_p1_ok) (.leaf _)) (.seq (.leaf _) (.seq (.leaf _) (.seq (.seq (.piece _ _ _ f5_p0_ok) (.leaf _)) (.leaf _))))))))
noncomputable def f5_F (y : argsDen f5_ps) : Option (argsDen f5_rs) := evFunA f5_E Tryd.f5 f5_a (encArgs f5_ps y) (decRes f5_rs)
theorem f5_ok : Sound Tryd.prog 5 (pfun f5_F) := sound_of (c := f5_c) (f5_E_okE) (by kernel_rfl) (by kernel_rfl) (by kernel_rfl) f5_a (fun _ => rfl)
end
end Go.Pe.Tryd
