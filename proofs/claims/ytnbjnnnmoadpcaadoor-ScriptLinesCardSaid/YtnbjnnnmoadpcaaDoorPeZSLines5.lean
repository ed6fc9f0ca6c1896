/- Texts of the proof, what is used of them: GS. -/
import Derived.Test.YtnbjnnnmoadpcaaDoorProg
import Derived.Test.YtnbjnnnmoadpcaaDoorPeZSLines4
section
namespace Go.Pe.Tryd
open Go.Proofs Go.RowKit
set_option maxRecDepth 100000
noncomputable section
theorem mixed : Tryd.prog.follows .mixedOrders = true := by kernel_rfl
@[reducible] noncomputable def f5_c : Code := codeOf Tryd.f5
@[reducible] noncomputable def f5_E : Env := envOf Tryd.prog 9999 [] []
theorem f5_E_okE : EnvOk Tryd.prog f5_E := envOf_ok _ _ _ mixed
@[reducible] noncomputable def f5_p0_sh : Shape := ⟨[.dead, .dead, .ptr 0 0, .dead, .ptr 1 0, .hole (.int .i64), .ptr 2 0, .dead, .dead, .dead, .dead, .dead, .dead, .dead, .dead, .dead, .dead, .dead, .dead, .dead, .dead, .dead, .dead, .dead, .dead, .dead, .dead, .dead, .dead, .whole 0, .hole (.int .i64), .hole (.int .i64), .dead, .dead, .dead, .dead, .dead, .dead, .dead, .dead, .dead, .dead, .dead, .dead, .dead, .dead, .dead, .dead, .dead, .dead, .dead, .dead, .dead, .dead, .dead, .whole 1, .hole (.int .i64), .hole (.int .i64), .dead, .dead, .dead, .dead, .dead, .dead, .dead, .dead, .dead, .dead, .dead, .dead, .dead, .dead, .dead, .dead, .dead, .dead, .dead, .dead, .dead], [some [.hole (.list .str), .hole .str, .hole (.int .i64), .hole (.int .i64), .whole 0], some [.nilS, .hole .str, .hole (.int .i64), .hole (.int .i64), .nilS], some [.hole (.int .i64), .whole 1, .hole (.list (.int .i64))]], [some (.prod (.int .i64) (.prod (.list .str) (.list (.int .i64)))), some .str]⟩
@[reducible] noncomputable def f5_p0_o0 : Shape := ⟨[.dead, .dead, .ptr 0 0, .dead, .ptr 1 0, .hole (.int .i64), .ptr 2 0, .dead, .dead, .dead, .dead, .dead, .dead, .dead, .dead, .dead, .dead, .dead, .dead, .dead, .dead, .dead, .dead, .dead, .dead, .dead, .dead, .dead, .dead, .whole 0, .hole (.int .i64), .hole (.int .i64), .dead, .dead, .dead, .dead, .dead, .dead, .dead, .dead, .dead, .dead, .dead, .dead, .dead, .dead, .dead, .dead, .dead, .dead, .dead, .dead, .dead, .dead, .dead, .dead, .dead, .dead, .dead, .dead, .dead, .dead, .dead, .dead, .dead, .dead, .dead, .dead, .dead, .dead, .dead, .dead, .dead, .dead, .dead, .dead, .dead, .dead, .dead], [some [.hole (.list .str), .hole .str, .hole (.int .i64), .hole (.int .i64), .whole 0], some [.nilS, .hole .str, .hole (.int .i64), .hole (.int .i64), .nilS], some [.hole (.int .i64), .whole 1, .hole (.list (.int .i64))]], [some (.prod (.int .i64) (.prod (.list .str) (.list (.int .i64)))), some .str]⟩
@[reducible] noncomputable def f5_p0_outs : List (Ex × Shape) := [(.exit 2, f5_p0_o0)]
@[reducible] noncomputable def f5_p0_a : Ann Tryd.prog 0 true (f5_c.cr.cr.cl.cr.cb.cb.cr.cr.cl.cb.cr.cr.cl.cr.cb.cb) := (.leaf _)
noncomputable def f5_p0_st (rec : f5_p0_sh.den → Option (OutDen f5_p0_outs)) (y : f5_p0_sh.den) : Option (OutDen f5_p0_outs) := evA f5_E f5_p0_a (fill f5_p0_sh y) fun ex st => match ex with | .normal => (abs f5_p0_sh st).bind rec | e => packOut f5_p0_outs e st
theorem f5_p0_ok : PieceSound Tryd.prog 0 true (.loop (f5_c.cr.cr.cl.cr.cb.cb.cr.cr.cl.cb.cr.cr.cl.cr.cb.cb)) f5_p0_sh f5_p0_outs (go f5_p0_st) := go_of (f5_E_okE) f5_p0_a rfl rfl fun _ _ => rfl
@[reducible] noncomputable def f5_p1_sh : Shape := ⟨[.dead, .dead, .ptr 0 0, .dead, .ptr 1 0, .dead, .dead, .dead, .dead, .dead, .dead, .dead, .dead, .dead, .dead, .dead, .dead, .dead, .dead, .dead, .dead, .dead, .dead, .dead, .dead, .dead, .dead, .dead, .dead, .whole 0, .hole (.int .i64), .hole (.int .i64), .dead, .dead, .dead, .dead, .dead, .dead, .dead, .dead, .dead, .dead, .dead, .dead, .dead, .dead, .dead, .dead, .dead, .dead, .dead, .dead, .dead, .dead, .dead, .dead, .dead, .dead, .dead, .dead, .dead, .dead, .dead, .dead, .dead, .dead, .dead, .dead, .dead, .dead, .dead, .dead, .dead, .dead, .dead, .dead, .dead, .dead, .dead], [some [.hole (.list .str), .hole .str, .hole (.int .i64), .hole (.int .i64), .whole 0], some [.nilS, .hole .str, .hole (.int .i64), .hole (.int .i64), .nilS]], [some (.prod (.int .i64) (.prod (.list .str) (.list (.int .i64))))]⟩
@[reducible] noncomputable def f5_p1_o0 : Shape := ⟨[.dead, .dead, .ptr 0 0, .dead, .ptr 1 0, .dead, .dead, .dead, .dead, .dead, .dead, .dead, .dead, .dead, .dead, .dead, .dead, .dead, .dead, .dead, .dead, .dead, .dead, .dead, .dead, .dead, .dead, .dead, .dead, .dead, .dead, .dead, .dead, .dead, .dead, .dead, .dead, .dead, .dead, .dead, .dead, .dead, .dead, .dead, .dead, .dead, .dead, .dead, .dead, .dead, .dead, .dead, .dead, .dead, .dead, .dead, .dead, .dead, .dead, .dead, .dead, .dead, .dead, .dead, .dead, .dead, .dead, .dead, .dead, .dead, .dead, .dead, .dead, .dead, .dead, .dead, .dead, .dead, .dead], [some [.hole (.list .str), .hole .str, .hole (.int .i64), .hole (.int .i64), .whole 0], some [.nilS, .hole .str, .hole (.int .i64), .hole (.int .i64), .nilS]], [some (.prod (.int .i64) (.prod (.list .str) (.list (.int .i64))))]⟩
@[reducible] noncomputable def f5_p1_outs : List (Ex × Shape) := [(.exit 0, f5_p1_o0)]
@[reducible] noncomputable def f5_p1_a : Ann Tryd.prog 0 true (f5_c.cr.cr.cl.cr.cb.cb) := (.seq (.leaf _) (.seq (.leaf _) (.seq (.block (.seq (.leaf _) (.seq (.leaf _) (.seq (.seq (.leaf _) (.block (.piece _ _ _ f5_p0_ok))) (.leaf _))))) (.leaf _))))
noncomputable def f5_p1_st (rec : f5_p1_sh.den → Option (OutDen f5_p1_outs)) (y : f5_p1_sh.den) : Option (OutDen f5_p1_outs) := evA f5_E f5_p1_a (fill f5_p1_sh y) fun ex st => match ex with | .normal => (abs f5_p1_sh st).bind rec | e => packOut f5_p1_outs e st
theorem f5_p1_ok : PieceSound Tryd.prog 0 true (.loop (f5_c.cr.cr.cl.cr.cb.cb)) f5_p1_sh f5_p1_outs (go f5_p1_st) := go_of (f5_E_okE) f5_p1_a rfl rfl fun _ _ => rfl
@[reducible] noncomputable def f5_ps : List KD := [.agg [(.list .str), .str, (.int .i64), (.int .i64), (.list (.prod (.int .i64) (.prod (.list .str) (.list (.int .i64)))))], .one (.int .i64)]
@[reducible] noncomputable def f5_rs : List KD := [.agg [(.list .str), .str, (.int .i64), (.int .i64), (.list (.prod (.int .i64) (.prod (.list .str) (.list (.int .i64)))))]]
@[reducible] noncomputable def f5_a : Ann Tryd.prog 0 true f5_c := (.seq (.leaf _) (.seq (.leaf _) (.seq (.seq (.leaf _) (.block (.piece _ _ _ f5_p1_ok))) (.leaf _))))
noncomputable def f5_F (y : argsDen f5_ps) : Option (argsDen f5_rs) := evFunA f5_E Tryd.f5 f5_a (encArgs f5_ps y) (decRes f5_rs)
theorem f5_ok : Sound Tryd.prog 5 (pfun f5_F) := sound_of (c := f5_c) (f5_E_okE) (by kernel_rfl) (by kernel_rfl) (by kernel_rfl) f5_a (fun _ => rfl)
@[reducible] noncomputable def f42_c : Code := codeOf Tryd.f42
@[reducible] noncomputable def f42_E : Env := envOf Tryd.prog 9999 [] []
theorem f42_E_okE : EnvOk Tryd.prog f42_E := envOf_ok _ _ _ mixed
@[reducible] noncomputable def f42_ps : List KD := [.one .str]
@[reducible] noncomputable def f42_rs : List KD := [.one .bool]
@[reducible] noncomputable def f42_a : Ann Tryd.prog 0 true f42_c := (.leaf _)
noncomputable def f42_F (y : argsDen f42_ps) : Option (argsDen f42_rs) := evFunA f42_E Tryd.f42 f42_a (encArgs f42_ps y) (decRes f42_rs)
theorem f42_ok : Sound Tryd.prog 42 (pfun f42_F) := sound_of (c := f42_c) (f42_E_okE) (by kernel_rfl) (by kernel_rfl) (by kernel_rfl) f42_a (fun _ => rfl)
@[reducible] noncomputable def f60_c : Code := codeOf Tryd.f60
@[reducible] noncomputable def h60_E : Env := envOf Tryd.prog 9999 [rowOf true f42_ok] []
theorem h60_E_okE : EnvOk Tryd.prog h60_E := envOf_ok _ _ _ mixed
@[reducible] noncomputable def h60_p0_sh : Shape := ⟨[.hole (.list .str), .fn (.func 42) [] [], .dead, .dead, .dead, .dead, .dead, .hole (.int .i64), .hole (.int .i64), .dead, .dead, .dead, .dead, .dead, .dead, .dead, .dead, .dead, .dead], [], []⟩
@[reducible] noncomputable def h60_p0_o0 : Shape := ⟨[.dead, .dead, .dead, .dead, .dead, .dead, .dead, .dead, .dead, .dead, .dead, .dead, .dead, .dead, .dead, .dead, .dead, .dead, .dead], [], []⟩
@[reducible] noncomputable def h60_p0_o1 : Shape := ⟨[.dead, .dead, .dead, .dead, .hole (.int .i64), .dead, .dead, .dead, .dead, .dead, .dead, .dead, .dead, .dead, .dead, .dead, .dead, .dead, .dead], [], []⟩
@[reducible] noncomputable def h60_p0_outs : List (Ex × Shape) := [(.exit 0, h60_p0_o0), (.ret, h60_p0_o1)]
@[reducible] noncomputable def h60_p0_a : Ann Tryd.prog 0 true (f60_c.cr.cl.cr.cb.cb) := (.leaf _)
noncomputable def h60_p0_st (rec : h60_p0_sh.den → Option (OutDen h60_p0_outs)) (y : h60_p0_sh.den) : Option (OutDen h60_p0_outs) := evA h60_E h60_p0_a (fill h60_p0_sh y) fun ex st => match ex with | .normal => (abs h60_p0_sh st).bind rec | e => packOut h60_p0_outs e st
theorem h60_p0_ok : PieceSound Tryd.prog 0 true (.loop (f60_c.cr.cl.cr.cb.cb)) h60_p0_sh h60_p0_outs (go h60_p0_st) := go_of (h60_E_okE) h60_p0_a rfl rfl fun _ _ => rfl
@[reducible] noncomputable def h60_I : Shape := ⟨[.hole (.list .str), .fn (.func 42) [] []], [], []⟩
@[reducible] noncomputable def h60_O : Shape := ⟨[.hole (.int .i64)], [], []⟩
@[reducible] noncomputable def h60_a : Ann Tryd.prog 0 true f60_c := (.seq (.leaf _) (.seq (.seq (.leaf _) (.block (.piece _ _ _ h60_p0_ok))) (.leaf _)))
noncomputable def h60_F (y : h60_I.den) : Option h60_O.den := evFunH h60_E Tryd.f60 h60_a h60_I h60_O y
theorem h60_ok : SoundH Tryd.prog 60 ⟨h60_I, h60_O, h60_F⟩ := sound_ofH (I := h60_I) (O := h60_O) (c := f60_c) (h60_E_okE) (by kernel_rfl) (by kernel_rfl) (by kernel_rfl) h60_a rfl rfl (fun _ => rfl)
@[reducible] noncomputable def f43_c : Code := codeOf Tryd.f43
@[reducible] noncomputable def h43_E : Env := envOf Tryd.prog 9999 [] [⟨60, _, h60_ok⟩]
theorem h43_E_okE : EnvOk Tryd.prog h43_E := envOf_ok _ _ _ mixed
@[reducible] noncomputable def h43_I : Shape := ⟨[.hole (.list .str), .fn (.func 42) [] []], [], []⟩
@[reducible] noncomputable def h43_O : Shape := ⟨[.hole .bool], [], []⟩
@[reducible] noncomputable def h43_a : Ann Tryd.prog 0 true f43_c := (.leaf _)
noncomputable def h43_F (y : h43_I.den) : Option h43_O.den := evFunH h43_E Tryd.f43 h43_a h43_I h43_O y
theorem h43_ok : SoundH Tryd.prog 43 ⟨h43_I, h43_O, h43_F⟩ := sound_ofH (I := h43_I) (O := h43_O) (c := f43_c) (h43_E_okE) (by kernel_rfl) (by kernel_rfl) (by kernel_rfl) h43_a rfl rfl (fun _ => rfl)
@[reducible] noncomputable def f21_c : Code := codeOf Tryd.f21
@[reducible] noncomputable def f21_E : Env := envOf Tryd.prog 9999 [rowOf true f42_ok] [⟨43, _, h43_ok⟩]
theorem f21_E_okE : EnvOk Tryd.prog f21_E := envOf_ok _ _ _ mixed
@[reducible] noncomputable def f21_ps : List KD := [.agg [(.list .str), .str, (.int .i64), (.int .i64), (.list (.prod (.int .i64) (.prod (.list .str) (.list (.int .i64)))))]]
@[reducible] noncomputable def f21_rs : List KD := [.one .bool]
@[reducible] noncomputable def f21_a : Ann Tryd.prog 0 true f21_c := (.leaf _)
noncomputable def f21_F (y : argsDen f21_ps) : Option (argsDen f21_rs) := evFunA f21_E Tryd.f21 f21_a (encArgs f21_ps y) (decRes f21_rs)
theorem f21_ok : Sound Tryd.prog 21 (pfun f21_F) := sound_of (c := f21_c) (f21_E_okE) (by kernel_rfl) (by kernel_rfl) (by kernel_rfl) f21_a (fun _ => rfl)
@[reducible] noncomputable def f36_c : Code := codeOf Tryd.f36
@[reducible] noncomputable def h36_E : Env := envOf Tryd.prog 9999 [] []
theorem h36_E_okE : EnvOk Tryd.prog h36_E := envOf_ok _ _ _ mixed
@[reducible] noncomputable def h36_I : Shape := ⟨[], [], []⟩
@[reducible] noncomputable def h36_O : Shape := ⟨[.whole 0], [], [some (.prod (.prod .unit .unit) (.prod (.int .i64) (.prod .str (.prod (.int .i64) (.int .i64)))))]⟩
@[reducible] noncomputable def h36_a : Ann Tryd.prog 0 true f36_c := (.leaf _)
noncomputable def h36_F (y : h36_I.den) : Option h36_O.den := evFunH h36_E Tryd.f36 h36_a h36_I h36_O y
theorem h36_ok : SoundH Tryd.prog 36 ⟨h36_I, h36_O, h36_F⟩ := sound_ofH (I := h36_I) (O := h36_O) (c := f36_c) (h36_E_okE) (by kernel_rfl) (by kernel_rfl) (by kernel_rfl) h36_a rfl rfl (fun _ => rfl)
@[reducible] noncomputable def f45_c : Code := codeOf Tryd.f45
@[reducible] noncomputable def f45_E : Env := envOf Tryd.prog 9999 [] []
theorem f45_E_okE : EnvOk Tryd.prog f45_E := envOf_ok _ _ _ mixed
@[reducible] noncomputable def f45_ps : List KD := [.one .str]
@[reducible] noncomputable def f45_rs : List KD := [.one .bool]
@[reducible] noncomputable def f45_a : Ann Tryd.prog 0 true f45_c := (.leaf _)
noncomputable def f45_F (y : argsDen f45_ps) : Option (argsDen f45_rs) := evFunA f45_E Tryd.f45 f45_a (encArgs f45_ps y) (decRes f45_rs)
theorem f45_ok : Sound Tryd.prog 45 (pfun f45_F) := sound_of (c := f45_c) (f45_E_okE) (by kernel_rfl) (by kernel_rfl) (by kernel_rfl) f45_a (fun _ => rfl)
@[reducible] noncomputable def h60a_E : Env := envOf Tryd.prog 9999 [rowOf true f45_ok] []
theorem h60a_E_okE : EnvOk Tryd.prog h60a_E := envOf_ok _ _ _ mixed
@[reducible] noncomputable def h60a_p0_sh : Shape := ⟨[.hole (.list .str), .fn (.func 45) [] [], .dead, .dead, .dead, .dead, .dead, .hole (.int .i64), .hole (.int .i64), .dead, .dead, .dead, .dead, .dead, .dead, .dead, .dead, .dead, .dead], [], []⟩
@[reducible] noncomputable def h60a_p0_o0 : Shape := ⟨[.dead, .dead, .dead, .dead, .dead, .dead, .dead, .dead, .dead, .dead, .dead, .dead, .dead, .dead, .dead, .dead, .dead, .dead, .dead], [], []⟩
@[reducible] noncomputable def h60a_p0_o1 : Shape := ⟨[.dead, .dead, .dead, .dead, .hole (.int .i64), .dead, .dead, .dead, .dead, .dead, .dead, .dead, .dead, .dead, .dead, .dead, .dead, .dead, .dead], [], []⟩
@[reducible] noncomputable def h60a_p0_outs : List (Ex × Shape) := [(.exit 0, h60a_p0_o0), (.ret, h60a_p0_o1)]
@[reducible] noncomputable def h60a_p0_a : Ann Tryd.prog 0 true (f60_c.cr.cl.cr.cb.cb) := (.leaf _)
noncomputable def h60a_p0_st (rec : h60a_p0_sh.den → Option (OutDen h60a_p0_outs)) (y : h60a_p0_sh.den) : Option (OutDen h60a_p0_outs) := evA h60a_E h60a_p0_a (fill h60a_p0_sh y) fun ex st => match ex with | .normal => (abs h60a_p0_sh st).bind rec | e => packOut h60a_p0_outs e st
theorem h60a_p0_ok : PieceSound Tryd.prog 0 true (.loop (f60_c.cr.cl.cr.cb.cb)) h60a_p0_sh h60a_p0_outs (go h60a_p0_st) := go_of (h60a_E_okE) h60a_p0_a rfl rfl fun _ _ => rfl
@[reducible] noncomputable def h60a_I : Shape := ⟨[.hole (.list .str), .fn (.func 45) [] []], [], []⟩
@[reducible] noncomputable def h60a_O : Shape := ⟨[.hole (.int .i64)], [], []⟩
@[reducible] noncomputable def h60a_a : Ann Tryd.prog 0 true f60_c := (.seq (.leaf _) (.seq (.seq (.leaf _) (.block (.piece _ _ _ h60a_p0_ok))) (.leaf _)))
noncomputable def h60a_F (y : h60a_I.den) : Option h60a_O.den := evFunH h60a_E Tryd.f60 h60a_a h60a_I h60a_O y
theorem h60a_ok : SoundH Tryd.prog 60 ⟨h60a_I, h60a_O, h60a_F⟩ := sound_ofH (I := h60a_I) (O := h60a_O) (c := f60_c) (h60a_E_okE) (by kernel_rfl) (by kernel_rfl) (by kernel_rfl) h60a_a rfl rfl (fun _ => rfl)
@[reducible] noncomputable def h43a_E : Env := envOf Tryd.prog 9999 [] [⟨60, _, h60a_ok⟩]
theorem h43a_E_okE : EnvOk Tryd.prog h43a_E := envOf_ok _ _ _ mixed
@[reducible] noncomputable def h43a_I : Shape := ⟨[.hole (.list .str), .fn (.func 45) [] []], [], []⟩
@[reducible] noncomputable def h43a_O : Shape := ⟨[.hole .bool], [], []⟩
@[reducible] noncomputable def h43a_a : Ann Tryd.prog 0 true f43_c := (.leaf _)
noncomputable def h43a_F (y : h43a_I.den) : Option h43a_O.den := evFunH h43a_E Tryd.f43 h43a_a h43a_I h43a_O y
theorem h43a_ok : SoundH Tryd.prog 43 ⟨h43a_I, h43a_O, h43a_F⟩ := sound_ofH (I := h43a_I) (O := h43a_O) (c := f43_c) (h43a_E_okE) (by kernel_rfl) (by kernel_rfl) (by kernel_rfl) h43a_a rfl rfl (fun _ => rfl)
@[reducible] noncomputable def f47_c : Code := codeOf Tryd.f47
@[reducible] noncomputable def f47_E : Env := envOf Tryd.prog 9999 [] []
theorem f47_E_okE : EnvOk Tryd.prog f47_E := envOf_ok _ _ _ mixed
@[reducible] noncomputable def f47_ps : List KD := [.one (.int .i64)]
@[reducible] noncomputable def f47_rs : List KD := [.one .bool]
@[reducible] noncomputable def f47_a : Ann Tryd.prog 0 true f47_c := (.leaf _)
noncomputable def f47_F (y : argsDen f47_ps) : Option (argsDen f47_rs) := evFunA f47_E Tryd.f47 f47_a (encArgs f47_ps y) (decRes f47_rs)
theorem f47_ok : Sound Tryd.prog 47 (pfun f47_F) := sound_of (c := f47_c) (f47_E_okE) (by kernel_rfl) (by kernel_rfl) (by kernel_rfl) f47_a (fun _ => rfl)
@[reducible] noncomputable def f61_c : Code := codeOf Tryd.f61
@[reducible] noncomputable def h61_E : Env := envOf Tryd.prog 9999 [rowOf true f47_ok] []
theorem h61_E_okE : EnvOk Tryd.prog h61_E := envOf_ok _ _ _ mixed
@[reducible] noncomputable def h61_p0_sh : Shape := ⟨[.hole (.list (.int .i64)), .fn (.func 47) [] [], .dead, .dead, .dead, .dead, .dead, .hole (.int .i64), .hole (.int .i64), .dead, .dead, .dead, .dead, .dead, .dead, .dead, .dead, .dead, .dead], [], []⟩
@[reducible] noncomputable def h61_p0_o0 : Shape := ⟨[.dead, .dead, .dead, .dead, .dead, .dead, .dead, .dead, .dead, .dead, .dead, .dead, .dead, .dead, .dead, .dead, .dead, .dead, .dead], [], []⟩
@[reducible] noncomputable def h61_p0_o1 : Shape := ⟨[.dead, .dead, .dead, .dead, .hole (.int .i64), .dead, .dead, .dead, .dead, .dead, .dead, .dead, .dead, .dead, .dead, .dead, .dead, .dead, .dead], [], []⟩
@[reducible] noncomputable def h61_p0_outs : List (Ex × Shape) := [(.exit 0, h61_p0_o0), (.ret, h61_p0_o1)]
@[reducible] noncomputable def h61_p0_a : Ann Tryd.prog 0 true (f61_c.cr.cl.cr.cb.cb) := (.leaf _)
noncomputable def h61_p0_st (rec : h61_p0_sh.den → Option (OutDen h61_p0_outs)) (y : h61_p0_sh.den) : Option (OutDen h61_p0_outs) := evA h61_E h61_p0_a (fill h61_p0_sh y) fun ex st => match ex with | .normal => (abs h61_p0_sh st).bind rec | e => packOut h61_p0_outs e st
theorem h61_p0_ok : PieceSound Tryd.prog 0 true (.loop (f61_c.cr.cl.cr.cb.cb)) h61_p0_sh h61_p0_outs (go h61_p0_st) := go_of (h61_E_okE) h61_p0_a rfl rfl fun _ _ => rfl
@[reducible] noncomputable def h61_I : Shape := ⟨[.hole (.list (.int .i64)), .fn (.func 47) [] []], [], []⟩
@[reducible] noncomputable def h61_O : Shape := ⟨[.hole (.int .i64)], [], []⟩
@[reducible] noncomputable def h61_a : Ann Tryd.prog 0 true f61_c := (.seq (.leaf _) (.seq (.seq (.leaf _) (.block (.piece _ _ _ h61_p0_ok))) (.leaf _)))
noncomputable def h61_F (y : h61_I.den) : Option h61_O.den := evFunH h61_E Tryd.f61 h61_a h61_I h61_O y
theorem h61_ok : SoundH Tryd.prog 61 ⟨h61_I, h61_O, h61_F⟩ := sound_ofH (I := h61_I) (O := h61_O) (c := f61_c) (h61_E_okE) (by kernel_rfl) (by kernel_rfl) (by kernel_rfl) h61_a rfl rfl (fun _ => rfl)
@[reducible] noncomputable def f46_c : Code := codeOf Tryd.f46
@[reducible] noncomputable def h46_E : Env := envOf Tryd.prog 9999 [] [⟨61, _, h61_ok⟩]
theorem h46_E_okE : EnvOk Tryd.prog h46_E := envOf_ok _ _ _ mixed
@[reducible] noncomputable def h46_I : Shape := ⟨[.hole (.list (.int .i64)), .fn (.func 47) [] []], [], []⟩
@[reducible] noncomputable def h46_O : Shape := ⟨[.hole .bool], [], []⟩
@[reducible] noncomputable def h46_a : Ann Tryd.prog 0 true f46_c := (.leaf _)
noncomputable def h46_F (y : h46_I.den) : Option h46_O.den := evFunH h46_E Tryd.f46 h46_a h46_I h46_O y
theorem h46_ok : SoundH Tryd.prog 46 ⟨h46_I, h46_O, h46_F⟩ := sound_ofH (I := h46_I) (O := h46_O) (c := f46_c) (h46_E_okE) (by kernel_rfl) (by kernel_rfl) (by kernel_rfl) h46_a rfl rfl (fun _ => rfl)
@[reducible] noncomputable def f49_c : Code := codeOf Tryd.f49
@[reducible] noncomputable def f49_E : Env := envOf Tryd.prog 9999 [] []
theorem f49_E_okE : EnvOk Tryd.prog f49_E := envOf_ok _ _ _ mixed
@[reducible] noncomputable def f49_ps : List KD := [.one (.int .u8)]
@[reducible] noncomputable def f49_rs : List KD := [.one .bool]
@[reducible] noncomputable def f49_a : Ann Tryd.prog 0 true f49_c := (.leaf _)
noncomputable def f49_F (y : argsDen f49_ps) : Option (argsDen f49_rs) := evFunA f49_E Tryd.f49 f49_a (encArgs f49_ps y) (decRes f49_rs)
theorem f49_ok : Sound Tryd.prog 49 (pfun f49_F) := sound_of (c := f49_c) (f49_E_okE) (by kernel_rfl) (by kernel_rfl) (by kernel_rfl) f49_a (fun _ => rfl)
@[reducible] noncomputable def f62_c : Code := codeOf Tryd.f62
@[reducible] noncomputable def h62_E : Env := envOf Tryd.prog 9999 [rowOf true f49_ok] []
theorem h62_E_okE : EnvOk Tryd.prog h62_E := envOf_ok _ _ _ mixed
@[reducible] noncomputable def h62_p0_sh : Shape := ⟨[.hole (.list (.int .u8)), .fn (.func 49) [] [], .dead, .dead, .dead, .dead, .dead, .hole (.int .i64), .hole (.int .i64), .dead, .dead, .dead, .dead, .dead, .dead, .dead, .dead, .dead, .dead], [], []⟩
@[reducible] noncomputable def h62_p0_o0 : Shape := ⟨[.dead, .dead, .dead, .dead, .dead, .dead, .dead, .dead, .dead, .dead, .dead, .dead, .dead, .dead, .dead, .dead, .dead, .dead, .dead], [], []⟩
@[reducible] noncomputable def h62_p0_o1 : Shape := ⟨[.dead, .dead, .dead, .dead, .hole (.int .i64), .dead, .dead, .dead, .dead, .dead, .dead, .dead, .dead, .dead, .dead, .dead, .dead, .dead, .dead], [], []⟩
@[reducible] noncomputable def h62_p0_outs : List (Ex × Shape) := [(.exit 0, h62_p0_o0), (.ret, h62_p0_o1)]
@[reducible] noncomputable def h62_p0_a : Ann Tryd.prog 0 true (f62_c.cr.cl.cr.cb.cb) := (.leaf _)
noncomputable def h62_p0_st (rec : h62_p0_sh.den → Option (OutDen h62_p0_outs)) (y : h62_p0_sh.den) : Option (OutDen h62_p0_outs) := evA h62_E h62_p0_a (fill h62_p0_sh y) fun ex st => match ex with | .normal => (abs h62_p0_sh st).bind rec | e => packOut h62_p0_outs e st
theorem h62_p0_ok : PieceSound Tryd.prog 0 true (.loop (f62_c.cr.cl.cr.cb.cb)) h62_p0_sh h62_p0_outs (go h62_p0_st) := go_of (h62_E_okE) h62_p0_a rfl rfl fun _ _ => rfl
@[reducible] noncomputable def h62_I : Shape := ⟨[.hole (.list (.int .u8)), .fn (.func 49) [] []], [], []⟩
@[reducible] noncomputable def h62_O : Shape := ⟨[.hole (.int .i64)], [], []⟩
@[reducible] noncomputable def h62_a : Ann Tryd.prog 0 true f62_c := (.seq (.leaf _) (.seq (.seq (.leaf _) (.block (.piece _ _ _ h62_p0_ok))) (.leaf _)))
noncomputable def h62_F (y : h62_I.den) : Option h62_O.den := evFunH h62_E Tryd.f62 h62_a h62_I h62_O y
theorem h62_ok : SoundH Tryd.prog 62 ⟨h62_I, h62_O, h62_F⟩ := sound_ofH (I := h62_I) (O := h62_O) (c := f62_c) (h62_E_okE) (by kernel_rfl) (by kernel_rfl) (by kernel_rfl) h62_a rfl rfl (fun _ => rfl)
@[reducible] noncomputable def f48_c : Code := codeOf Tryd.f48
@[reducible] noncomputable def h48_E : Env := envOf Tryd.prog 9999 [] [⟨62, _, h62_ok⟩]
theorem h48_E_okE : EnvOk Tryd.prog h48_E := envOf_ok _ _ _ mixed
@[reducible] noncomputable def h48_I : Shape := ⟨[.hole (.list (.int .u8)), .fn (.func 49) [] []], [], []⟩
@[reducible] noncomputable def h48_O : Shape := ⟨[.hole .bool], [], []⟩
@[reducible] noncomputable def h48_a : Ann Tryd.prog 0 true f48_c := (.leaf _)
noncomputable def h48_F (y : h48_I.den) : Option h48_O.den := evFunH h48_E Tryd.f48 h48_a h48_I h48_O y
theorem h48_ok : SoundH Tryd.prog 48 ⟨h48_I, h48_O, h48_F⟩ := sound_ofH (I := h48_I) (O := h48_O) (c := f48_c) (h48_E_okE) (by kernel_rfl) (by kernel_rfl) (by kernel_rfl) h48_a rfl rfl (fun _ => rfl)
@[reducible] noncomputable def f24_c : Code := codeOf Tryd.f24
@[reducible] noncomputable def f24_E : Env := envOf Tryd.prog 9999 [] [⟨36, _, h36_ok⟩, ⟨43, _, h43a_ok⟩, ⟨46, _, h46_ok⟩, ⟨48, _, h48_ok⟩]
theorem f24_E_okE : EnvOk Tryd.prog f24_E := envOf_ok _ _ _ mixed
@[reducible] noncomputable def f24_p0_sh : Shape := ⟨[.dead, .ptr 0 0, .dead, .dead, .dead, .dead, .dead, .dead, .dead, .dead, .dead, .dead, .dead, .dead, .dead, .dead, .dead, .dead, .dead, .dead, .dead, .dead, .dead, .dead, .dead, .dead, .dead, .dead, .dead, .dead, .dead, .dead, .dead, .dead, .dead, .dead, .dead, .dead, .dead, .dead, .dead, .dead, .dead, .dead, .dead, .dead, .dead, .dead, .dead, .dead, .dead, .dead, .dead, .dead, .dead, .dead, .dead, .dead, .dead, .dead, .dead, .dead, .dead], [some [.hole (.int .i64), .hole (.list .str), .hole (.list (.int .i64))]], []⟩
@[reducible] noncomputable def f24_p0_o0 : Shape := ⟨[.dead, .ptr 0 0, .dead, .dead, .dead, .dead, .dead, .dead, .dead, .dead, .dead, .dead, .dead, .dead, .dead, .dead, .dead, .dead, .dead, .dead, .dead, .dead, .dead, .dead, .dead, .dead, .dead, .dead, .dead, .dead, .dead, .dead, .dead, .dead, .dead, .dead, .dead, .hole .bool, .dead, .dead, .dead, .dead, .dead, .dead, .dead, .dead, .dead, .dead, .dead, .dead, .dead, .dead, .dead, .dead, .dead, .dead, .dead, .dead, .dead, .dead, .dead, .dead, .dead], [some [.hole (.int .i64), .hole (.list .str), .hole (.list (.int .i64))]], []⟩
@[reducible] noncomputable def f24_p0_outs : List (Ex × Shape) := [(.normal, f24_p0_o0)]
@[reducible] noncomputable def f24_p0_a : Ann Tryd.prog 0 true (f24_c.cr.cr.cr.cl.cl) := (.leaf _)
noncomputable def f24_p0_F (y : f24_p0_sh.den) : Option (OutDen f24_p0_outs) := evA f24_E f24_p0_a (fill f24_p0_sh y) (packOut f24_p0_outs)
theorem f24_p0_ok : PieceSound Tryd.prog 0 true (f24_c.cr.cr.cr.cl.cl) f24_p0_sh f24_p0_outs f24_p0_F := piece_of (f24_E_okE) f24_p0_a rfl rfl fun _ => rfl
@[reducible] noncomputable def f24_p1_sh : Shape := ⟨[.dead, .ptr 0 0, .dead, .ptr 1 0, .hole .bool, .dead, .dead, .dead, .dead, .dead, .dead, .dead, .dead, .dead, .dead, .dead, .dead, .dead, .dead, .dead, .dead, .dead, .dead, .dead, .dead, .dead, .dead, .dead, .dead, .dead, .dead, .dead, .dead, .dead, .dead, .dead, .dead, .dead, .dead, .dead, .dead, .dead, .dead, .dead, .dead, .dead, .dead, .dead, .dead, .dead, .dead, .dead, .dead, .dead, .dead, .dead, .dead, .dead, .dead, .dead, .dead, .dead, .dead], [some [.hole (.int .i64), .hole (.list .str), .hole (.list (.int .i64))], some [.hole .str, .hole (.int .i64), .hole (.int .i64)]], [none]⟩
@[reducible] noncomputable def f24_p1_o0 : Shape := ⟨[.dead, .ptr 0 0, .dead, .dead, .dead, .dead, .dead, .dead, .dead, .dead, .dead, .dead, .dead, .dead, .dead, .dead, .dead, .dead, .dead, .dead, .dead, .dead, .dead, .dead, .dead, .dead, .dead, .dead, .dead, .hole .bool, .dead, .dead, .dead, .dead, .dead, .dead, .dead, .dead, .dead, .dead, .dead, .dead, .dead, .dead, .dead, .dead, .dead, .dead, .dead, .dead, .dead, .dead, .dead, .dead, .dead, .dead, .dead, .dead, .dead, .dead, .dead, .dead, .dead], [some [.hole (.int .i64), .hole (.list .str), .hole (.list (.int .i64))]], []⟩
@[reducible] noncomputable def f24_p1_outs : List (Ex × Shape) := [(.normal, f24_p1_o0)]
@[reducible] noncomputable def f24_p1_a : Ann Tryd.prog 0 true (f24_c.cr.cr.cl.cl) := (.leaf _)
noncomputable def f24_p1_F (y : f24_p1_sh.den) : Option (OutDen f24_p1_outs) := evA f24_E f24_p1_a (fill f24_p1_sh y) (packOut f24_p1_outs)
theorem f24_p1_ok : PieceSound Tryd.prog 0 true (f24_c.cr.cr.cl.cl) f24_p1_sh f24_p1_outs f24_p1_F := piece_of (f24_E_okE) f24_p1_a rfl rfl fun _ => rfl
@[reducible] noncomputable def f24_ps : List KD := [.agg [(.int .i64), (.list .str), (.list (.int .i64))]]
@[reducible] noncomputable def f24_rs : List KD := [.one .bool]
@[reducible] noncomputable def f24_a : Ann Tryd.prog 0 true f24_c := (.seq (.leaf _) (.seq (.leaf _) (.seq (.seq (.piece _ _ _ f24_p1_ok) (.leaf _)) (.seq (.seq (.piece _ _ _ f24_p0_ok) (.leaf _)) (.leaf _)))))
noncomputable def f24_F (y : argsDen f24_ps) : Option (argsDen f24_rs) := evFunA f24_E Tryd.f24 f24_a (encArgs f24_ps y) (decRes f24_rs)
theorem f24_ok : Sound Tryd.prog 24 (pfun f24_F) := sound_of (c := f24_c) (f24_E_okE) (by kernel_rfl) (by kernel_rfl) (by kernel_rfl) f24_a (fun _ => rfl)
@[reducible] noncomputable def f23_c : Code := codeOf Tryd.f23
@[reducible] noncomputable def f23_E : Env := envOf Tryd.prog 9999 [rowOf true f24_ok] []
theorem f23_E_okE : EnvOk Tryd.prog f23_E := envOf_ok _ _ _ mixed
@[reducible] noncomputable def f23_ps : List KD := [.agg [(.int .i64), (.list .str), (.list (.int .i64))]]
@[reducible] noncomputable def f23_rs : List KD := [.one .bool]
@[reducible] noncomputable def f23_a : Ann Tryd.prog 0 true f23_c := (.leaf _)
noncomputable def f23_F (y : argsDen f23_ps) : Option (argsDen f23_rs) := evFunA f23_E Tryd.f23 f23_a (encArgs f23_ps y) (decRes f23_rs)
theorem f23_ok : Sound Tryd.prog 23 (pfun f23_F) := sound_of (c := f23_c) (f23_E_okE) (by kernel_rfl) (by kernel_rfl) (by kernel_rfl) f23_a (fun _ => rfl)
@[reducible] noncomputable def f44_c : Code := codeOf Tryd.f44
@[reducible] noncomputable def h44_E : Env := envOf Tryd.prog 9999 [rowOf true f23_ok] []
theorem h44_E_okE : EnvOk Tryd.prog h44_E := envOf_ok _ _ _ mixed
@[reducible] noncomputable def h44_p0_sh : Shape := ⟨[.hole (.list (.prod (.int .i64) (.prod (.list .str) (.list (.int .i64))))), .fn (.func 23) [] [], .dead, .dead, .dead, .dead, .dead, .hole (.int .i64), .hole (.int .i64), .dead, .dead, .dead, .dead, .dead, .dead, .dead, .dead, .dead, .dead], [], []⟩
@[reducible] noncomputable def h44_p0_o0 : Shape := ⟨[.dead, .dead, .dead, .dead, .dead, .dead, .dead, .dead, .dead, .dead, .dead, .dead, .dead, .dead, .dead, .dead, .dead, .dead, .dead], [], []⟩
@[reducible] noncomputable def h44_p0_o1 : Shape := ⟨[.dead, .dead, .dead, .dead, .hole (.int .i64), .dead, .dead, .dead, .dead, .dead, .dead, .dead, .dead, .dead, .dead, .dead, .dead, .dead, .dead], [], []⟩
@[reducible] noncomputable def h44_p0_outs : List (Ex × Shape) := [(.exit 0, h44_p0_o0), (.ret, h44_p0_o1)]
@[reducible] noncomputable def h44_p0_a : Ann Tryd.prog 0 true (f44_c.cr.cl.cr.cb.cb) := (.leaf _)
noncomputable def h44_p0_st (rec : h44_p0_sh.den → Option (OutDen h44_p0_outs)) (y : h44_p0_sh.den) : Option (OutDen h44_p0_outs) := evA h44_E h44_p0_a (fill h44_p0_sh y) fun ex st => match ex with | .normal => (abs h44_p0_sh st).bind rec | e => packOut h44_p0_outs e st
theorem h44_p0_ok : PieceSound Tryd.prog 0 true (.loop (f44_c.cr.cl.cr.cb.cb)) h44_p0_sh h44_p0_outs (go h44_p0_st) := go_of (h44_E_okE) h44_p0_a rfl rfl fun _ _ => rfl
@[reducible] noncomputable def h44_I : Shape := ⟨[.hole (.list (.prod (.int .i64) (.prod (.list .str) (.list (.int .i64))))), .fn (.func 23) [] []], [], []⟩
@[reducible] noncomputable def h44_O : Shape := ⟨[.hole (.int .i64)], [], []⟩
@[reducible] noncomputable def h44_a : Ann Tryd.prog 0 true f44_c := (.seq (.leaf _) (.seq (.seq (.leaf _) (.block (.piece _ _ _ h44_p0_ok))) (.leaf _)))
noncomputable def h44_F (y : h44_I.den) : Option h44_O.den := evFunH h44_E Tryd.f44 h44_a h44_I h44_O y
theorem h44_ok : SoundH Tryd.prog 44 ⟨h44_I, h44_O, h44_F⟩ := sound_ofH (I := h44_I) (O := h44_O) (c := f44_c) (h44_E_okE) (by kernel_rfl) (by kernel_rfl) (by kernel_rfl) h44_a rfl rfl (fun _ => rfl)
@[reducible] noncomputable def f22_c : Code := codeOf Tryd.f22
@[reducible] noncomputable def h22_E : Env := envOf Tryd.prog 9999 [] [⟨44, _, h44_ok⟩]
theorem h22_E_okE : EnvOk Tryd.prog h22_E := envOf_ok _ _ _ mixed
@[reducible] noncomputable def h22_I : Shape := ⟨[.hole (.list (.prod (.int .i64) (.prod (.list .str) (.list (.int .i64))))), .fn (.func 23) [] []], [], []⟩
@[reducible] noncomputable def h22_O : Shape := ⟨[.hole .bool], [], []⟩
@[reducible] noncomputable def h22_a : Ann Tryd.prog 0 true f22_c := (.leaf _)
noncomputable def h22_F (y : h22_I.den) : Option h22_O.den := evFunH h22_E Tryd.f22 h22_a h22_I h22_O y
theorem h22_ok : SoundH Tryd.prog 22 ⟨h22_I, h22_O, h22_F⟩ := sound_ofH (I := h22_I) (O := h22_O) (c := f22_c) (h22_E_okE) (by kernel_rfl) (by kernel_rfl) (by kernel_rfl) h22_a rfl rfl (fun _ => rfl)
@[reducible] noncomputable def f10_c : Code := codeOf Tryd.f10
@[reducible] noncomputable def f10_E : Env := envOf Tryd.prog 9999 [rowOf true f21_ok] [⟨22, _, h22_ok⟩]
theorem f10_E_okE : EnvOk Tryd.prog f10_E := envOf_ok _ _ _ mixed
@[reducible] noncomputable def f10_ps : List KD := [.agg [(.list .str), .str, (.int .i64), (.int .i64), (.list (.prod (.int .i64) (.prod (.list .str) (.list (.int .i64)))))]]
@[reducible] noncomputable def f10_rs : List KD := [.one .bool]
@[reducible] noncomputable def f10_a : Ann Tryd.prog 0 true f10_c := (.leaf _)
noncomputable def f10_F (y : argsDen f10_ps) : Option (argsDen f10_rs) := evFunA f10_E Tryd.f10 f10_a (encArgs f10_ps y) (decRes f10_rs)
theorem f10_ok : Sound Tryd.prog 10 (pfun f10_F) := sound_of (c := f10_c) (f10_E_okE) (by kernel_rfl) (by kernel_rfl) (by kernel_rfl) f10_a (fun _ => rfl)
@[reducible] noncomputable def f52_c : Code := codeOf Tryd.f52
@[reducible] noncomputable def h52_E : Env := envOf Tryd.prog 9999 [] [⟨68, _, copy_ok⟩]
theorem h52_E_okE : EnvOk Tryd.prog h52_E := envOf_ok _ _ _ mixed
@[reducible] noncomputable def h52_I : Shape := ⟨[.ptr 0 0, .hole (.int .u8)], [some [.bld 0, .nilS]], []⟩
@[reducible] noncomputable def h52_O : Shape := ⟨[.dead], [some [.bld 0, .whole 0]], [some (.int .u8)]⟩
@[reducible] noncomputable def h52_a : Ann Tryd.prog 1 true f52_c := (.leaf _)
noncomputable def h52_F (y : h52_I.den) : Option h52_O.den := evFunH h52_E Tryd.f52 h52_a h52_I h52_O y
theorem h52_ok : SoundH Tryd.prog 52 ⟨h52_I, h52_O, h52_F⟩ := sound_ofH (I := h52_I) (O := h52_O) (c := f52_c) (h52_E_okE) (by kernel_rfl) (by kernel_rfl) (by kernel_rfl) h52_a rfl rfl (fun _ => rfl)
@[reducible] noncomputable def h52a_E : Env := envOf Tryd.prog 9999 [] [⟨68, _, copy_ok⟩]
theorem h52a_E_okE : EnvOk Tryd.prog h52a_E := envOf_ok _ _ _ mixed
@[reducible] noncomputable def h52a_I : Shape := ⟨[.ptr 0 0, .hole (.int .u8)], [some [.bld 0, .whole 0]], [some (.int .u8)]⟩
@[reducible] noncomputable def h52a_O : Shape := ⟨[.dead], [some [.bld 0, .whole 0]], [some (.int .u8)]⟩
@[reducible] noncomputable def h52a_a : Ann Tryd.prog 65 true f52_c := (.leaf _)
noncomputable def h52a_F (y : h52a_I.den) : Option h52a_O.den := evFunH h52a_E Tryd.f52 h52a_a h52a_I h52a_O y
theorem h52a_ok : SoundH Tryd.prog 52 ⟨h52a_I, h52a_O, h52a_F⟩ := sound_ofH (I := h52a_I) (O := h52a_O) (c := f52_c) (h52a_E_okE) (by kernel_rfl) (by kernel_rfl) (by kernel_rfl) h52a_a rfl rfl (fun _ => rfl)
@[reducible] noncomputable def f34_c : Code := codeOf Tryd.f34
@[reducible] noncomputable def f34_E : Env := envOf Tryd.prog 9999 [] [⟨52, _, h52_ok⟩, ⟨52, _, h52a_ok⟩, ⟨53, _, str_ok⟩]
theorem f34_E_okE : EnvOk Tryd.prog f34_E := envOf_ok _ _ _ mixed
@[reducible] noncomputable def f34_p0_sh : Shape := ⟨[.hole .str, .dead, .dead, .ptr 0 0, .dead, .dead, .hole (.int .i64), .hole (.int .i64), .dead, .dead, .dead, .dead, .dead, .dead, .dead, .dead, .dead, .dead, .dead, .dead, .dead, .dead, .dead, .dead], [some [.bld 0, .whole 0]], [some (.int .u8)]⟩
@[reducible] noncomputable def f34_p0_o0 : Shape := ⟨[.dead, .dead, .dead, .ptr 0 0, .dead, .dead, .dead, .dead, .dead, .dead, .dead, .dead, .dead, .dead, .dead, .dead, .dead, .dead, .dead, .dead, .dead, .dead, .dead, .dead], [some [.bld 0, .whole 0]], [some (.int .u8)]⟩
@[reducible] noncomputable def f34_p0_outs : List (Ex × Shape) := [(.exit 0, f34_p0_o0)]
@[reducible] noncomputable def f34_p0_a : Ann Tryd.prog 0 true (f34_c.cr.cr.cl.cr.cb.cb) := (.leaf _)
noncomputable def f34_p0_st (rec : f34_p0_sh.den → Option (OutDen f34_p0_outs)) (y : f34_p0_sh.den) : Option (OutDen f34_p0_outs) := evA f34_E f34_p0_a (fill f34_p0_sh y) fun ex st => match ex with | .normal => (abs f34_p0_sh st).bind rec | e => packOut f34_p0_outs e st
theorem f34_p0_ok : PieceSound Tryd.prog 0 true (.loop (f34_c.cr.cr.cl.cr.cb.cb)) f34_p0_sh f34_p0_outs (go f34_p0_st) := go_of (f34_E_okE) f34_p0_a rfl rfl fun _ _ => rfl
@[reducible] noncomputable def f34_ps : List KD := [.one .str]
@[reducible] noncomputable def f34_rs : List KD := [.one .str]
@[reducible] noncomputable def f34_a : Ann Tryd.prog 0 true f34_c := (.seq (.leaf _) (.seq (.leaf _) (.seq (.seq (.leaf _) (.block (.piece _ _ _ f34_p0_ok))) (.leaf _))))
noncomputable def f34_F (y : argsDen f34_ps) : Option (argsDen f34_rs) := evFunA f34_E Tryd.f34 f34_a (encArgs f34_ps y) (decRes f34_rs)
theorem f34_ok : Sound Tryd.prog 34 (pfun f34_F) := sound_of (c := f34_c) (f34_E_okE) (by kernel_rfl) (by kernel_rfl) (by kernel_rfl) f34_a (fun _ => rfl)
@[reducible] noncomputable def f15_c : Code := codeOf Tryd.f15
@[reducible] noncomputable def f15_E : Env := envOf Tryd.prog 9999 [rowOf true f34_ok, rowOf true itoa_ok, rowOf true join_ok] [] [6]
theorem f15_E_okE : EnvOk Tryd.prog f15_E := envOf_ok _ _ _ mixed [6]
@[reducible] noncomputable def f15_p0_sh : Shape := ⟨[.dead, .ptr 0 0, .dead, .whole 0, .dead, .dead, .dead, .dead, .hole (.list .str), .hole (.int .i64), .hole (.int .i64), .dead, .dead, .dead, .dead, .dead, .dead, .dead, .dead, .dead, .dead, .dead, .dead, .dead, .dead, .dead, .dead, .dead, .dead, .dead, .dead, .dead, .dead, .dead], [some [.hole (.list .str), .hole .str, .hole (.int .i64), .hole (.int .i64), .hole (.list (.prod (.int .i64) (.prod (.list .str) (.list (.int .i64)))))]], [some .str]⟩
@[reducible] noncomputable def f15_p0_o0 : Shape := ⟨[.dead, .ptr 0 0, .dead, .whole 0, .dead, .dead, .dead, .dead, .dead, .dead, .dead, .dead, .dead, .dead, .dead, .dead, .dead, .dead, .dead, .dead, .dead, .dead, .dead, .dead, .dead, .dead, .dead, .dead, .dead, .dead, .dead, .dead, .dead, .dead], [some [.hole (.list .str), .hole .str, .hole (.int .i64), .hole (.int .i64), .hole (.list (.prod (.int .i64) (.prod (.list .str) (.list (.int .i64)))))]], [some .str]⟩
@[reducible] noncomputable def f15_p0_outs : List (Ex × Shape) := [(.exit 0, f15_p0_o0)]
@[reducible] noncomputable def f15_p0_a : Ann Tryd.prog 0 true (f15_c.cr.cr.cl.cr.cb.cb) := (.leaf _)
noncomputable def f15_p0_st (rec : f15_p0_sh.den → Option (OutDen f15_p0_outs)) (y : f15_p0_sh.den) : Option (OutDen f15_p0_outs) := evA f15_E f15_p0_a (fill f15_p0_sh y) fun ex st => match ex with | .normal => (abs f15_p0_sh st).bind rec | e => packOut f15_p0_outs e st
theorem f15_p0_ok : PieceSound Tryd.prog 0 true (.loop (f15_c.cr.cr.cl.cr.cb.cb)) f15_p0_sh f15_p0_outs (go f15_p0_st) := go_of (f15_E_okE) f15_p0_a rfl rfl fun _ _ => rfl
@[reducible] noncomputable def f15_ps : List KD := [.agg [(.list .str), .str, (.int .i64), (.int .i64), (.list (.prod (.int .i64) (.prod (.list .str) (.list (.int .i64)))))]]
@[reducible] noncomputable def f15_rs : List KD := [.one .str]
@[reducible] noncomputable def f15_a : Ann Tryd.prog 0 true f15_c := (.seq (.leaf _) (.seq (.leaf _) (.seq (.seq (.leaf _) (.block (.piece _ _ _ f15_p0_ok))) (.leaf _))))
noncomputable def f15_F (y : argsDen f15_ps) : Option (argsDen f15_rs) := evFunA f15_E Tryd.f15 f15_a (encArgs f15_ps y) (decRes f15_rs)
theorem f15_ok : Sound Tryd.prog 15 (pfun f15_F) := sound_of (c := f15_c) (f15_E_okE) (by kernel_rfl) (by kernel_rfl) (by kernel_rfl) f15_a (fun _ => rfl)
@[reducible] noncomputable def f16_c : Code := codeOf Tryd.f16
@[reducible] noncomputable def f16_E : Env := envOf Tryd.prog 9999 [rowOf true f34_ok, rowOf true itoa_ok, rowOf true join_ok] [⟨36, _, h36_ok⟩] [13]
theorem f16_E_okE : EnvOk Tryd.prog f16_E := envOf_ok _ _ _ mixed [13]
@[reducible] noncomputable def f16_p0_sh : Shape := ⟨[.dead, .dead, .dead, .whole 1, .dead, .dead, .dead, .dead, .dead, .dead, .dead, .dead, .dead, .dead, .dead, .dead, .dead, .dead, .dead, .dead, .dead, .dead, .dead, .dead, .dead, .dead, .dead, .dead, .dead, .hole (.list (.int .i64)), .hole (.int .i64), .hole (.int .i64), .dead, .dead, .dead, .dead, .dead, .dead, .dead, .dead, .dead, .dead, .dead], [none], [none, some .str]⟩
@[reducible] noncomputable def f16_p0_o0 : Shape := ⟨[.dead, .dead, .dead, .whole 1, .dead, .dead, .dead, .dead, .dead, .dead, .dead, .dead, .dead, .dead, .dead, .dead, .dead, .dead, .dead, .dead, .dead, .dead, .dead, .dead, .dead, .dead, .dead, .dead, .dead, .dead, .dead, .dead, .dead, .dead, .dead, .dead, .dead, .dead, .dead, .dead, .dead, .dead, .dead], [], [none, some .str]⟩
@[reducible] noncomputable def f16_p0_outs : List (Ex × Shape) := [(.exit 2, f16_p0_o0)]
@[reducible] noncomputable def f16_p0_a : Ann Tryd.prog 0 true (f16_c.cr.cr.cr.cl.cr.cb.cb) := (.leaf _)
noncomputable def f16_p0_st (rec : f16_p0_sh.den → Option (OutDen f16_p0_outs)) (y : f16_p0_sh.den) : Option (OutDen f16_p0_outs) := evA f16_E f16_p0_a (fill f16_p0_sh y) fun ex st => match ex with | .normal => (abs f16_p0_sh st).bind rec | e => packOut f16_p0_outs e st
theorem f16_p0_ok : PieceSound Tryd.prog 0 true (.loop (f16_c.cr.cr.cr.cl.cr.cb.cb)) f16_p0_sh f16_p0_outs (go f16_p0_st) := go_of (f16_E_okE) f16_p0_a rfl rfl fun _ _ => rfl
@[reducible] noncomputable def f16_p1_sh : Shape := ⟨[.dead, .ptr 0 0, .dead, .whole 1, .dead, .dead, .dead, .dead, .dead, .dead, .dead, .dead, .dead, .dead, .dead, .hole (.list .str), .hole (.int .i64), .hole (.int .i64), .dead, .dead, .dead, .dead, .dead, .dead, .dead, .dead, .dead, .dead, .dead, .dead, .dead, .dead, .dead, .dead, .dead, .dead, .dead, .dead, .dead, .dead, .dead, .dead, .dead], [some [.hole (.int .i64), .hole (.list .str), .hole (.list (.int .i64))]], [none, some .str]⟩
@[reducible] noncomputable def f16_p1_o0 : Shape := ⟨[.dead, .ptr 0 0, .dead, .whole 1, .dead, .dead, .dead, .dead, .dead, .dead, .dead, .dead, .dead, .dead, .dead, .dead, .dead, .dead, .dead, .dead, .dead, .dead, .dead, .dead, .dead, .dead, .dead, .dead, .dead, .dead, .dead, .dead, .dead, .dead, .dead, .dead, .dead, .dead, .dead, .dead, .dead, .dead, .dead], [some [.hole (.int .i64), .hole (.list .str), .hole (.list (.int .i64))]], [none, some .str]⟩
@[reducible] noncomputable def f16_p1_outs : List (Ex × Shape) := [(.exit 0, f16_p1_o0)]
@[reducible] noncomputable def f16_p1_a : Ann Tryd.prog 0 true (f16_c.cr.cr.cl.cr.cb.cb) := (.leaf _)
noncomputable def f16_p1_st (rec : f16_p1_sh.den → Option (OutDen f16_p1_outs)) (y : f16_p1_sh.den) : Option (OutDen f16_p1_outs) := evA f16_E f16_p1_a (fill f16_p1_sh y) fun ex st => match ex with | .normal => (abs f16_p1_sh st).bind rec | e => packOut f16_p1_outs e st
theorem f16_p1_ok : PieceSound Tryd.prog 0 true (.loop (f16_c.cr.cr.cl.cr.cb.cb)) f16_p1_sh f16_p1_outs (go f16_p1_st) := go_of (f16_E_okE) f16_p1_a rfl rfl fun _ _ => rfl
@[reducible] noncomputable def f16_ps : List KD := [.agg [(.int .i64), (.list .str), (.list (.int .i64))]]
@[reducible] noncomputable def f16_rs : List KD := [.one .str]
@[reducible] noncomputable def f16_a : Ann Tryd.prog 0 true f16_c := (.seq (.leaf _) (.seq (.leaf _) (.seq (.seq (.leaf _) (.block (.piece _ _ _ f16_p1_ok))) (.seq (.seq (.leaf _) (.block (.piece _ _ _ f16_p0_ok))) (.leaf _)))))
noncomputable def f16_F (y : argsDen f16_ps) : Option (argsDen f16_rs) := evFunA f16_E Tryd.f16 f16_a (encArgs f16_ps y) (decRes f16_rs)
theorem f16_ok : Sound Tryd.prog 16 (pfun f16_F) := sound_of (c := f16_c) (f16_E_okE) (by kernel_rfl) (by kernel_rfl) (by kernel_rfl) f16_a (fun _ => rfl)
@[reducible] noncomputable def f6_c : Code := codeOf Tryd.f6
@[reducible] noncomputable def f6_E : Env := envOf Tryd.prog 9999 [rowOf true f10_ok, rowOf true f15_ok, rowOf true f16_ok] []
theorem f6_E_okE : EnvOk Tryd.prog f6_E := envOf_ok _ _ _ mixed
@[reducible] noncomputable def f6_p0_sh : Shape := ⟨[.dead, .dead, .dead, .dead, .hole .str, .dead, .dead, .dead, .dead, .dead, .dead, .dead, .dead, .dead, .hole (.list (.prod (.int .i64) (.prod (.list .str) (.list (.int .i64))))), .hole (.int .i64), .hole (.int .i64), .dead, .dead, .dead, .dead, .dead, .dead, .dead, .dead, .dead, .dead], [none], []⟩
@[reducible] noncomputable def f6_p0_o0 : Shape := ⟨[.dead, .dead, .dead, .dead, .hole .str, .dead, .dead, .dead, .dead, .dead, .dead, .dead, .dead, .dead, .dead, .dead, .dead, .dead, .dead, .dead, .dead, .dead, .dead, .dead, .dead, .dead, .dead], [], []⟩
@[reducible] noncomputable def f6_p0_outs : List (Ex × Shape) := [(.exit 0, f6_p0_o0)]
@[reducible] noncomputable def f6_p0_a : Ann Tryd.prog 0 true (f6_c.cr.cr.cr.cl.cr.cb.cb) := (.leaf _)
noncomputable def f6_p0_st (rec : f6_p0_sh.den → Option (OutDen f6_p0_outs)) (y : f6_p0_sh.den) : Option (OutDen f6_p0_outs) := evA f6_E f6_p0_a (fill f6_p0_sh y) fun ex st => match ex with | .normal => (abs f6_p0_sh st).bind rec | e => packOut f6_p0_outs e st
theorem f6_p0_ok : PieceSound Tryd.prog 0 true (.loop (f6_c.cr.cr.cr.cl.cr.cb.cb)) f6_p0_sh f6_p0_outs (go f6_p0_st) := go_of (f6_E_okE) f6_p0_a rfl rfl fun _ _ => rfl
@[reducible] noncomputable def f6_ps : List KD := [.agg [(.list .str), .str, (.int .i64), (.int .i64), (.list (.prod (.int .i64) (.prod (.list .str) (.list (.int .i64)))))]]
@[reducible] noncomputable def f6_rs : List KD := [.one .str, .one (.int .i64)]
@[reducible] noncomputable def f6_a : Ann Tryd.prog 0 true f6_c := (.seq (.leaf _) (.seq (.leaf _) (.seq (.leaf _) (.seq (.seq (.leaf _) (.block (.piece _ _ _ f6_p0_ok))) (.leaf _)))))
noncomputable def f6_F (y : argsDen f6_ps) : Option (argsDen f6_rs) := evFunA f6_E Tryd.f6 f6_a (encArgs f6_ps y) (decRes f6_rs)
theorem f6_ok : Sound Tryd.prog 6 (pfun f6_F) := sound_of (c := f6_c) (f6_E_okE) (by kernel_rfl) (by kernel_rfl) (by kernel_rfl) f6_a (fun _ => rfl)
@[reducible] noncomputable def f57_c : Code := codeOf Tryd.f57
@[reducible] noncomputable def f57_E : Env := envOf Tryd.prog 9999 [rowOf true index_ok] []
theorem f57_E_okE : EnvOk Tryd.prog f57_E := envOf_ok _ _ _ mixed
@[reducible] noncomputable def f57_p0_sh : Shape := ⟨[.hole .str, .dead, .dead, .dead, .whole 0, .hole (.int .i64), .hole (.int .i64), .dead, .dead, .dead, .dead, .dead, .dead, .dead, .dead, .dead, .dead, .dead, .dead, .dead, .dead, .dead, .dead, .dead, .dead, .dead, .dead, .dead, .dead, .dead, .dead, .dead, .dead, .dead, .dead, .dead], [], [some (.int .u8)]⟩
@[reducible] noncomputable def f57_p0_o0 : Shape := ⟨[.hole .str, .dead, .dead, .dead, .whole 0, .hole (.int .i64), .hole (.int .i64), .dead, .dead, .dead, .dead, .dead, .dead, .dead, .dead, .dead, .dead, .dead, .dead, .dead, .dead, .dead, .dead, .hole .bool, .dead, .dead, .dead, .dead, .dead, .dead, .dead, .dead, .dead, .dead, .dead, .dead], [], [some (.int .u8)]⟩
@[reducible] noncomputable def f57_p0_outs : List (Ex × Shape) := [(.normal, f57_p0_o0)]
@[reducible] noncomputable def f57_p0_a : Ann Tryd.prog 0 true (f57_c.cr.cr.cl.cb.cb.cr.cl.cb.cr.cl.cl) := (.leaf _)
noncomputable def f57_p0_F (y : f57_p0_sh.den) : Option (OutDen f57_p0_outs) := evA f57_E f57_p0_a (fill f57_p0_sh y) (packOut f57_p0_outs)
theorem f57_p0_ok : PieceSound Tryd.prog 0 true (f57_c.cr.cr.cl.cb.cb.cr.cl.cb.cr.cl.cl) f57_p0_sh f57_p0_outs f57_p0_F := piece_of (f57_E_okE) f57_p0_a rfl rfl fun _ => rfl
@[reducible] noncomputable def f57_p1_sh : Shape := ⟨[.hole .str, .dead, .dead, .dead, .whole 0, .dead, .dead, .dead, .dead, .dead, .dead, .dead, .dead, .dead, .dead, .dead, .dead, .dead, .dead, .dead, .dead, .dead, .dead, .dead, .dead, .dead, .dead, .dead, .dead, .dead, .dead, .dead, .dead, .dead, .dead, .dead], [], [some (.int .u8)]⟩
@[reducible] noncomputable def f57_p1_o0 : Shape := ⟨[.hole .str, .dead, .dead, .dead, .whole 0, .dead, .dead, .dead, .dead, .dead, .dead, .dead, .dead, .dead, .dead, .dead, .dead, .dead, .dead, .dead, .dead, .dead, .dead, .dead, .dead, .dead, .dead, .dead, .dead, .dead, .dead, .dead, .dead, .dead, .dead, .dead], [], [some (.int .u8)]⟩
@[reducible] noncomputable def f57_p1_o1 : Shape := ⟨[.dead, .dead, .hole .str, .hole (.int .i64), .dead, .dead, .dead, .dead, .dead, .dead, .dead, .dead, .dead, .dead, .dead, .dead, .dead, .dead, .dead, .dead, .dead, .dead, .dead, .dead, .dead, .dead, .dead, .dead, .dead, .dead, .dead, .dead, .dead, .dead, .dead, .dead], [], []⟩
@[reducible] noncomputable def f57_p1_outs : List (Ex × Shape) := [(.exit 0, f57_p1_o0), (.ret, f57_p1_o1)]
@[reducible] noncomputable def f57_p1_a : Ann Tryd.prog 0 true (f57_c.cr.cr.cl.cb.cb) := (.seq (.leaf _) (.seq (.block (.seq (.leaf _) (.seq (.seq (.piece _ _ _ f57_p0_ok) (.leaf _)) (.leaf _)))) (.leaf _)))
noncomputable def f57_p1_st (rec : f57_p1_sh.den → Option (OutDen f57_p1_outs)) (y : f57_p1_sh.den) : Option (OutDen f57_p1_outs) := evA f57_E f57_p1_a (fill f57_p1_sh y) fun ex st => match ex with | .normal => (abs f57_p1_sh st).bind rec | e => packOut f57_p1_outs e st
theorem f57_p1_ok : PieceSound Tryd.prog 0 true (.loop (f57_c.cr.cr.cl.cb.cb)) f57_p1_sh f57_p1_outs (go f57_p1_st) := go_of (f57_E_okE) f57_p1_a rfl rfl fun _ _ => rfl
@[reducible] noncomputable def f57_ps : List KD := [.one .str]
@[reducible] noncomputable def f57_rs : List KD := [.one .str, .one (.int .i64)]
@[reducible] noncomputable def f57_a : Ann Tryd.prog 0 true f57_c := (.seq (.leaf _) (.seq (.leaf _) (.seq (.block (.piece _ _ _ f57_p1_ok)) (.leaf _))))
noncomputable def f57_F (y : argsDen f57_ps) : Option (argsDen f57_rs) := evFunA f57_E Tryd.f57 f57_a (encArgs f57_ps y) (decRes f57_rs)
theorem f57_ok : Sound Tryd.prog 57 (pfun f57_F) := sound_of (c := f57_c) (f57_E_okE) (by kernel_rfl) (by kernel_rfl) (by kernel_rfl) f57_a (fun _ => rfl)
@[reducible] noncomputable def f38_c : Code := codeOf Tryd.f38
@[reducible] noncomputable def f38_E : Env := envOf Tryd.prog 9999 [rowOf true f57_ok] []
theorem f38_E_okE : EnvOk Tryd.prog f38_E := envOf_ok _ _ _ mixed
@[reducible] noncomputable def f38_ps : List KD := [.one .str]
@[reducible] noncomputable def f38_rs : List KD := [.one .str]
@[reducible] noncomputable def f38_a : Ann Tryd.prog 0 true f38_c := (.leaf _)
noncomputable def f38_F (y : argsDen f38_ps) : Option (argsDen f38_rs) := evFunA f38_E Tryd.f38 f38_a (encArgs f38_ps y) (decRes f38_rs)
theorem f38_ok : Sound Tryd.prog 38 (pfun f38_F) := sound_of (c := f38_c) (f38_E_okE) (by kernel_rfl) (by kernel_rfl) (by kernel_rfl) f38_a (fun _ => rfl)
@[reducible] noncomputable def f17_c : Code := codeOf Tryd.f17
@[reducible] noncomputable def h17_E : Env := envOf Tryd.prog 9999 [rowOf false split_ok, rowOf true f38_ok, rowOf true number_ok, rowOf true f21_ok, rowOf true f15_ok] []
theorem h17_E_okE : EnvOk Tryd.prog h17_E := envOf_ok _ _ _ mixed
@[reducible] noncomputable def h17_p0_sh : Shape := ⟨[.hole .str, .dead, .ptr 0 0, .dead, .dead, .ptr 1 0, .dead, .dead, .dead, .dead, .dead, .dead, .dead, .dead, .dead, .dead, .dead, .dead, .dead, .dead, .dead, .dead, .dead, .dead, .dead, .dead, .dead, .dead, .hole (.list .str), .hole (.int .i64), .hole (.int .i64), .dead, .dead, .dead, .dead, .dead, .dead, .dead, .dead, .dead, .dead, .dead, .dead, .dead, .dead, .dead, .dead, .dead, .dead, .dead, .dead], [some [.nilS, .hole .str, .hole (.int .i64), .hole (.int .i64), .nilS], some [.whole 0, .hole .str, .hole (.int .i64), .hole (.int .i64), .nilS]], [some .str]⟩
@[reducible] noncomputable def h17_p0_o0 : Shape := ⟨[.hole .str, .dead, .ptr 0 0, .dead, .dead, .ptr 1 0, .dead, .dead, .dead, .dead, .dead, .dead, .dead, .dead, .dead, .dead, .dead, .dead, .dead, .dead, .dead, .dead, .dead, .dead, .dead, .dead, .dead, .dead, .dead, .dead, .dead, .dead, .dead, .dead, .dead, .dead, .dead, .dead, .dead, .dead, .dead, .dead, .dead, .dead, .dead, .dead, .dead, .dead, .dead, .dead, .dead], [some [.nilS, .hole .str, .hole (.int .i64), .hole (.int .i64), .nilS], some [.whole 0, .hole .str, .hole (.int .i64), .hole (.int .i64), .nilS]], [some .str]⟩
@[reducible] noncomputable def h17_p0_outs : List (Ex × Shape) := [(.exit 0, h17_p0_o0)]
@[reducible] noncomputable def h17_p0_a : Ann Tryd.prog 0 true (f17_c.cr.cr.cr.cr.cl.cr.cb.cb) := (.leaf _)
noncomputable def h17_p0_st (rec : h17_p0_sh.den → Option (OutDen h17_p0_outs)) (y : h17_p0_sh.den) : Option (OutDen h17_p0_outs) := evA h17_E h17_p0_a (fill h17_p0_sh y) fun ex st => match ex with | .normal => (abs h17_p0_sh st).bind rec | e => packOut h17_p0_outs e st
theorem h17_p0_ok : PieceSound Tryd.prog 0 true (.loop (f17_c.cr.cr.cr.cr.cl.cr.cb.cb)) h17_p0_sh h17_p0_outs (go h17_p0_st) := go_of (h17_E_okE) h17_p0_a rfl rfl fun _ _ => rfl
@[reducible] noncomputable def h17_I : Shape := ⟨[.hole .str], [], []⟩
@[reducible] noncomputable def h17_O : Shape := ⟨[.agg [.whole 0, .hole .str, .hole (.int .i64), .hole (.int .i64), .nilS], .hole .bool], [], [some .str]⟩
@[reducible] noncomputable def h17_a : Ann Tryd.prog 0 true f17_c := (.seq (.leaf _) (.seq (.leaf _) (.seq (.leaf _) (.seq (.leaf _) (.seq (.seq (.leaf _) (.block (.piece _ _ _ h17_p0_ok))) (.leaf _))))))
noncomputable def h17_F (y : h17_I.den) : Option h17_O.den := evFunH h17_E Tryd.f17 h17_a h17_I h17_O y
theorem h17_ok : SoundH Tryd.prog 17 ⟨h17_I, h17_O, h17_F⟩ := sound_ofH (I := h17_I) (O := h17_O) (c := f17_c) (h17_E_okE) (by kernel_rfl) (by kernel_rfl) (by kernel_rfl) h17_a rfl rfl (fun _ => rfl)
@[reducible] noncomputable def f18_c : Code := codeOf Tryd.f18
@[reducible] noncomputable def f18_E : Env := envOf Tryd.prog 9999 [rowOf false split_ok, rowOf true trim_ok, rowOf true f38_ok, rowOf true number_ok, rowOf true f24_ok, rowOf true f16_ok] [⟨36, _, h36_ok⟩]
theorem f18_E_okE : EnvOk Tryd.prog f18_E := envOf_ok _ _ _ mixed
@[reducible] noncomputable def f18_p0_sh : Shape := ⟨[.hole .str, .dead, .ptr 0 0, .dead, .dead, .dead, .ptr 1 0, .ptr 2 0, .dead, .dead, .dead, .dead, .dead, .dead, .dead, .dead, .dead, .dead, .dead, .dead, .dead, .dead, .dead, .dead, .dead, .dead, .dead, .dead, .dead, .dead, .dead, .dead, .dead, .dead, .dead, .dead, .dead, .dead, .dead, .hole (.list .str), .hole (.int .i64), .hole (.int .i64), .dead, .dead, .dead, .dead, .dead, .dead, .dead, .dead, .dead, .dead, .dead, .dead, .dead, .dead, .dead, .dead, .dead, .dead, .dead, .dead, .dead, .dead, .dead, .dead, .dead, .dead, .dead, .dead, .dead, .dead, .dead, .dead, .dead, .dead], [some [.hole (.int .i64), .nilS, .nilS], some [.hole .str, .hole (.int .i64), .hole (.int .i64)], some [.hole (.int .i64), .whole 0, .whole 1]], [some .str, some (.int .i64)]⟩
@[reducible] noncomputable def f18_p0_o0 : Shape := ⟨[.hole .str, .dead, .ptr 0 0, .dead, .dead, .dead, .ptr 1 0, .ptr 2 0, .dead, .dead, .dead, .dead, .dead, .dead, .dead, .dead, .dead, .dead, .dead, .dead, .dead, .dead, .dead, .dead, .dead, .dead, .dead, .dead, .dead, .dead, .dead, .dead, .dead, .dead, .dead, .dead, .dead, .dead, .dead, .hole (.list .str), .hole (.int .i64), .hole (.int .i64), .dead, .dead, .dead, .dead, .dead, .dead, .dead, .dead, .dead, .dead, .dead, .dead, .dead, .dead, .dead, .dead, .dead, .dead, .dead, .dead, .dead, .dead, .dead, .dead, .dead, .dead, .dead, .dead, .dead, .dead, .dead, .dead, .dead, .dead], [some [.hole (.int .i64), .nilS, .nilS], some [.hole .str, .hole (.int .i64), .hole (.int .i64)], some [.hole (.int .i64), .whole 0, .whole 1]], [some .str, some (.int .i64)]⟩
@[reducible] noncomputable def f18_p0_outs : List (Ex × Shape) := [(.normal, f18_p0_o0)]
@[reducible] noncomputable def f18_p0_a : Ann Tryd.prog 0 true (f18_c.cr.cr.cl.cr.cb.cb.cr.cr.cb.cr.cr.cr.cl.cr.cb.cb.cr.cr.cl) := (.leaf _)
noncomputable def f18_p0_F (y : f18_p0_sh.den) : Option (OutDen f18_p0_outs) := evA f18_E f18_p0_a (fill f18_p0_sh y) (packOut f18_p0_outs)
theorem f18_p0_ok : PieceSound Tryd.prog 0 true (f18_c.cr.cr.cl.cr.cb.cb.cr.cr.cb.cr.cr.cr.cl.cr.cb.cb.cr.cr.cl) f18_p0_sh f18_p0_outs f18_p0_F := piece_of (f18_E_okE) f18_p0_a rfl rfl fun _ => rfl
@[reducible] noncomputable def f18_p1_sh : Shape := ⟨[.hole .str, .dead, .ptr 0 0, .dead, .dead, .dead, .ptr 1 0, .ptr 2 0, .dead, .dead, .dead, .dead, .dead, .dead, .dead, .dead, .dead, .dead, .dead, .dead, .dead, .dead, .dead, .dead, .dead, .dead, .dead, .dead, .dead, .dead, .dead, .dead, .dead, .dead, .dead, .dead, .dead, .dead, .dead, .hole (.list .str), .hole (.int .i64), .hole (.int .i64), .dead, .dead, .dead, .dead, .dead, .dead, .dead, .dead, .dead, .dead, .dead, .dead, .dead, .dead, .dead, .dead, .dead, .dead, .dead, .dead, .dead, .dead, .dead, .dead, .dead, .dead, .dead, .dead, .dead, .dead, .dead, .dead, .dead, .dead], [some [.hole (.int .i64), .nilS, .nilS], some [.hole .str, .hole (.int .i64), .hole (.int .i64)], some [.hole (.int .i64), .whole 0, .whole 1]], [some .str, some (.int .i64)]⟩
@[reducible] noncomputable def f18_p1_o0 : Shape := ⟨[.hole .str, .dead, .ptr 0 0, .dead, .dead, .dead, .dead, .ptr 2 0, .dead, .dead, .dead, .dead, .dead, .dead, .dead, .dead, .dead, .dead, .dead, .dead, .dead, .dead, .dead, .dead, .dead, .dead, .dead, .dead, .dead, .dead, .dead, .dead, .dead, .dead, .dead, .dead, .dead, .dead, .dead, .dead, .dead, .dead, .dead, .dead, .dead, .dead, .dead, .dead, .dead, .dead, .dead, .dead, .dead, .dead, .dead, .dead, .dead, .dead, .dead, .dead, .dead, .dead, .dead, .dead, .dead, .dead, .dead, .dead, .dead, .dead, .dead, .dead, .dead, .dead, .dead, .dead], [some [.hole (.int .i64), .nilS, .nilS], none, some [.hole (.int .i64), .whole 0, .whole 1]], [some .str, some (.int .i64)]⟩
@[reducible] noncomputable def f18_p1_outs : List (Ex × Shape) := [(.exit 2, f18_p1_o0)]
@[reducible] noncomputable def f18_p1_a : Ann Tryd.prog 0 true (f18_c.cr.cr.cl.cr.cb.cb.cr.cr.cb.cr.cr.cr.cl.cr.cb.cb) := (.seq (.leaf _) (.seq (.leaf _) (.seq (.piece _ _ _ f18_p0_ok) (.leaf _))))
noncomputable def f18_p1_st (rec : f18_p1_sh.den → Option (OutDen f18_p1_outs)) (y : f18_p1_sh.den) : Option (OutDen f18_p1_outs) := evA f18_E f18_p1_a (fill f18_p1_sh y) fun ex st => match ex with | .normal => (abs f18_p1_sh st).bind rec | e => packOut f18_p1_outs e st
theorem f18_p1_ok : PieceSound Tryd.prog 0 true (.loop (f18_c.cr.cr.cl.cr.cb.cb.cr.cr.cb.cr.cr.cr.cl.cr.cb.cb)) f18_p1_sh f18_p1_outs (go f18_p1_st) := go_of (f18_E_okE) f18_p1_a rfl rfl fun _ _ => rfl
@[reducible] noncomputable def f18_p2_sh : Shape := ⟨[.hole .str, .dead, .ptr 0 0, .dead, .hole (.list .str), .dead, .dead, .dead, .dead, .dead, .dead, .dead, .dead, .dead, .dead, .dead, .dead, .dead, .dead, .dead, .dead, .dead, .dead, .dead, .dead, .dead, .dead, .dead, .dead, .dead, .dead, .dead, .dead, .dead, .dead, .dead, .dead, .dead, .dead, .dead, .dead, .dead, .dead, .dead, .dead, .dead, .dead, .dead, .dead, .dead, .dead, .dead, .dead, .dead, .dead, .dead, .dead, .dead, .dead, .dead, .dead, .dead, .dead, .dead, .dead, .dead, .dead, .dead, .dead, .dead, .dead, .dead, .dead, .dead, .dead, .dead], [some [.hole (.int .i64), .nilS, .nilS]], []⟩
@[reducible] noncomputable def f18_p2_o0 : Shape := ⟨[.dead, .dead, .ptr 0 0, .dead, .dead, .dead, .dead, .dead, .dead, .dead, .dead, .dead, .dead, .dead, .dead, .dead, .dead, .dead, .dead, .dead, .dead, .dead, .dead, .dead, .dead, .dead, .dead, .dead, .dead, .dead, .dead, .dead, .dead, .dead, .dead, .dead, .dead, .dead, .dead, .dead, .dead, .dead, .dead, .dead, .dead, .dead, .dead, .dead, .dead, .dead, .dead, .dead, .dead, .dead, .dead, .dead, .dead, .dead, .dead, .dead, .dead, .dead, .dead, .dead, .dead, .dead, .dead, .dead, .dead, .dead, .dead, .dead, .dead, .dead, .dead, .dead], [some [.hole (.int .i64), .nilS, .nilS]], []⟩
@[reducible] noncomputable def f18_p2_o1 : Shape := ⟨[.dead, .dead, .ptr 0 0, .hole .bool, .dead, .dead, .dead, .dead, .dead, .dead, .dead, .dead, .dead, .dead, .dead, .dead, .dead, .dead, .dead, .dead, .dead, .dead, .dead, .dead, .dead, .dead, .dead, .dead, .dead, .dead, .dead, .dead, .dead, .dead, .dead, .dead, .dead, .dead, .dead, .dead, .dead, .dead, .dead, .dead, .dead, .dead, .dead, .dead, .dead, .dead, .dead, .dead, .dead, .dead, .dead, .dead, .dead, .dead, .dead, .dead, .dead, .dead, .dead, .dead, .dead, .dead, .dead, .dead, .dead, .dead, .dead, .dead, .dead, .dead, .dead, .dead], [some [.hole (.int .i64), .whole 0, .whole 1]], [some .str, some (.int .i64)]⟩
@[reducible] noncomputable def f18_p2_outs : List (Ex × Shape) := [(.normal, f18_p2_o0), (.ret, f18_p2_o1)]
@[reducible] noncomputable def f18_p2_hd : Shape := ⟨[.hole .str, .dead, .ptr 0 0, .dead, .hole (.list .str), .dead, .dead, .dead, .dead, .dead, .dead, .dead, .dead, .dead, .dead, .dead, .dead, .dead, .dead, .dead, .dead, .dead, .dead, .dead, .dead, .dead, .dead, .dead, .dead, .dead, .dead, .dead, .dead, .dead, .dead, .dead, .dead, .dead, .dead, .dead, .dead, .dead, .dead, .dead, .dead, .dead, .dead, .dead, .dead, .dead, .dead, .dead, .dead, .dead, .dead, .dead, .dead, .dead, .dead, .dead, .dead, .dead, .dead, .dead, .dead, .dead, .dead, .dead, .dead, .dead, .dead, .dead, .dead, .dead, .dead, .dead], [some [.hole (.int .i64), .nilS, .nilS]], []⟩
@[reducible] noncomputable def f18_p2_aB : Ann Tryd.prog 0 true (f18_c.cr.cr.cl.cr.cb.cb.cr.cr.cb.cr) := (.seq (.leaf _) (.seq (.leaf _) (.seq (.seq (.leaf _) (.block (.piece _ _ _ f18_p1_ok))) (.leaf _))))
@[reducible] noncomputable def f18_p2_ops0 : Array Oper := (f18_c.cr.cr.cl.cl).opsOf
@[reducible] noncomputable def f18_p2_ops1 : Array Oper := (f18_c.cr.cr.cl.cr.cb.cb.cl).opsOf
@[reducible] noncomputable def f18_p2_ops2 : Array Oper := (f18_c.cr.cr.cl.cr.cb.cb.cr.cr.cb.cl).opsOf
noncomputable def f18_p2_st (y : f18_p2_hd.den) (e : ((.int .i64) : Ty).den × ((.prod .str (.prod (.int .i64) (.int .i64))) : Ty).den) : Option (f18_p2_hd.den ⊕ OutDen f18_p2_outs) := mrStep f18_E f18_p2_aB f18_p2_ops1 f18_p2_ops2 [1] [1, 2, 3, 4, 5] 14 15 16 13 1 0 f18_p2_hd f18_p2_outs y (entAV (.int .i64) (.prod .str (.prod (.int .i64) (.int .i64))) true e)
noncomputable def f18_p2_fin (y : f18_p2_hd.den) : Option (OutDen f18_p2_outs) := mrFin f18_E f18_p2_ops1 [1] 14 15 13 f18_p2_hd f18_p2_outs y
noncomputable def f18_p2_F (y : f18_p2_sh.den) : Option (OutDen f18_p2_outs) := mrF f18_E f18_p2_ops0 [0] (.tmp 12) 61 f18_p2_sh f18_p2_hd (mrStep f18_E f18_p2_aB f18_p2_ops1 f18_p2_ops2 [1] [1, 2, 3, 4, 5] 14 15 16 13 1 0 f18_p2_hd f18_p2_outs) f18_p2_fin y
theorem f18_p2_ok : PieceSound Tryd.prog 0 true (f18_c.cr.cr.cl) f18_p2_sh f18_p2_outs f18_p2_F := mrange_at (id0 := 2) (id1 := 3) (id2 := 4) (j := 0) (k := 1) (it := 13) (d1 := 14) (t1 := 15) (d2 := 16) (tM := 61) (n0 := 1) (m := (.tmp 12)) (ops0 := f18_p2_ops0) (ops1 := f18_p2_ops1) (ops2 := f18_p2_ops2) (f18_E_okE) f18_p2_aB (l0 := [0]) (l1 := [1]) (l2 := [1, 2, 3, 4, 5]) (sh := f18_p2_hd) (by kernel_rfl) (by kernel_rfl) (by kernel_rfl) (by kernel_rfl) (by kernel_rfl) (by kernel_rfl) (by kernel_rfl) (by kernel_rfl) (fun _ => rfl) rfl rfl rfl (by kernel_rfl) (by kernel_rfl) (fun _ => rfl)
@[reducible] noncomputable def f18_ps : List KD := [.one .str]
@[reducible] noncomputable def f18_rs : List KD := [.agg [(.int .i64), (.list .str), (.list (.int .i64))], .one .bool]
@[reducible] noncomputable def f18_a : Ann Tryd.prog 0 true f18_c := (.seq (.leaf _) (.seq (.leaf _) (.seq (.piece _ _ _ f18_p2_ok) (.leaf _))))
noncomputable def f18_F (y : argsDen f18_ps) : Option (argsDen f18_rs) := evFunA f18_E Tryd.f18 f18_a (encArgs f18_ps y) (decRes f18_rs)
theorem f18_ok : Sound Tryd.prog 18 (pfun f18_F) := sound_of (c := f18_c) (f18_E_okE) (by kernel_rfl) (by kernel_rfl) (by kernel_rfl) f18_a (fun _ => rfl)
@[reducible] noncomputable def f7_c : Code := codeOf Tryd.f7
@[reducible] noncomputable def f7_E : Env := envOf Tryd.prog 9999 [rowOf true cut_ok, rowOf false f18_ok] [⟨17, _, h17_ok⟩]
theorem f7_E_okE : EnvOk Tryd.prog f7_E := envOf_ok _ _ _ mixed
@[reducible] noncomputable def f7_p0_sh : Shape := ⟨[.dead, .dead, .ptr 0 0, .dead, .dead, .dead, .hole .str, .hole .bool, .ptr 1 0, .dead, .hole (.int .i64), .ptr 2 0, .hole .bool, .dead, .dead, .dead, .dead, .dead, .dead, .dead, .dead, .dead, .dead, .dead, .dead, .dead, .dead, .dead, .dead, .dead, .dead, .dead, .dead, .dead, .dead, .dead, .dead, .dead, .dead, .dead, .dead, .dead, .dead, .dead, .dead, .dead, .dead, .dead, .dead, .dead, .dead, .dead, .dead, .dead, .dead, .dead, .dead, .dead, .dead, .dead, .dead, .dead, .dead, .dead, .dead, .dead, .dead], [some [.nilS, .hole .str, .hole (.int .i64), .hole (.int .i64), .nilS], some [.whole 0, .hole .str, .hole (.int .i64), .hole (.int .i64), .whole 1], some [.hole (.int .i64), .hole (.list .str), .hole (.list (.int .i64))]], [some .str, some (.prod (.int .i64) (.prod (.list .str) (.list (.int .i64))))]⟩
@[reducible] noncomputable def f7_p0_o0 : Shape := ⟨[.dead, .dead, .ptr 0 0, .dead, .dead, .dead, .hole .str, .dead, .ptr 1 0, .dead, .hole (.int .i64), .ptr 2 0, .dead, .dead, .dead, .dead, .dead, .dead, .dead, .dead, .dead, .dead, .dead, .dead, .dead, .dead, .dead, .dead, .dead, .dead, .dead, .dead, .dead, .dead, .dead, .dead, .dead, .dead, .dead, .dead, .dead, .dead, .dead, .dead, .dead, .dead, .dead, .dead, .dead, .dead, .dead, .dead, .dead, .dead, .dead, .dead, .dead, .hole .bool, .dead, .dead, .dead, .dead, .dead, .dead, .dead, .dead, .dead], [some [.nilS, .hole .str, .hole (.int .i64), .hole (.int .i64), .nilS], some [.whole 0, .hole .str, .hole (.int .i64), .hole (.int .i64), .whole 1], some [.hole (.int .i64), .hole (.list .str), .hole (.list (.int .i64))]], [some .str, some (.prod (.int .i64) (.prod (.list .str) (.list (.int .i64))))]⟩
@[reducible] noncomputable def f7_p0_outs : List (Ex × Shape) := [(.normal, f7_p0_o0)]
@[reducible] noncomputable def f7_p0_a : Ann Tryd.prog 0 true (f7_c.cr.cr.cr.cr.cl.cr.cb.cb.cr.cl.cb.cr.cr.cl.cl) := (.leaf _)
noncomputable def f7_p0_F (y : f7_p0_sh.den) : Option (OutDen f7_p0_outs) := evA f7_E f7_p0_a (fill f7_p0_sh y) (packOut f7_p0_outs)
theorem f7_p0_ok : PieceSound Tryd.prog 0 true (f7_c.cr.cr.cr.cr.cl.cr.cb.cb.cr.cl.cb.cr.cr.cl.cl) f7_p0_sh f7_p0_outs f7_p0_F := piece_of (f7_E_okE) f7_p0_a rfl rfl fun _ => rfl
@[reducible] noncomputable def f7_p1_sh : Shape := ⟨[.dead, .dead, .ptr 0 0, .dead, .dead, .dead, .hole .str, .dead, .ptr 1 0, .dead, .hole (.int .i64), .dead, .dead, .dead, .dead, .dead, .dead, .dead, .dead, .dead, .dead, .dead, .dead, .dead, .dead, .dead, .dead, .dead, .dead, .dead, .dead, .dead, .dead, .dead, .dead, .dead, .dead, .dead, .dead, .dead, .dead, .dead, .dead, .dead, .dead, .dead, .dead, .dead, .dead, .dead, .dead, .dead, .dead, .dead, .dead, .dead, .dead, .dead, .dead, .dead, .dead, .dead, .dead, .dead, .dead, .dead, .dead], [some [.nilS, .hole .str, .hole (.int .i64), .hole (.int .i64), .nilS], some [.whole 0, .hole .str, .hole (.int .i64), .hole (.int .i64), .whole 1]], [some .str, some (.prod (.int .i64) (.prod (.list .str) (.list (.int .i64))))]⟩
@[reducible] noncomputable def f7_p1_o0 : Shape := ⟨[.dead, .dead, .ptr 0 0, .dead, .dead, .dead, .dead, .dead, .ptr 1 0, .dead, .dead, .dead, .dead, .dead, .dead, .dead, .dead, .dead, .dead, .dead, .dead, .dead, .dead, .dead, .dead, .dead, .dead, .dead, .dead, .dead, .dead, .dead, .dead, .dead, .dead, .dead, .dead, .dead, .dead, .dead, .dead, .dead, .dead, .dead, .dead, .dead, .dead, .dead, .dead, .dead, .dead, .dead, .dead, .dead, .dead, .dead, .dead, .dead, .dead, .dead, .dead, .dead, .dead, .dead, .dead, .dead, .dead], [some [.nilS, .hole .str, .hole (.int .i64), .hole (.int .i64), .nilS], some [.whole 0, .hole .str, .hole (.int .i64), .hole (.int .i64), .whole 1]], [some .str, some (.prod (.int .i64) (.prod (.list .str) (.list (.int .i64))))]⟩
@[reducible] noncomputable def f7_p1_o1 : Shape := ⟨[.dead, .dead, .ptr 0 0, .hole (.int .i64), .hole (.int .i64), .dead, .dead, .dead, .dead, .dead, .dead, .dead, .dead, .dead, .dead, .dead, .dead, .dead, .dead, .dead, .dead, .dead, .dead, .dead, .dead, .dead, .dead, .dead, .dead, .dead, .dead, .dead, .dead, .dead, .dead, .dead, .dead, .dead, .dead, .dead, .dead, .dead, .dead, .dead, .dead, .dead, .dead, .dead, .dead, .dead, .dead, .dead, .dead, .dead, .dead, .dead, .dead, .dead, .dead, .dead, .dead, .dead, .dead, .dead, .dead, .dead, .dead], [some [.nilS, .hole .str, .hole (.int .i64), .hole (.int .i64), .nilS]], []⟩
@[reducible] noncomputable def f7_p1_outs : List (Ex × Shape) := [(.exit 0, f7_p1_o0), (.ret, f7_p1_o1)]
@[reducible] noncomputable def f7_p1_a : Ann Tryd.prog 0 true (f7_c.cr.cr.cr.cr.cl.cr.cb.cb) := (.seq (.leaf _) (.seq (.block (.seq (.leaf _) (.seq (.leaf _) (.seq (.seq (.piece _ _ _ f7_p0_ok) (.leaf _)) (.leaf _))))) (.leaf _)))
noncomputable def f7_p1_st (rec : f7_p1_sh.den → Option (OutDen f7_p1_outs)) (y : f7_p1_sh.den) : Option (OutDen f7_p1_outs) := evA f7_E f7_p1_a (fill f7_p1_sh y) fun ex st => match ex with | .normal => (abs f7_p1_sh st).bind rec | e => packOut f7_p1_outs e st
theorem f7_p1_ok : PieceSound Tryd.prog 0 true (.loop (f7_c.cr.cr.cr.cr.cl.cr.cb.cb)) f7_p1_sh f7_p1_outs (go f7_p1_st) := go_of (f7_E_okE) f7_p1_a rfl rfl fun _ _ => rfl
@[reducible] noncomputable def f7_p2_sh : Shape := ⟨[.dead, .dead, .ptr 0 0, .dead, .dead, .dead, .hole .str, .hole .bool, .ptr 1 0, .hole .bool, .dead, .dead, .dead, .dead, .dead, .dead, .dead, .dead, .dead, .dead, .dead, .dead, .dead, .dead, .dead, .dead, .dead, .dead, .dead, .dead, .dead, .dead, .dead, .dead, .dead, .dead, .dead, .dead, .dead, .dead, .dead, .dead, .dead, .dead, .dead, .dead, .dead, .dead, .dead, .dead, .dead, .dead, .dead, .dead, .dead, .dead, .dead, .dead, .dead, .dead, .dead, .dead, .dead, .dead, .dead, .dead, .dead], [some [.nilS, .hole .str, .hole (.int .i64), .hole (.int .i64), .nilS], some [.whole 0, .hole .str, .hole (.int .i64), .hole (.int .i64), .nilS]], [some .str]⟩
@[reducible] noncomputable def f7_p2_o0 : Shape := ⟨[.dead, .dead, .ptr 0 0, .dead, .dead, .dead, .hole .str, .dead, .ptr 1 0, .dead, .dead, .dead, .dead, .dead, .dead, .dead, .dead, .dead, .dead, .dead, .dead, .dead, .dead, .dead, .dead, .dead, .dead, .dead, .dead, .hole .bool, .dead, .dead, .dead, .dead, .dead, .dead, .dead, .dead, .dead, .dead, .dead, .dead, .dead, .dead, .dead, .dead, .dead, .dead, .dead, .dead, .dead, .dead, .dead, .dead, .dead, .dead, .dead, .dead, .dead, .dead, .dead, .dead, .dead, .dead, .dead, .dead, .dead], [some [.nilS, .hole .str, .hole (.int .i64), .hole (.int .i64), .nilS], some [.whole 0, .hole .str, .hole (.int .i64), .hole (.int .i64), .nilS]], [some .str]⟩
@[reducible] noncomputable def f7_p2_outs : List (Ex × Shape) := [(.normal, f7_p2_o0)]
@[reducible] noncomputable def f7_p2_a : Ann Tryd.prog 0 true (f7_c.cr.cr.cr.cl.cl) := (.leaf _)
noncomputable def f7_p2_F (y : f7_p2_sh.den) : Option (OutDen f7_p2_outs) := evA f7_E f7_p2_a (fill f7_p2_sh y) (packOut f7_p2_outs)
theorem f7_p2_ok : PieceSound Tryd.prog 0 true (f7_c.cr.cr.cr.cl.cl) f7_p2_sh f7_p2_outs f7_p2_F := piece_of (f7_E_okE) f7_p2_a rfl rfl fun _ => rfl
@[reducible] noncomputable def f7_ps : List KD := [.one .str]
@[reducible] noncomputable def f7_rs : List KD := [.agg [(.list .str), .str, (.int .i64), (.int .i64), (.list (.prod (.int .i64) (.prod (.list .str) (.list (.int .i64)))))], .one (.int .i64), .one (.int .i64)]
@[reducible] noncomputable def f7_a : Ann Tryd.prog 0 true f7_c := (.seq (.leaf _) (.seq (.leaf _) (.seq (.leaf _) (.seq (.seq (.piece _ _ _ f7_p2_ok) (.leaf _)) (.seq (.seq (.leaf _) (.block (.piece _ _ _ f7_p1_ok))) (.leaf _))))))
noncomputable def f7_F (y : argsDen f7_ps) : Option (argsDen f7_rs) := evFunA f7_E Tryd.f7 f7_a (encArgs f7_ps y) (decRes f7_rs)
theorem f7_ok : Sound Tryd.prog 7 (pfun f7_F) := sound_of (c := f7_c) (f7_E_okE) (by kernel_rfl) (by kernel_rfl) (by kernel_rfl) f7_a (fun _ => rfl)
@[reducible] noncomputable def f41_c : Code := codeOf Tryd.f41
@[reducible] noncomputable def f41_E : Env := envOf Tryd.prog 9999 [] []
theorem f41_E_okE : EnvOk Tryd.prog f41_E := envOf_ok _ _ _ mixed
@[reducible] noncomputable def f41_ps : List KD := [.one (.int .i64)]
@[reducible] noncomputable def f41_rs : List KD := [.one .str]
@[reducible] noncomputable def f41_a : Ann Tryd.prog 0 true f41_c := (.leaf _)
noncomputable def f41_F (y : argsDen f41_ps) : Option (argsDen f41_rs) := evFunA f41_E Tryd.f41 f41_a (encArgs f41_ps y) (decRes f41_rs)
theorem f41_ok : Sound Tryd.prog 41 (pfun f41_F) := sound_of (c := f41_c) (f41_E_okE) (by kernel_rfl) (by kernel_rfl) (by kernel_rfl) f41_a (fun _ => rfl)
noncomputable def f41_L : argsDen f41_ps → Option (argsDen f41_rs) := Classical.choose (⟨f41_F, rfl⟩ : ∃ f : argsDen f41_ps → Option (argsDen f41_rs), f = f41_F)
theorem f41_Le : f41_L = f41_F := Classical.choose_spec (⟨f41_F, rfl⟩ : ∃ f : argsDen f41_ps → Option (argsDen f41_rs), f = f41_F)
theorem f41_Lok : Sound Tryd.prog 41 (pfun f41_L) := by rw [f41_Le]; exact f41_ok
@[reducible] noncomputable def f20_c : Code := codeOf Tryd.f20
@[reducible] noncomputable def f20_E : Env := envOf Tryd.prog 9999 [rowOf true f41_Lok] []
theorem f20_E_okE : EnvOk Tryd.prog f20_E := envOf_ok _ _ _ mixed
@[reducible] noncomputable def f20_ps : List KD := []
@[reducible] noncomputable def f20_rs : List KD := [.agg [(.list .str), .str, (.int .i64), (.int .i64), (.list (.prod (.int .i64) (.prod (.list .str) (.list (.int .i64)))))]]
@[reducible] noncomputable def f20_a : Ann Tryd.prog 0 true f20_c := (.leaf _)
noncomputable def f20_F0 (y : argsDen f20_ps) : Option (argsDen f20_rs) := evFunA f20_E Tryd.f20 f20_a (encArgs f20_ps y) (decRes f20_rs)
noncomputable def f20_F : argsDen f20_ps → Option (argsDen f20_rs) := Classical.choose (⟨f20_F0, rfl⟩ : ∃ f : argsDen f20_ps → Option (argsDen f20_rs), f = f20_F0)
theorem f20_Fe : f20_F = f20_F0 := Classical.choose_spec (⟨f20_F0, rfl⟩ : ∃ f : argsDen f20_ps → Option (argsDen f20_rs), f = f20_F0)
theorem f20_ok0 : Sound Tryd.prog 20 (pfun f20_F0) := sound_of (c := f20_c) (f20_E_okE) (by kernel_rfl) (by kernel_rfl) (by kernel_rfl) f20_a (fun _ => rfl)
theorem f20_ok : Sound Tryd.prog 20 (pfun f20_F) := by rw [f20_Fe]; exact f20_ok0
noncomputable def f6_L : argsDen f6_ps → Option (argsDen f6_rs) := Classical.choose (⟨f6_F, rfl⟩ : ∃ f : argsDen f6_ps → Option (argsDen f6_rs), f = f6_F)
theorem f6_Le : f6_L = f6_F := Classical.choose_spec (⟨f6_F, rfl⟩ : ∃ f : argsDen f6_ps → Option (argsDen f6_rs), f = f6_F)
theorem f6_Lok : Sound Tryd.prog 6 (pfun f6_L) := by rw [f6_Le]; exact f6_ok
noncomputable def f7_L : argsDen f7_ps → Option (argsDen f7_rs) := Classical.choose (⟨f7_F, rfl⟩ : ∃ f : argsDen f7_ps → Option (argsDen f7_rs), f = f7_F)
theorem f7_Le : f7_L = f7_F := Classical.choose_spec (⟨f7_F, rfl⟩ : ∃ f : argsDen f7_ps → Option (argsDen f7_rs), f = f7_F)
theorem f7_Lok : Sound Tryd.prog 7 (pfun f7_L) := by rw [f7_Le]; exact f7_ok
noncomputable def f10_L : argsDen f10_ps → Option (argsDen f10_rs) := Classical.choose (⟨f10_F, rfl⟩ : ∃ f : argsDen f10_ps → Option (argsDen f10_rs), f = f10_F)
theorem f10_Le : f10_L = f10_F := Classical.choose_spec (⟨f10_F, rfl⟩ : ∃ f : argsDen f10_ps → Option (argsDen f10_rs), f = f10_F)
theorem f10_Lok : Sound Tryd.prog 10 (pfun f10_L) := by rw [f10_Le]; exact f10_ok
@[reducible] noncomputable def f9_c : Code := codeOf Tryd.f9
@[reducible] noncomputable def f9_E : Env := envOf Tryd.prog 9999 [rowOf false f20_ok, rowOf true f6_Lok, rowOf false f7_Lok, rowOf true f10_Lok] []
theorem f9_E_okE : EnvOk Tryd.prog f9_E := envOf_ok _ _ _ mixed
@[reducible] noncomputable def f9_ps : List KD := []
@[reducible] noncomputable def f9_rs : List KD := [.one .bool]
@[reducible] noncomputable def f9_a : Ann Tryd.prog 0 true f9_c := (.leaf _)
noncomputable def f9_F0 (y : argsDen f9_ps) : Option (argsDen f9_rs) := evFunA f9_E Tryd.f9 f9_a (encArgs f9_ps y) (decRes f9_rs)
noncomputable def f9_F : argsDen f9_ps → Option (argsDen f9_rs) := Classical.choose (⟨f9_F0, rfl⟩ : ∃ f : argsDen f9_ps → Option (argsDen f9_rs), f = f9_F0)
theorem f9_Fe : f9_F = f9_F0 := Classical.choose_spec (⟨f9_F0, rfl⟩ : ∃ f : argsDen f9_ps → Option (argsDen f9_rs), f = f9_F0)
theorem f9_ok0 : Sound Tryd.prog 9 (pfun f9_F0) := sound_of (c := f9_c) (f9_E_okE) (by kernel_rfl) (by kernel_rfl) (by kernel_rfl) f9_a (fun _ => rfl)
theorem f9_ok : Sound Tryd.prog 9 (pfun f9_F) := by rw [f9_Fe]; exact f9_ok0
@[reducible] noncomputable def f29_c : Code := codeOf Tryd.f29
@[reducible] noncomputable def f29_E : Env := envOf Tryd.prog 9999 [] []
theorem f29_E_okE : EnvOk Tryd.prog f29_E := envOf_ok _ _ _ mixed
@[reducible] noncomputable def f29_ps : List KD := [.one (.int .i64)]
@[reducible] noncomputable def f29_rs : List KD := [.one (.int .i64)]
@[reducible] noncomputable def f29_a : Ann Tryd.prog 0 true f29_c := (.leaf _)
noncomputable def f29_F (y : argsDen f29_ps) : Option (argsDen f29_rs) := evFunA f29_E Tryd.f29 f29_a (encArgs f29_ps y) (decRes f29_rs)
theorem f29_ok : Sound Tryd.prog 29 (pfun f29_F) := sound_of (c := f29_c) (f29_E_okE) (by kernel_rfl) (by kernel_rfl) (by kernel_rfl) f29_a (fun _ => rfl)
@[reducible] noncomputable def f30_c : Code := codeOf Tryd.f30
@[reducible] noncomputable def f30_E : Env := envOf Tryd.prog 9999 [] []
theorem f30_E_okE : EnvOk Tryd.prog f30_E := envOf_ok _ _ _ mixed
@[reducible] noncomputable def f30_ps : List KD := [.one (.int .i64)]
@[reducible] noncomputable def f30_rs : List KD := [.one (.int .i64)]
@[reducible] noncomputable def f30_a : Ann Tryd.prog 0 true f30_c := (.leaf _)
noncomputable def f30_F (y : argsDen f30_ps) : Option (argsDen f30_rs) := evFunA f30_E Tryd.f30 f30_a (encArgs f30_ps y) (decRes f30_rs)
theorem f30_ok : Sound Tryd.prog 30 (pfun f30_F) := sound_of (c := f30_c) (f30_E_okE) (by kernel_rfl) (by kernel_rfl) (by kernel_rfl) f30_a (fun _ => rfl)
@[reducible] noncomputable def f13_c : Code := codeOf Tryd.f13
@[reducible] noncomputable def f13_E : Env := envOf Tryd.prog 9999 [rowOf true f29_ok, rowOf true f30_ok] []
theorem f13_E_okE : EnvOk Tryd.prog f13_E := envOf_ok _ _ _ mixed
@[reducible] noncomputable def f13_p0_sh : Shape := ⟨[.dead, .dead, .dead, .dead, .dead, .dead, .dead, .hole .str, .hole (.int .i64), .dead, .dead, .dead, .dead, .dead, .dead, .dead, .dead, .dead, .dead, .dead, .dead, .dead, .dead, .dead, .dead, .dead, .dead, .dead, .dead, .dead, .dead, .dead, .dead, .dead, .dead, .dead, .dead, .dead, .dead, .dead, .dead, .dead, .dead, .dead, .dead, .dead, .dead, .dead, .dead, .dead, .dead, .dead, .dead, .dead, .dead, .dead, .dead, .dead, .dead, .dead, .dead, .dead, .dead, .dead, .dead, .dead, .dead, .dead, .dead, .dead, .dead, .dead, .dead, .dead, .dead, .dead, .dead, .dead, .dead, .dead, .dead, .dead, .dead, .dead, .dead, .dead, .dead, .dead, .dead, .dead, .dead, .dead, .dead, .dead, .dead, .dead, .dead, .dead, .dead, .dead, .dead, .dead, .dead, .dead, .dead], [none], []⟩
@[reducible] noncomputable def f13_p0_o0 : Shape := ⟨[.dead, .dead, .dead, .dead, .dead, .dead, .dead, .hole .str, .hole (.int .i64), .dead, .dead, .dead, .dead, .dead, .dead, .dead, .dead, .dead, .dead, .dead, .dead, .dead, .dead, .dead, .dead, .dead, .dead, .dead, .dead, .dead, .dead, .dead, .dead, .dead, .dead, .dead, .dead, .dead, .dead, .dead, .dead, .dead, .dead, .dead, .dead, .dead, .dead, .dead, .dead, .dead, .dead, .dead, .dead, .dead, .dead, .dead, .dead, .dead, .dead, .dead, .dead, .dead, .dead, .dead, .dead, .dead, .dead, .dead, .dead, .dead, .dead, .dead, .dead, .dead, .dead, .dead, .dead, .dead, .dead, .dead, .dead, .dead, .dead, .dead, .dead, .dead, .dead, .dead, .dead, .dead, .dead, .dead, .dead, .dead, .dead, .dead, .dead, .dead, .dead, .dead, .dead, .dead, .dead, .dead, .hole .bool], [], []⟩
@[reducible] noncomputable def f13_p0_outs : List (Ex × Shape) := [(.normal, f13_p0_o0)]
@[reducible] noncomputable def f13_p0_a : Ann Tryd.prog 0 true (f13_c.cr.cr.cr.cr.cr.cl.cr.ct.cr.cr.cb.cb.cr.cl.cb.cl) := (.leaf _)
noncomputable def f13_p0_F (y : f13_p0_sh.den) : Option (OutDen f13_p0_outs) := evA f13_E f13_p0_a (fill f13_p0_sh y) (packOut f13_p0_outs)
theorem f13_p0_ok : PieceSound Tryd.prog 0 true (f13_c.cr.cr.cr.cr.cr.cl.cr.ct.cr.cr.cb.cb.cr.cl.cb.cl) f13_p0_sh f13_p0_outs f13_p0_F := piece_of (f13_E_okE) f13_p0_a rfl rfl fun _ => rfl
@[reducible] noncomputable def f13_p1_sh : Shape := ⟨[.dead, .ptr 0 0, .dead, .dead, .dead, .dead, .hole (.int .i64), .dead, .dead, .dead, .dead, .dead, .dead, .dead, .dead, .dead, .dead, .dead, .dead, .dead, .dead, .dead, .dead, .dead, .dead, .dead, .dead, .dead, .dead, .dead, .dead, .dead, .dead, .dead, .dead, .dead, .dead, .dead, .dead, .dead, .dead, .dead, .dead, .dead, .dead, .dead, .dead, .hole (.list (.int .i64)), .hole (.int .i64), .hole (.int .i64), .dead, .dead, .dead, .dead, .dead, .dead, .dead, .dead, .dead, .dead, .dead, .dead, .dead, .dead, .dead, .dead, .dead, .dead, .dead, .dead, .dead, .dead, .dead, .dead, .dead, .dead, .dead, .dead, .dead, .dead, .dead, .dead, .dead, .dead, .dead, .dead, .dead, .dead, .dead, .dead, .dead, .dead, .dead, .dead, .dead, .dead, .dead, .dead, .dead, .dead, .dead, .dead, .dead, .dead, .dead], [some [.hole (.int .i64), .hole (.list .str), .hole (.list (.int .i64))]], []⟩
@[reducible] noncomputable def f13_p1_o0 : Shape := ⟨[.dead, .ptr 0 0, .dead, .dead, .dead, .dead, .dead, .dead, .dead, .dead, .dead, .dead, .dead, .dead, .dead, .dead, .dead, .dead, .dead, .dead, .dead, .dead, .dead, .dead, .dead, .dead, .dead, .dead, .dead, .dead, .dead, .dead, .dead, .dead, .dead, .dead, .dead, .dead, .dead, .dead, .dead, .dead, .dead, .dead, .dead, .dead, .dead, .hole (.list (.int .i64)), .hole (.int .i64), .hole (.int .i64), .dead, .dead, .dead, .dead, .dead, .dead, .dead, .dead, .hole .bool, .dead, .dead, .dead, .dead, .dead, .dead, .dead, .dead, .dead, .dead, .dead, .dead, .dead, .dead, .dead, .dead, .dead, .dead, .dead, .dead, .dead, .dead, .dead, .dead, .dead, .dead, .dead, .dead, .dead, .dead, .dead, .dead, .dead, .dead, .dead, .dead, .dead, .dead, .dead, .dead, .dead, .dead, .dead, .dead, .dead, .dead], [some [.hole (.int .i64), .hole (.list .str), .hole (.list (.int .i64))]], []⟩
@[reducible] noncomputable def f13_p1_outs : List (Ex × Shape) := [(.normal, f13_p1_o0)]
@[reducible] noncomputable def f13_p1_a : Ann Tryd.prog 0 true (f13_c.cr.cr.cr.cl.cr.cb.cb.cr.cr.cl.cb.cr.cl) := (.leaf _)
noncomputable def f13_p1_F (y : f13_p1_sh.den) : Option (OutDen f13_p1_outs) := evA f13_E f13_p1_a (fill f13_p1_sh y) (packOut f13_p1_outs)
theorem f13_p1_ok : PieceSound Tryd.prog 0 true (f13_c.cr.cr.cr.cl.cr.cb.cb.cr.cr.cl.cb.cr.cl) f13_p1_sh f13_p1_outs f13_p1_F := piece_of (f13_E_okE) f13_p1_a rfl rfl fun _ => rfl
@[reducible] noncomputable def f13_p2_sh : Shape := ⟨[.dead, .dead, .dead, .dead, .dead, .dead, .dead, .hole .str, .hole (.int .i64), .dead, .dead, .dead, .dead, .dead, .dead, .dead, .dead, .dead, .dead, .dead, .dead, .dead, .dead, .dead, .dead, .dead, .dead, .dead, .dead, .dead, .dead, .dead, .dead, .dead, .dead, .dead, .dead, .dead, .dead, .dead, .dead, .dead, .dead, .dead, .dead, .dead, .dead, .dead, .dead, .dead, .dead, .dead, .dead, .dead, .dead, .dead, .dead, .dead, .dead, .dead, .dead, .dead, .dead, .dead, .dead, .dead, .dead, .dead, .dead, .dead, .dead, .dead, .dead, .dead, .dead, .dead, .dead, .dead, .dead, .dead, .dead, .dead, .dead, .dead, .dead, .dead, .dead, .dead, .dead, .dead, .dead, .dead, .dead, .dead, .dead, .dead, .dead, .dead, .dead, .dead, .dead, .dead, .dead, .dead, .dead], [none], []⟩
@[reducible] noncomputable def f13_p2_o0 : Shape := ⟨[.dead, .dead, .dead, .dead, .dead, .dead, .dead, .dead, .dead, .dead, .dead, .dead, .dead, .dead, .dead, .dead, .dead, .dead, .dead, .dead, .dead, .dead, .dead, .dead, .dead, .dead, .dead, .dead, .dead, .dead, .dead, .dead, .dead, .dead, .dead, .dead, .dead, .dead, .dead, .dead, .dead, .dead, .dead, .dead, .dead, .dead, .dead, .dead, .dead, .dead, .dead, .dead, .dead, .dead, .dead, .dead, .dead, .dead, .dead, .dead, .dead, .dead, .dead, .dead, .dead, .dead, .dead, .dead, .dead, .dead, .dead, .dead, .dead, .dead, .dead, .dead, .dead, .dead, .dead, .dead, .dead, .dead, .dead, .dead, .dead, .dead, .dead, .dead, .dead, .dead, .dead, .dead, .dead, .dead, .dead, .dead, .dead, .dead, .dead, .dead, .dead, .dead, .dead, .dead, .dead], [], []⟩
@[reducible] noncomputable def f13_p2_o1 : Shape := ⟨[.dead, .dead, .hole .bool, .dead, .dead, .dead, .dead, .dead, .dead, .dead, .dead, .dead, .dead, .dead, .dead, .dead, .dead, .dead, .dead, .dead, .dead, .dead, .dead, .dead, .dead, .dead, .dead, .dead, .dead, .dead, .dead, .dead, .dead, .dead, .dead, .dead, .dead, .dead, .dead, .dead, .dead, .dead, .dead, .dead, .dead, .dead, .dead, .dead, .dead, .dead, .dead, .dead, .dead, .dead, .dead, .dead, .dead, .dead, .dead, .dead, .dead, .dead, .dead, .dead, .dead, .dead, .dead, .dead, .dead, .dead, .dead, .dead, .dead, .dead, .dead, .dead, .dead, .dead, .dead, .dead, .dead, .dead, .dead, .dead, .dead, .dead, .dead, .dead, .dead, .dead, .dead, .dead, .dead, .dead, .dead, .dead, .dead, .dead, .dead, .dead, .dead, .dead, .dead, .dead, .dead], [], []⟩
@[reducible] noncomputable def f13_p2_outs : List (Ex × Shape) := [(.exit 4, f13_p2_o0), (.ret, f13_p2_o1)]
@[reducible] noncomputable def f13_p2_a : Ann Tryd.prog 0 true (f13_c.cr.cr.cr.cr.cr.cl.cr.ct.cr.cr.cb.cb) := (.seq (.leaf _) (.seq (.block (.seq (.piece _ _ _ f13_p0_ok) (.leaf _))) (.leaf _)))
noncomputable def f13_p2_st (rec : f13_p2_sh.den → Option (OutDen f13_p2_outs)) (y : f13_p2_sh.den) : Option (OutDen f13_p2_outs) := evA f13_E f13_p2_a (fill f13_p2_sh y) fun ex st => match ex with | .normal => (abs f13_p2_sh st).bind rec | e => packOut f13_p2_outs e st
theorem f13_p2_ok : PieceSound Tryd.prog 0 true (.loop (f13_c.cr.cr.cr.cr.cr.cl.cr.ct.cr.cr.cb.cb)) f13_p2_sh f13_p2_outs (go f13_p2_st) := go_of (f13_E_okE) f13_p2_a rfl rfl fun _ _ => rfl
@[reducible] noncomputable def f13_p3_sh : Shape := ⟨[.dead, .ptr 0 0, .dead, .dead, .dead, .dead, .dead, .dead, .dead, .dead, .dead, .dead, .dead, .dead, .dead, .dead, .dead, .dead, .dead, .dead, .dead, .dead, .dead, .dead, .dead, .dead, .dead, .dead, .dead, .dead, .dead, .dead, .dead, .dead, .dead, .dead, .dead, .dead, .dead, .dead, .dead, .dead, .dead, .dead, .dead, .dead, .dead, .hole (.list (.int .i64)), .hole (.int .i64), .hole (.int .i64), .dead, .dead, .dead, .dead, .dead, .dead, .dead, .dead, .dead, .dead, .dead, .dead, .dead, .dead, .dead, .dead, .dead, .dead, .dead, .dead, .dead, .dead, .dead, .dead, .dead, .dead, .dead, .dead, .dead, .dead, .dead, .dead, .dead, .dead, .dead, .dead, .dead, .dead, .dead, .dead, .dead, .dead, .dead, .dead, .dead, .dead, .dead, .dead, .dead, .dead, .dead, .dead, .dead, .dead, .dead], [some [.hole (.int .i64), .hole (.list .str), .hole (.list (.int .i64))]], []⟩
@[reducible] noncomputable def f13_p3_o0 : Shape := ⟨[.dead, .ptr 0 0, .dead, .dead, .dead, .dead, .dead, .dead, .dead, .dead, .dead, .dead, .dead, .dead, .dead, .dead, .dead, .dead, .dead, .dead, .dead, .dead, .dead, .dead, .dead, .dead, .dead, .dead, .dead, .dead, .dead, .dead, .dead, .dead, .dead, .dead, .dead, .dead, .dead, .dead, .dead, .dead, .dead, .dead, .dead, .dead, .dead, .dead, .dead, .dead, .dead, .dead, .dead, .dead, .dead, .dead, .dead, .dead, .dead, .dead, .dead, .dead, .dead, .dead, .dead, .dead, .dead, .dead, .dead, .dead, .dead, .dead, .dead, .dead, .dead, .dead, .dead, .dead, .dead, .dead, .dead, .dead, .dead, .dead, .dead, .dead, .dead, .dead, .dead, .dead, .dead, .dead, .dead, .dead, .dead, .dead, .dead, .dead, .dead, .dead, .dead, .dead, .dead, .dead, .dead], [some [.hole (.int .i64), .hole (.list .str), .hole (.list (.int .i64))]], []⟩
@[reducible] noncomputable def f13_p3_o1 : Shape := ⟨[.dead, .dead, .hole .bool, .dead, .dead, .dead, .dead, .dead, .dead, .dead, .dead, .dead, .dead, .dead, .dead, .dead, .dead, .dead, .dead, .dead, .dead, .dead, .dead, .dead, .dead, .dead, .dead, .dead, .dead, .dead, .dead, .dead, .dead, .dead, .dead, .dead, .dead, .dead, .dead, .dead, .dead, .dead, .dead, .dead, .dead, .dead, .dead, .dead, .dead, .dead, .dead, .dead, .dead, .dead, .dead, .dead, .dead, .dead, .dead, .dead, .dead, .dead, .dead, .dead, .dead, .dead, .dead, .dead, .dead, .dead, .dead, .dead, .dead, .dead, .dead, .dead, .dead, .dead, .dead, .dead, .dead, .dead, .dead, .dead, .dead, .dead, .dead, .dead, .dead, .dead, .dead, .dead, .dead, .dead, .dead, .dead, .dead, .dead, .dead, .dead, .dead, .dead, .dead, .dead, .dead], [], []⟩
@[reducible] noncomputable def f13_p3_outs : List (Ex × Shape) := [(.exit 2, f13_p3_o0), (.ret, f13_p3_o1)]
@[reducible] noncomputable def f13_p3_a : Ann Tryd.prog 0 true (f13_c.cr.cr.cr.cl.cr.cb.cb) := (.seq (.leaf _) (.seq (.leaf _) (.seq (.block (.seq (.leaf _) (.seq (.piece _ _ _ f13_p1_ok) (.leaf _)))) (.leaf _))))
noncomputable def f13_p3_st (rec : f13_p3_sh.den → Option (OutDen f13_p3_outs)) (y : f13_p3_sh.den) : Option (OutDen f13_p3_outs) := evA f13_E f13_p3_a (fill f13_p3_sh y) fun ex st => match ex with | .normal => (abs f13_p3_sh st).bind rec | e => packOut f13_p3_outs e st
theorem f13_p3_ok : PieceSound Tryd.prog 0 true (.loop (f13_c.cr.cr.cr.cl.cr.cb.cb)) f13_p3_sh f13_p3_outs (go f13_p3_st) := go_of (f13_E_okE) f13_p3_a rfl rfl fun _ _ => rfl
@[reducible] noncomputable def f13_p4_sh : Shape := ⟨[.dead, .ptr 0 0, .dead, .dead, .dead, .dead, .dead, .dead, .dead, .dead, .dead, .dead, .dead, .dead, .dead, .dead, .dead, .dead, .dead, .dead, .dead, .dead, .dead, .dead, .dead, .dead, .dead, .dead, .dead, .dead, .dead, .dead, .dead, .dead, .dead, .dead, .dead, .dead, .dead, .dead, .dead, .dead, .dead, .dead, .dead, .dead, .dead, .dead, .dead, .dead, .dead, .dead, .dead, .dead, .dead, .dead, .dead, .dead, .dead, .dead, .dead, .dead, .dead, .dead, .dead, .dead, .dead, .dead, .dead, .dead, .dead, .dead, .dead, .dead, .dead, .dead, .dead, .dead, .dead, .dead, .dead, .dead, .dead, .dead, .dead, .dead, .dead, .dead, .dead, .dead, .dead, .dead, .dead, .dead, .dead, .dead, .dead, .dead, .dead, .dead, .dead, .dead, .dead, .dead, .dead], [some [.hole (.int .i64), .hole (.list .str), .hole (.list (.int .i64))]], []⟩
@[reducible] noncomputable def f13_p4_o0 : Shape := ⟨[.dead, .ptr 0 0, .dead, .dead, .dead, .dead, .dead, .dead, .dead, .dead, .dead, .dead, .dead, .dead, .dead, .dead, .dead, .dead, .dead, .dead, .dead, .dead, .dead, .dead, .dead, .dead, .dead, .dead, .dead, .dead, .dead, .dead, .dead, .dead, .dead, .dead, .dead, .dead, .dead, .dead, .dead, .dead, .dead, .dead, .dead, .dead, .dead, .dead, .dead, .dead, .dead, .dead, .dead, .dead, .dead, .dead, .dead, .dead, .dead, .dead, .dead, .dead, .dead, .dead, .dead, .dead, .dead, .dead, .dead, .dead, .dead, .dead, .dead, .dead, .dead, .dead, .dead, .dead, .dead, .dead, .dead, .hole .bool, .dead, .dead, .dead, .dead, .dead, .dead, .dead, .dead, .dead, .dead, .dead, .dead, .dead, .dead, .dead, .dead, .dead, .dead, .dead, .dead, .dead, .dead, .dead], [some [.hole (.int .i64), .hole (.list .str), .hole (.list (.int .i64))]], []⟩
@[reducible] noncomputable def f13_p4_outs : List (Ex × Shape) := [(.normal, f13_p4_o0)]
@[reducible] noncomputable def f13_p4_a : Ann Tryd.prog 0 true (f13_c.cr.cr.cr.cr.cl.cl) := (.leaf _)
noncomputable def f13_p4_F (y : f13_p4_sh.den) : Option (OutDen f13_p4_outs) := evA f13_E f13_p4_a (fill f13_p4_sh y) (packOut f13_p4_outs)
theorem f13_p4_ok : PieceSound Tryd.prog 0 true (f13_c.cr.cr.cr.cr.cl.cl) f13_p4_sh f13_p4_outs f13_p4_F := piece_of (f13_E_okE) f13_p4_a rfl rfl fun _ => rfl
@[reducible] noncomputable def f13_p5_sh : Shape := ⟨[.dead, .ptr 0 0, .dead, .dead, .dead, .dead, .dead, .dead, .dead, .dead, .dead, .dead, .dead, .dead, .dead, .dead, .dead, .dead, .dead, .dead, .dead, .dead, .dead, .dead, .dead, .dead, .dead, .dead, .dead, .dead, .dead, .dead, .dead, .dead, .dead, .dead, .dead, .dead, .dead, .dead, .dead, .dead, .dead, .dead, .dead, .dead, .dead, .dead, .dead, .dead, .dead, .dead, .dead, .dead, .dead, .dead, .dead, .dead, .dead, .dead, .dead, .dead, .dead, .dead, .dead, .dead, .dead, .dead, .dead, .dead, .dead, .dead, .dead, .dead, .dead, .dead, .dead, .dead, .dead, .dead, .dead, .dead, .dead, .dead, .dead, .dead, .dead, .dead, .dead, .dead, .dead, .dead, .dead, .dead, .dead, .dead, .dead, .dead, .dead, .dead, .dead, .dead, .dead, .dead, .dead], [some [.hole (.int .i64), .hole (.list .str), .hole (.list (.int .i64))]], []⟩
@[reducible] noncomputable def f13_p5_o0 : Shape := ⟨[.dead, .dead, .hole .bool, .dead, .dead, .dead, .dead, .dead, .dead, .dead, .dead, .dead, .dead, .dead, .dead, .dead, .dead, .dead, .dead, .dead, .dead, .dead, .dead, .dead, .dead, .dead, .dead, .dead, .dead, .dead, .dead, .dead, .dead, .dead, .dead, .dead, .dead, .dead, .dead, .dead, .dead, .dead, .dead, .dead, .dead, .dead, .dead, .dead, .dead, .dead, .dead, .dead, .dead, .dead, .dead, .dead, .dead, .dead, .dead, .dead, .dead, .dead, .dead, .dead, .dead, .dead, .dead, .dead, .dead, .dead, .dead, .dead, .dead, .dead, .dead, .dead, .dead, .dead, .dead, .dead, .dead, .dead, .dead, .dead, .dead, .dead, .dead, .dead, .dead, .dead, .dead, .dead, .dead, .dead, .dead, .dead, .dead, .dead, .dead, .dead, .dead, .dead, .dead, .dead, .dead], [], []⟩
@[reducible] noncomputable def f13_p5_o1 : Shape := ⟨[.dead, .dead, .dead, .dead, .dead, .dead, .dead, .dead, .dead, .dead, .dead, .dead, .dead, .dead, .dead, .dead, .dead, .dead, .dead, .dead, .dead, .dead, .dead, .dead, .dead, .dead, .dead, .dead, .dead, .dead, .dead, .dead, .dead, .dead, .dead, .dead, .dead, .dead, .dead, .dead, .dead, .dead, .dead, .dead, .dead, .dead, .dead, .dead, .dead, .dead, .dead, .dead, .dead, .dead, .dead, .dead, .dead, .dead, .dead, .dead, .dead, .dead, .dead, .dead, .dead, .dead, .dead, .dead, .dead, .dead, .dead, .dead, .dead, .dead, .dead, .dead, .dead, .dead, .dead, .dead, .dead, .dead, .dead, .dead, .dead, .dead, .dead, .dead, .dead, .dead, .dead, .dead, .dead, .dead, .dead, .dead, .dead, .dead, .dead, .dead, .dead, .dead, .dead, .dead, .dead], [], []⟩
@[reducible] noncomputable def f13_p5_outs : List (Ex × Shape) := [(.ret, f13_p5_o0), (.normal, f13_p5_o1)]
@[reducible] noncomputable def f13_p5_a : Ann Tryd.prog 0 true (f13_c.cr.cr.cr.cr.cr.cl) := (.seq (.leaf _) (.cond (.seq (.leaf _) (.seq (.leaf _) (.block (.piece _ _ _ f13_p2_ok)))) (.leaf _)))
noncomputable def f13_p5_F (y : f13_p5_sh.den) : Option (OutDen f13_p5_outs) := evA f13_E f13_p5_a (fill f13_p5_sh y) (packOut f13_p5_outs)
theorem f13_p5_ok : PieceSound Tryd.prog 0 true (f13_c.cr.cr.cr.cr.cr.cl) f13_p5_sh f13_p5_outs f13_p5_F := piece_of (f13_E_okE) f13_p5_a rfl rfl fun _ => rfl
@[reducible] noncomputable def f13_p6_sh : Shape := ⟨[.dead, .ptr 0 0, .dead, .dead, .dead, .dead, .dead, .dead, .dead, .dead, .dead, .dead, .dead, .dead, .dead, .dead, .dead, .dead, .dead, .dead, .dead, .dead, .dead, .dead, .dead, .dead, .dead, .dead, .dead, .dead, .dead, .dead, .dead, .dead, .dead, .dead, .hole (.list .str), .hole (.int .i64), .hole (.int .i64), .dead, .dead, .dead, .dead, .dead, .dead, .dead, .dead, .dead, .dead, .dead, .dead, .dead, .dead, .dead, .dead, .dead, .dead, .dead, .dead, .dead, .dead, .dead, .dead, .dead, .dead, .dead, .dead, .dead, .dead, .dead, .dead, .dead, .dead, .dead, .dead, .dead, .dead, .dead, .dead, .dead, .dead, .dead, .dead, .dead, .dead, .dead, .dead, .dead, .dead, .dead, .dead, .dead, .dead, .dead, .dead, .dead, .dead, .dead, .dead, .dead, .dead, .dead, .dead, .dead, .dead], [some [.hole (.int .i64), .hole (.list .str), .hole (.list (.int .i64))]], []⟩
@[reducible] noncomputable def f13_p6_o0 : Shape := ⟨[.dead, .ptr 0 0, .dead, .dead, .dead, .dead, .dead, .dead, .dead, .dead, .dead, .dead, .dead, .dead, .dead, .dead, .dead, .dead, .dead, .dead, .dead, .dead, .dead, .dead, .dead, .dead, .dead, .dead, .dead, .dead, .dead, .dead, .dead, .dead, .dead, .dead, .dead, .dead, .dead, .dead, .dead, .dead, .dead, .dead, .dead, .dead, .dead, .dead, .dead, .dead, .dead, .dead, .dead, .dead, .dead, .dead, .dead, .dead, .dead, .dead, .dead, .dead, .dead, .dead, .dead, .dead, .dead, .dead, .dead, .dead, .dead, .dead, .dead, .dead, .dead, .dead, .dead, .dead, .dead, .dead, .dead, .dead, .dead, .dead, .dead, .dead, .dead, .dead, .dead, .dead, .dead, .dead, .dead, .dead, .dead, .dead, .dead, .dead, .dead, .dead, .dead, .dead, .dead, .dead, .dead], [some [.hole (.int .i64), .hole (.list .str), .hole (.list (.int .i64))]], []⟩
@[reducible] noncomputable def f13_p6_o1 : Shape := ⟨[.dead, .dead, .hole .bool, .dead, .dead, .dead, .dead, .dead, .dead, .dead, .dead, .dead, .dead, .dead, .dead, .dead, .dead, .dead, .dead, .dead, .dead, .dead, .dead, .dead, .dead, .dead, .dead, .dead, .dead, .dead, .dead, .dead, .dead, .dead, .dead, .dead, .dead, .dead, .dead, .dead, .dead, .dead, .dead, .dead, .dead, .dead, .dead, .dead, .dead, .dead, .dead, .dead, .dead, .dead, .dead, .dead, .dead, .dead, .dead, .dead, .dead, .dead, .dead, .dead, .dead, .dead, .dead, .dead, .dead, .dead, .dead, .dead, .dead, .dead, .dead, .dead, .dead, .dead, .dead, .dead, .dead, .dead, .dead, .dead, .dead, .dead, .dead, .dead, .dead, .dead, .dead, .dead, .dead, .dead, .dead, .dead, .dead, .dead, .dead, .dead, .dead, .dead, .dead, .dead, .dead], [], []⟩
@[reducible] noncomputable def f13_p6_outs : List (Ex × Shape) := [(.exit 0, f13_p6_o0), (.ret, f13_p6_o1)]
@[reducible] noncomputable def f13_p6_a : Ann Tryd.prog 0 true (f13_c.cr.cr.cl.cr.cb.cb) := (.leaf _)
noncomputable def f13_p6_st (rec : f13_p6_sh.den → Option (OutDen f13_p6_outs)) (y : f13_p6_sh.den) : Option (OutDen f13_p6_outs) := evA f13_E f13_p6_a (fill f13_p6_sh y) fun ex st => match ex with | .normal => (abs f13_p6_sh st).bind rec | e => packOut f13_p6_outs e st
theorem f13_p6_ok : PieceSound Tryd.prog 0 true (.loop (f13_c.cr.cr.cl.cr.cb.cb)) f13_p6_sh f13_p6_outs (go f13_p6_st) := go_of (f13_E_okE) f13_p6_a rfl rfl fun _ _ => rfl
@[reducible] noncomputable def f13_p7_sh : Shape := ⟨[.dead, .ptr 0 0, .dead, .dead, .dead, .dead, .dead, .dead, .dead, .dead, .dead, .dead, .dead, .dead, .dead, .dead, .dead, .dead, .dead, .dead, .dead, .dead, .dead, .dead, .dead, .dead, .dead, .dead, .dead, .dead, .dead, .dead, .dead, .dead, .dead, .dead, .dead, .dead, .dead, .dead, .dead, .dead, .dead, .dead, .dead, .dead, .dead, .dead, .dead, .dead, .dead, .dead, .dead, .dead, .dead, .dead, .dead, .dead, .dead, .dead, .dead, .dead, .dead, .dead, .dead, .dead, .dead, .dead, .dead, .dead, .dead, .dead, .dead, .dead, .dead, .dead, .dead, .dead, .dead, .dead, .dead, .dead, .dead, .dead, .dead, .dead, .dead, .dead, .dead, .dead, .dead, .dead, .dead, .dead, .dead, .dead, .dead, .dead, .dead, .dead, .dead, .dead, .dead, .dead, .dead], [some [.hole (.int .i64), .hole (.list .str), .hole (.list (.int .i64))]], []⟩
@[reducible] noncomputable def f13_p7_o0 : Shape := ⟨[.dead, .ptr 0 0, .dead, .dead, .dead, .dead, .dead, .dead, .dead, .dead, .dead, .dead, .dead, .dead, .dead, .dead, .dead, .dead, .dead, .dead, .dead, .dead, .dead, .dead, .dead, .dead, .dead, .dead, .dead, .dead, .dead, .dead, .dead, .dead, .hole .bool, .dead, .dead, .dead, .dead, .dead, .dead, .dead, .dead, .dead, .dead, .dead, .dead, .dead, .dead, .dead, .dead, .dead, .dead, .dead, .dead, .dead, .dead, .dead, .dead, .dead, .dead, .dead, .dead, .dead, .dead, .dead, .dead, .dead, .dead, .dead, .dead, .dead, .dead, .dead, .dead, .dead, .dead, .dead, .dead, .dead, .dead, .dead, .dead, .dead, .dead, .dead, .dead, .dead, .dead, .dead, .dead, .dead, .dead, .dead, .dead, .dead, .dead, .dead, .dead, .dead, .dead, .dead, .dead, .dead, .dead], [some [.hole (.int .i64), .hole (.list .str), .hole (.list (.int .i64))]], []⟩
@[reducible] noncomputable def f13_p7_outs : List (Ex × Shape) := [(.normal, f13_p7_o0)]
@[reducible] noncomputable def f13_p7_a : Ann Tryd.prog 0 true (f13_c.cr.cl.cl) := (.leaf _)
noncomputable def f13_p7_F (y : f13_p7_sh.den) : Option (OutDen f13_p7_outs) := evA f13_E f13_p7_a (fill f13_p7_sh y) (packOut f13_p7_outs)
theorem f13_p7_ok : PieceSound Tryd.prog 0 true (f13_c.cr.cl.cl) f13_p7_sh f13_p7_outs f13_p7_F := piece_of (f13_E_okE) f13_p7_a rfl rfl fun _ => rfl
@[reducible] noncomputable def f13_ps : List KD := [.agg [(.int .i64), (.list .str), (.list (.int .i64))]]
@[reducible] noncomputable def f13_rs : List KD := [.one .bool]
@[reducible] noncomputable def f13_a : Ann Tryd.prog 0 true f13_c := (.seq (.leaf _) (.seq (.seq (.piece _ _ _ f13_p7_ok) (.leaf _)) (.seq (.seq (.leaf _) (.block (.piece _ _ _ f13_p6_ok))) (.seq (.seq (.leaf _) (.block (.piece _ _ _ f13_p3_ok))) (.seq (.seq (.piece _ _ _ f13_p4_ok) (.leaf _)) (.seq (.piece _ _ _ f13_p5_ok) (.leaf _)))))))
noncomputable def f13_F (y : argsDen f13_ps) : Option (argsDen f13_rs) := evFunA f13_E Tryd.f13 f13_a (encArgs f13_ps y) (decRes f13_rs)
theorem f13_ok : Sound Tryd.prog 13 (pfun f13_F) := sound_of (c := f13_c) (f13_E_okE) (by kernel_rfl) (by kernel_rfl) (by kernel_rfl) f13_a (fun _ => rfl)
@[reducible] noncomputable def f31_c : Code := codeOf Tryd.f31
@[reducible] noncomputable def f31_E : Env := envOf Tryd.prog 9999 [] []
theorem f31_E_okE : EnvOk Tryd.prog f31_E := envOf_ok _ _ _ mixed
@[reducible] noncomputable def f31_ps : List KD := [.one (.int .i64)]
@[reducible] noncomputable def f31_rs : List KD := [.one .str]
@[reducible] noncomputable def f31_a : Ann Tryd.prog 0 true f31_c := (.leaf _)
noncomputable def f31_F (y : argsDen f31_ps) : Option (argsDen f31_rs) := evFunA f31_E Tryd.f31 f31_a (encArgs f31_ps y) (decRes f31_rs)
theorem f31_ok : Sound Tryd.prog 31 (pfun f31_F) := sound_of (c := f31_c) (f31_E_okE) (by kernel_rfl) (by kernel_rfl) (by kernel_rfl) f31_a (fun _ => rfl)
@[reducible] noncomputable def f32_c : Code := codeOf Tryd.f32
@[reducible] noncomputable def f32_E : Env := envOf Tryd.prog 9999 [] []
theorem f32_E_okE : EnvOk Tryd.prog f32_E := envOf_ok _ _ _ mixed
@[reducible] noncomputable def f32_p0_sh : Shape := ⟨[.hole .str, .dead, .dead, .whole 0, .hole (.int .i64), .dead, .dead, .dead, .dead, .dead, .dead, .dead, .dead, .dead, .dead, .dead, .dead, .dead, .dead, .dead, .dead, .dead, .dead, .dead, .dead, .dead, .dead], [], [some (.int .u8)]⟩
@[reducible] noncomputable def f32_p0_o0 : Shape := ⟨[.dead, .dead, .dead, .whole 0, .dead, .dead, .dead, .dead, .dead, .dead, .dead, .dead, .dead, .dead, .dead, .dead, .dead, .dead, .dead, .dead, .dead, .dead, .dead, .dead, .dead, .dead, .dead], [], [some (.int .u8)]⟩
@[reducible] noncomputable def f32_p0_outs : List (Ex × Shape) := [(.exit 0, f32_p0_o0)]
@[reducible] noncomputable def f32_p0_a : Ann Tryd.prog 0 true (f32_c.cr.cr.cl.cr.cb.cb) := (.leaf _)
noncomputable def f32_p0_st (rec : f32_p0_sh.den → Option (OutDen f32_p0_outs)) (y : f32_p0_sh.den) : Option (OutDen f32_p0_outs) := evA f32_E f32_p0_a (fill f32_p0_sh y) fun ex st => match ex with | .normal => (abs f32_p0_sh st).bind rec | e => packOut f32_p0_outs e st
theorem f32_p0_ok : PieceSound Tryd.prog 0 true (.loop (f32_c.cr.cr.cl.cr.cb.cb)) f32_p0_sh f32_p0_outs (go f32_p0_st) := go_of (f32_E_okE) f32_p0_a rfl rfl fun _ _ => rfl
@[reducible] noncomputable def f32_ps : List KD := [.one .str]
@[reducible] noncomputable def f32_rs : List KD := [.one .str]
@[reducible] noncomputable def f32_a : Ann Tryd.prog 0 true f32_c := (.seq (.leaf _) (.seq (.leaf _) (.seq (.seq (.leaf _) (.block (.piece _ _ _ f32_p0_ok))) (.leaf _))))
noncomputable def f32_F (y : argsDen f32_ps) : Option (argsDen f32_rs) := evFunA f32_E Tryd.f32 f32_a (encArgs f32_ps y) (decRes f32_rs)
theorem f32_ok : Sound Tryd.prog 32 (pfun f32_F) := sound_of (c := f32_c) (f32_E_okE) (by kernel_rfl) (by kernel_rfl) (by kernel_rfl) f32_a (fun _ => rfl)
@[reducible] noncomputable def f14_c : Code := codeOf Tryd.f14
@[reducible] noncomputable def f14_E : Env := envOf Tryd.prog 9999 [rowOf true f31_ok, rowOf true f32_ok, rowOf true itoa_ok] []
theorem f14_E_okE : EnvOk Tryd.prog f14_E := envOf_ok _ _ _ mixed
@[reducible] noncomputable def f14_p0_sh : Shape := ⟨[.dead, .dead, .dead, .hole .str, .dead, .dead, .dead, .dead, .dead, .dead, .dead, .dead, .dead, .dead, .dead, .dead, .dead, .dead, .dead, .dead, .dead, .dead, .dead, .dead, .dead, .hole (.list (.int .i64)), .hole (.int .i64), .hole (.int .i64), .dead, .dead, .dead, .dead, .dead, .dead, .dead, .dead, .dead, .dead], [none], []⟩
@[reducible] noncomputable def f14_p0_o0 : Shape := ⟨[.dead, .dead, .dead, .hole .str, .dead, .dead, .dead, .dead, .dead, .dead, .dead, .dead, .dead, .dead, .dead, .dead, .dead, .dead, .dead, .dead, .dead, .dead, .dead, .dead, .dead, .dead, .dead, .dead, .dead, .dead, .dead, .dead, .dead, .dead, .dead, .dead, .dead, .dead], [], []⟩
@[reducible] noncomputable def f14_p0_outs : List (Ex × Shape) := [(.exit 2, f14_p0_o0)]
@[reducible] noncomputable def f14_p0_a : Ann Tryd.prog 0 true (f14_c.cr.cr.cr.cl.cr.cb.cb) := (.leaf _)
noncomputable def f14_p0_st (rec : f14_p0_sh.den → Option (OutDen f14_p0_outs)) (y : f14_p0_sh.den) : Option (OutDen f14_p0_outs) := evA f14_E f14_p0_a (fill f14_p0_sh y) fun ex st => match ex with | .normal => (abs f14_p0_sh st).bind rec | e => packOut f14_p0_outs e st
theorem f14_p0_ok : PieceSound Tryd.prog 0 true (.loop (f14_c.cr.cr.cr.cl.cr.cb.cb)) f14_p0_sh f14_p0_outs (go f14_p0_st) := go_of (f14_E_okE) f14_p0_a rfl rfl fun _ _ => rfl
@[reducible] noncomputable def f14_p1_sh : Shape := ⟨[.dead, .ptr 0 0, .dead, .hole .str, .dead, .dead, .dead, .dead, .dead, .dead, .dead, .dead, .hole (.list .str), .hole (.int .i64), .hole (.int .i64), .dead, .dead, .dead, .dead, .dead, .dead, .dead, .dead, .dead, .dead, .dead, .dead, .dead, .dead, .dead, .dead, .dead, .dead, .dead, .dead, .dead, .dead, .dead], [some [.hole (.int .i64), .hole (.list .str), .hole (.list (.int .i64))]], []⟩
@[reducible] noncomputable def f14_p1_o0 : Shape := ⟨[.dead, .ptr 0 0, .dead, .hole .str, .dead, .dead, .dead, .dead, .dead, .dead, .dead, .dead, .dead, .dead, .dead, .dead, .dead, .dead, .dead, .dead, .dead, .dead, .dead, .dead, .dead, .dead, .dead, .dead, .dead, .dead, .dead, .dead, .dead, .dead, .dead, .dead, .dead, .dead], [some [.hole (.int .i64), .hole (.list .str), .hole (.list (.int .i64))]], []⟩
@[reducible] noncomputable def f14_p1_outs : List (Ex × Shape) := [(.exit 0, f14_p1_o0)]
@[reducible] noncomputable def f14_p1_a : Ann Tryd.prog 0 true (f14_c.cr.cr.cl.cr.cb.cb) := (.leaf _)
noncomputable def f14_p1_st (rec : f14_p1_sh.den → Option (OutDen f14_p1_outs)) (y : f14_p1_sh.den) : Option (OutDen f14_p1_outs) := evA f14_E f14_p1_a (fill f14_p1_sh y) fun ex st => match ex with | .normal => (abs f14_p1_sh st).bind rec | e => packOut f14_p1_outs e st
theorem f14_p1_ok : PieceSound Tryd.prog 0 true (.loop (f14_c.cr.cr.cl.cr.cb.cb)) f14_p1_sh f14_p1_outs (go f14_p1_st) := go_of (f14_E_okE) f14_p1_a rfl rfl fun _ _ => rfl
@[reducible] noncomputable def f14_ps : List KD := [.agg [(.int .i64), (.list .str), (.list (.int .i64))]]
@[reducible] noncomputable def f14_rs : List KD := [.one .str]
@[reducible] noncomputable def f14_a : Ann Tryd.prog 0 true f14_c := (.seq (.leaf _) (.seq (.leaf _) (.seq (.seq (.leaf _) (.block (.piece _ _ _ f14_p1_ok))) (.seq (.seq (.leaf _) (.block (.piece _ _ _ f14_p0_ok))) (.leaf _)))))
noncomputable def f14_F (y : argsDen f14_ps) : Option (argsDen f14_rs) := evFunA f14_E Tryd.f14 f14_a (encArgs f14_ps y) (decRes f14_rs)
theorem f14_ok : Sound Tryd.prog 14 (pfun f14_F) := sound_of (c := f14_c) (f14_E_okE) (by kernel_rfl) (by kernel_rfl) (by kernel_rfl) f14_a (fun _ => rfl)
@[reducible] noncomputable def f4_c : Code := codeOf Tryd.f4
@[reducible] noncomputable def f4_E : Env := envOf Tryd.prog 9999 [rowOf false f5_ok, rowOf true f6_ok, rowOf true f9_ok, rowOf true cut_ok, rowOf false f7_ok, rowOf true count_ok, rowOf true f13_ok, rowOf true f14_ok] []
theorem f4_E_okE : EnvOk Tryd.prog f4_E := envOf_ok _ _ _ mixed
@[reducible] noncomputable def f4_p0_sh : Shape := ⟨[.dead, .dead, .ptr 0 0, .ptr 1 0, .dead, .hole .str, .dead, .dead, .dead, .dead, .dead, .dead, .dead, .dead, .hole .str, .hole (.int .i64), .dead, .dead, .dead, .dead, .dead, .dead, .dead, .dead, .dead, .dead, .dead, .dead, .dead, .dead, .dead, .dead, .dead, .dead, .dead, .dead, .dead, .dead, .dead, .dead, .dead, .dead, .dead, .dead, .dead, .dead, .dead, .dead, .dead, .dead, .dead, .dead, .dead, .dead, .dead, .dead, .dead, .dead, .dead, .dead, .dead, .dead, .dead, .dead, .dead, .dead, .dead, .dead, .dead, .dead, .dead, .dead, .dead, .dead, .dead, .dead, .dead, .dead, .dead, .dead, .dead, .dead, .dead, .dead, .dead, .dead, .dead, .dead, .dead, .dead, .dead, .dead, .dead, .dead, .dead, .dead, .dead, .dead, .dead, .dead, .dead, .dead, .dead, .dead], [some [.hole (.list .str), .hole .str, .hole (.int .i64), .hole (.int .i64), .hole (.list (.prod (.int .i64) (.prod (.list .str) (.list (.int .i64)))))], some [.hole (.int .i64), .hole (.list .str), .hole (.list (.int .i64))]], []⟩
@[reducible] noncomputable def f4_p0_o0 : Shape := ⟨[.dead, .dead, .dead, .ptr 1 0, .dead, .hole .str, .dead, .dead, .dead, .dead, .dead, .dead, .dead, .dead, .hole .str, .hole (.int .i64), .dead, .dead, .dead, .dead, .dead, .dead, .dead, .dead, .dead, .dead, .dead, .dead, .dead, .dead, .dead, .dead, .dead, .dead, .dead, .dead, .dead, .dead, .dead, .dead, .dead, .dead, .dead, .dead, .dead, .dead, .dead, .dead, .dead, .dead, .dead, .dead, .dead, .dead, .dead, .dead, .dead, .dead, .dead, .dead, .dead, .dead, .dead, .dead, .dead, .dead, .dead, .dead, .dead, .dead, .dead, .dead, .dead, .dead, .dead, .dead, .dead, .dead, .dead, .dead, .dead, .dead, .dead, .dead, .dead, .dead, .dead, .dead, .dead, .dead, .hole .bool, .dead, .dead, .dead, .dead, .dead, .dead, .dead, .dead, .dead, .dead, .dead, .dead, .dead], [none, some [.hole (.int .i64), .hole (.list .str), .hole (.list (.int .i64))]], []⟩
@[reducible] noncomputable def f4_p0_outs : List (Ex × Shape) := [(.normal, f4_p0_o0)]
@[reducible] noncomputable def f4_p0_a : Ann Tryd.prog 0 true (f4_c.cr.cr.cr.cr.cr.cr.cr.cr.cr.cr.cr.cl.cl) := (.leaf _)
noncomputable def f4_p0_F (y : f4_p0_sh.den) : Option (OutDen f4_p0_outs) := evA f4_E f4_p0_a (fill f4_p0_sh y) (packOut f4_p0_outs)
theorem f4_p0_ok : PieceSound Tryd.prog 0 true (f4_c.cr.cr.cr.cr.cr.cr.cr.cr.cr.cr.cr.cl.cl) f4_p0_sh f4_p0_outs f4_p0_F := piece_of (f4_E_okE) f4_p0_a rfl rfl fun _ => rfl
@[reducible] noncomputable def f4_p1_sh : Shape := ⟨[.dead, .dead, .ptr 0 0, .ptr 1 0, .dead, .hole .str, .dead, .dead, .dead, .dead, .dead, .hole (.int .i64), .hole (.int .i64), .dead, .hole .str, .hole (.int .i64), .dead, .dead, .dead, .dead, .dead, .dead, .dead, .dead, .dead, .dead, .dead, .dead, .dead, .dead, .dead, .dead, .dead, .dead, .dead, .dead, .dead, .dead, .dead, .dead, .dead, .dead, .dead, .dead, .dead, .dead, .dead, .dead, .dead, .dead, .dead, .dead, .dead, .dead, .dead, .dead, .dead, .dead, .dead, .dead, .dead, .dead, .dead, .dead, .dead, .dead, .dead, .dead, .dead, .dead, .dead, .dead, .dead, .dead, .dead, .dead, .dead, .dead, .dead, .dead, .dead, .dead, .dead, .dead, .dead, .dead, .dead, .dead, .dead, .dead, .dead, .dead, .dead, .dead, .dead, .dead, .dead, .dead, .dead, .dead, .dead, .dead, .dead, .dead], [some [.hole (.list .str), .hole .str, .hole (.int .i64), .hole (.int .i64), .hole (.list (.prod (.int .i64) (.prod (.list .str) (.list (.int .i64)))))], some [.hole (.int .i64), .hole (.list .str), .hole (.list (.int .i64))], none, none], [none]⟩
@[reducible] noncomputable def f4_p1_o0 : Shape := ⟨[.dead, .dead, .ptr 0 0, .ptr 1 0, .dead, .hole .str, .dead, .dead, .dead, .dead, .dead, .dead, .dead, .dead, .hole .str, .hole (.int .i64), .dead, .dead, .dead, .dead, .dead, .dead, .dead, .dead, .dead, .dead, .dead, .dead, .dead, .dead, .dead, .dead, .dead, .dead, .dead, .dead, .dead, .dead, .dead, .dead, .dead, .dead, .dead, .dead, .dead, .dead, .dead, .dead, .dead, .dead, .dead, .dead, .dead, .dead, .dead, .dead, .dead, .dead, .dead, .dead, .dead, .dead, .dead, .dead, .dead, .dead, .dead, .dead, .dead, .dead, .dead, .dead, .dead, .dead, .dead, .dead, .dead, .dead, .dead, .dead, .dead, .hole .bool, .dead, .dead, .dead, .dead, .dead, .dead, .dead, .dead, .dead, .dead, .dead, .dead, .dead, .dead, .dead, .dead, .dead, .dead, .dead, .dead, .dead, .dead], [some [.hole (.list .str), .hole .str, .hole (.int .i64), .hole (.int .i64), .hole (.list (.prod (.int .i64) (.prod (.list .str) (.list (.int .i64)))))], some [.hole (.int .i64), .hole (.list .str), .hole (.list (.int .i64))]], []⟩
@[reducible] noncomputable def f4_p1_outs : List (Ex × Shape) := [(.normal, f4_p1_o0)]
@[reducible] noncomputable def f4_p1_a : Ann Tryd.prog 0 true (f4_c.cr.cr.cr.cr.cr.cr.cr.cr.cr.cr.cl.cl) := (.leaf _)
noncomputable def f4_p1_F (y : f4_p1_sh.den) : Option (OutDen f4_p1_outs) := evA f4_E f4_p1_a (fill f4_p1_sh y) (packOut f4_p1_outs)
theorem f4_p1_ok : PieceSound Tryd.prog 0 true (f4_c.cr.cr.cr.cr.cr.cr.cr.cr.cr.cr.cl.cl) f4_p1_sh f4_p1_outs f4_p1_F := piece_of (f4_E_okE) f4_p1_a rfl rfl fun _ => rfl
@[reducible] noncomputable def f4_p2_sh : Shape := ⟨[.dead, .dead, .ptr 0 0, .ptr 1 0, .dead, .hole .str, .dead, .dead, .dead, .dead, .dead, .hole (.int .i64), .hole (.int .i64), .dead, .dead, .dead, .dead, .dead, .dead, .dead, .dead, .dead, .dead, .dead, .dead, .dead, .dead, .dead, .dead, .dead, .dead, .dead, .dead, .dead, .dead, .dead, .dead, .dead, .dead, .dead, .dead, .dead, .dead, .dead, .dead, .dead, .dead, .dead, .dead, .dead, .dead, .dead, .dead, .dead, .dead, .dead, .dead, .dead, .dead, .dead, .dead, .dead, .dead, .dead, .dead, .dead, .dead, .dead, .dead, .dead, .dead, .dead, .dead, .dead, .dead, .dead, .dead, .dead, .dead, .dead, .dead, .dead, .dead, .dead, .dead, .dead, .dead, .dead, .dead, .dead, .dead, .dead, .dead, .dead, .dead, .dead, .dead, .dead, .dead, .dead, .dead, .dead, .dead, .dead], [some [.hole (.list .str), .hole .str, .hole (.int .i64), .hole (.int .i64), .hole (.list (.prod (.int .i64) (.prod (.list .str) (.list (.int .i64)))))], some [.hole (.int .i64), .hole (.list .str), .hole (.list (.int .i64))], none], []⟩
@[reducible] noncomputable def f4_p2_o0 : Shape := ⟨[.dead, .dead, .dead, .dead, .hole .bool, .dead, .dead, .dead, .dead, .dead, .dead, .dead, .dead, .dead, .dead, .dead, .dead, .dead, .dead, .dead, .dead, .dead, .dead, .dead, .dead, .dead, .dead, .dead, .dead, .dead, .dead, .dead, .dead, .dead, .dead, .dead, .dead, .dead, .dead, .dead, .dead, .dead, .dead, .dead, .dead, .dead, .dead, .dead, .dead, .dead, .dead, .dead, .dead, .dead, .dead, .dead, .dead, .dead, .dead, .dead, .dead, .dead, .dead, .dead, .dead, .dead, .dead, .dead, .dead, .dead, .dead, .dead, .dead, .dead, .dead, .dead, .dead, .dead, .dead, .dead, .dead, .dead, .dead, .dead, .dead, .dead, .dead, .dead, .dead, .dead, .dead, .dead, .dead, .dead, .dead, .dead, .dead, .dead, .dead, .dead, .dead, .dead, .dead, .dead], [], []⟩
@[reducible] noncomputable def f4_p2_outs : List (Ex × Shape) := [(.ret, f4_p2_o0)]
@[reducible] noncomputable def f4_p2_a : Ann Tryd.prog 0 true (f4_c.cr.cr.cr.cr.cr.cr.cr) := (.seq (.leaf _) (.seq (.leaf _) (.seq (.leaf _) (.seq (.seq (.piece _ _ _ f4_p1_ok) (.leaf _)) (.seq (.seq (.piece _ _ _ f4_p0_ok) (.leaf _)) (.leaf _))))))
noncomputable def f4_p2_F (y : f4_p2_sh.den) : Option (OutDen f4_p2_outs) := evA f4_E f4_p2_a (fill f4_p2_sh y) (packOut f4_p2_outs)
theorem f4_p2_ok : PieceSound Tryd.prog 0 true (f4_c.cr.cr.cr.cr.cr.cr.cr) f4_p2_sh f4_p2_outs f4_p2_F := piece_of (f4_E_okE) f4_p2_a rfl rfl fun _ => rfl
@[reducible] noncomputable def f4_ps : List KD := [.agg [(.list .str), .str, (.int .i64), (.int .i64), (.list (.prod (.int .i64) (.prod (.list .str) (.list (.int .i64)))))], .agg [(.int .i64), (.list .str), (.list (.int .i64))]]
@[reducible] noncomputable def f4_rs : List KD := [.one .bool]
@[reducible] noncomputable def f4_a : Ann Tryd.prog 0 true f4_c := (.seq (.leaf _) (.seq (.leaf _) (.seq (.leaf _) (.seq (.leaf _) (.seq (.leaf _) (.seq (.leaf _) (.seq (.leaf _) (.piece _ _ _ f4_p2_ok))))))))
noncomputable def f4_F (y : argsDen f4_ps) : Option (argsDen f4_rs) := evFunA f4_E Tryd.f4 f4_a (encArgs f4_ps y) (decRes f4_rs)
theorem f4_ok : Sound Tryd.prog 4 (pfun f4_F) := sound_of (c := f4_c) (f4_E_okE) (by kernel_rfl) (by kernel_rfl) (by kernel_rfl) f4_a (fun _ => rfl)
end
end Go.Pe.Tryd
end
