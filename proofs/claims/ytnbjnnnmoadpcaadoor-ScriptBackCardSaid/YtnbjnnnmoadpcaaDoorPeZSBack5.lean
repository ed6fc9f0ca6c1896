/- Texts of the proof, what is used of them: GS, GSq, Tac, LoopT. -/
import Derived.Test.YtnbjnnnmoadpcaaDoorProg
import Derived.Test.YtnbjnnnmoadpcaaDoorPeZSBack4
section
namespace Go.Pe.Tryd
open Go.Proofs Go.RowKit
set_option maxRecDepth 100000
noncomputable section
theorem mixed : Tryd.prog.follows .mixedOrders = true := by kernel_rfl
@[reducible] noncomputable def f5_c : Code := codeOf Tryd.f5
@[reducible] noncomputable def f5_E : Env := envOf Tryd.prog 9999 [] []
theorem f5_E_okE : EnvOk Tryd.prog f5_E := envOf_ok _ _ _ mixed
@[reducible] noncomputable def f5_p0_sh : Shape := ⟨[.dead, .dead, .ptr 0 0, .dead, .ptr 1 0, .hole (.int .i64), .ptr 2 0, .dead, .dead, .dead, .dead, .dead, .dead, .dead, .dead, .dead, .dead, .dead, .dead, .dead, .dead, .dead, .dead, .dead, .dead, .dead, .dead, .dead, .dead, .whole 0, .hole (.int .i64), .hole (.int .i64), .dead, .dead, .dead, .dead, .dead, .dead, .dead, .dead, .dead, .dead, .dead, .dead, .dead, .dead, .dead, .dead, .dead, .dead, .dead, .dead, .dead, .dead, .dead, .whole 1, .hole (.int .i64), .hole (.int .i64), .dead, .dead, .dead, .dead, .dead, .dead, .dead, .dead, .dead, .dead, .dead, .dead, .dead, .dead, .dead, .dead, .dead, .dead, .dead, .dead, .dead], [some [.hole (.list .str), .hole .str, .hole (.int .i64), .hole (.int .i64), .whole 0], some [.nilS, .hole .str, .hole (.int .i64), .hole (.int .i64), .nilS], some [.hole (.int .i64), .whole 1, .hole (.list (.int .i64))]], [some (.prod (.int .i64) (.prod (.list .str) (.list (.int .i64)))), some .str]⟩
@[reducible] noncomputable def f5_p0_o0 : Shape := ⟨[.dead, .dead, .ptr 0 0, .dead, .ptr 1 0, .hole (.int .i64), .ptr 2 0, .dead, .dead, .dead, .dead, .dead, .dead, .dead, .dead, .dead, .dead, .dead, .dead, .dead, .dead, .dead, .dead, .dead, .dead, .dead, .dead, .dead, .dead, .whole 0, .hole (.int .i64), .hole (.int .i64), .dead, .dead, .dead, .dead, .dead, .dead, .dead, .dead, .dead, .dead, .dead, .dead, .dead, .dead, .dead, .dead, .dead, .dead, .dead, .dead, .dead, .dead, .dead, .dead, .dead, .dead, .dead, .dead, .dead, .dead, .dead, .dead, .dead, .dead, .dead, .dead, .dead, .dead, .dead, .dead, .dead, .dead, .dead, .dead, .dead, .dead, .dead], [some [.hole (.list .str), .hole .str, .hole (.int .i64), .hole (.int .i64), .whole 0], some [.nilS, .hole .str, .hole (.int .i64), .hole (.int .i64), .nilS], some [.hole (.int .i64), .whole 1, .hole (.list (.int .i64))]], [some (.prod (.int .i64) (.prod (.list .str) (.list (.int .i64)))), some .str]⟩
@[reducible] noncomputable def f5_p0_outs : List (Ex × Shape) := [(.exit 2, f5_p0_o0)]
@[reducible] noncomputable def f5_p0_a : Ann Tryd.prog 0 true (f5_c.cr.cr.cl.cr.cb.cb.cr.cr.cl.cb.cr.cr.cl.cr.cb.cb) := (.leaf _)
noncomputable def f5_p0_st (rec : f5_p0_sh.den → Option (OutDen f5_p0_outs)) (y : f5_p0_sh.den) : Option (OutDen f5_p0_outs) := evA f5_E f5_p0_a (fill f5_p0_sh y) fun ex st => match ex with | .normal => (abs f5_p0_sh st).bind rec | e => packOut f5_p0_outs e st
theorem f5_p0_ok : PieceSound Tryd.prog 0 true (.loop (f5_c.cr.cr.cl.cr.cb.cb.cr.cr.cl.cb.cr.cr.cl.cr.cb.cb)) f5_p0_sh f5_p0_outs (go f5_p0_st) := go_of (f5_E_okE) f5_p0_a rfl rfl fun _ _ => rfl
@[reducible] noncomputable def f5_p1_sh : Shape := ⟨[.dead, .dead, .ptr 0 0, .dead, .ptr 1 0, .dead, .dead, .dead, .dead, .dead, .dead, .dead, .dead, .dead, .dead, .dead, .dead, .dead, .dead, .dead, .dead, .dead, .dead, .dead, .dead, .dead, .dead, .dead, .dead, .whole 0, .hole (.int .i64), .hole (.int .i64), .dead, .dead, .dead, .dead, .dead, .dead, .dead, .dead, .dead, .dead, .dead, .dead, .dead, .dead, .dead, .dead, .dead, .dead, .dead, .dead, .dead, .dead, .dead, .dead, .dead, .dead, .dead, .dead, .dead, .dead, .dead, .dead, .dead, .dead, .dead, .dead, .dead, .dead, .dead, .dead, .dead, .dead, .dead, .dead, .dead, .dead, .dead], [some [.hole (.list .str), .hole .str, .hole (.int .i64), .hole (.int .i64), .whole 0], some [.nilS, .hole .str, .hole (.int .i64), .hole (.int .i64), .nilS]], [some (.prod (.int .i64) (.prod (.list .str) (.list (.int .i64))))]⟩
@[reducible] noncomputable def f5_p1_o0 : Shape := ⟨[.dead, .dead, .ptr 0 0, .dead, .ptr 1 0, .dead, .dead, .dead, .dead, .dead, .dead, .dead, .dead, .dead, .dead, .dead, .dead, .dead, .dead, .dead, .dead, .dead, .dead, .dead, .dead, .dead, .dead, .dead, .dead, .dead, .dead, .dead, .dead, .dead, .dead, .dead, .dead, .dead, .dead, .dead, .dead, .dead, .dead, .dead, .dead, .dead, .dead, .dead, .dead, .dead, .dead, .dead, .dead, .dead, .dead, .dead, .dead, .dead, .dead, .dead, .dead, .dead, .dead, .dead, .dead, .dead, .dead, .dead, .dead, .dead, .dead, .dead, .dead, .dead, .dead, .dead, .dead, .dead, .dead], [some [.hole (.list .str), .hole .str, .hole (.int .i64), .hole (.int .i64), .whole 0], some [.nilS, .hole .str, .hole (.int .i64), .hole (.int .i64), .nilS]], [some (.prod (.int .i64) (.prod (.list .str) (.list (.int .i64))))]⟩
@[reducible] noncomputable def f5_p1_outs : List (Ex × Shape) := [(.exit 0, f5_p1_o0)]
@[reducible] noncomputable def f5_p1_a : Ann Tryd.prog 0 true (f5_c.cr.cr.cl.cr.cb.cb) := (.seq (.leaf _) (.seq (.leaf _) (.seq (.block (.seq (.leaf _) (.seq (.leaf _) (.seq (.seq (.leaf _) (.block (.piece _ _ _ f5_p0_ok))) (.leaf _))))) (.leaf _))))
noncomputable def f5_p1_st (rec : f5_p1_sh.den → Option (OutDen f5_p1_outs)) (y : f5_p1_sh.den) : Option (OutDen f5_p1_outs) := evA f5_E f5_p1_a (fill f5_p1_sh y) fun ex st => match ex with | .normal => (abs f5_p1_sh st).bind rec | e => packOut f5_p1_outs e st
theorem f5_p1_ok : PieceSound Tryd.prog 0 true (.loop (f5_c.cr.cr.cl.cr.cb.cb)) f5_p1_sh f5_p1_outs (go f5_p1_st) := go_of (f5_E_okE) f5_p1_a rfl rfl fun _ _ => rfl
@[reducible] noncomputable def f5_ps : List KD := [.agg [(.list .str), .str, (.int .i64), (.int .i64), (.list (.prod (.int .i64) (.prod (.list .str) (.list (.int .i64)))))], .one (.int .i64)]
@[reducible] noncomputable def f5_rs : List KD := [.agg [(.list .str), .str, (.int .i64), (.int .i64), (.list (.prod (.int .i64) (.prod (.list .str) (.list (.int .i64)))))]]
@[reducible] noncomputable def f5_a : Ann Tryd.prog 0 true f5_c := (.seq (.leaf _) (.seq (.leaf _) (.seq (.seq (.leaf _) (.block (.piece _ _ _ f5_p1_ok))) (.leaf _))))
noncomputable def f5_F (y : argsDen f5_ps) : Option (argsDen f5_rs) := evFunA f5_E Tryd.f5 f5_a (encArgs f5_ps y) (decRes f5_rs)
theorem f5_ok : Sound Tryd.prog 5 (pfun f5_F) := sound_of (c := f5_c) (f5_E_okE) (by kernel_rfl) (by kernel_rfl) (by kernel_rfl) f5_a (fun _ => rfl)
@[reducible] noncomputable def f42_c : Code := codeOf Tryd.f42
@[reducible] noncomputable def f42_E : Env := envOf Tryd.prog 9999 [] []
theorem f42_E_okE : EnvOk Tryd.prog f42_E := envOf_ok _ _ _ mixed
@[reducible] noncomputable def f42_ps : List KD := [.one .str]
@[reducible] noncomputable def f42_rs : List KD := [.one .bool]
@[reducible] noncomputable def f42_a : Ann Tryd.prog 0 true f42_c := (.leaf _)
noncomputable def f42_F (y : argsDen f42_ps) : Option (argsDen f42_rs) := evFunA f42_E Tryd.f42 f42_a (encArgs f42_ps y) (decRes f42_rs)
theorem f42_ok : Sound Tryd.prog 42 (pfun f42_F) := sound_of (c := f42_c) (f42_E_okE) (by kernel_rfl) (by kernel_rfl) (by kernel_rfl) f42_a (fun _ => rfl)
@[reducible] noncomputable def f60_c : Code := codeOf Tryd.f60
@[reducible] noncomputable def h60_E : Env := envOf Tryd.prog 9999 [rowOf true f42_ok] []
theorem h60_E_okE : EnvOk Tryd.prog h60_E := envOf_ok _ _ _ mixed
@[reducible] noncomputable def h60_p0_sh : Shape := ⟨[.hole (.list .str), .fn (.func 42) [] [], .dead, .dead, .dead, .dead, .dead, .hole (.int .i64), .hole (.int .i64), .dead, .dead, .dead, .dead, .dead, .dead, .dead, .dead, .dead, .dead], [], []⟩
@[reducible] noncomputable def h60_p0_o0 : Shape := ⟨[.dead, .dead, .dead, .dead, .dead, .dead, .dead, .dead, .dead, .dead, .dead, .dead, .dead, .dead, .dead, .dead, .dead, .dead, .dead], [], []⟩
@[reducible] noncomputable def h60_p0_o1 : Shape := ⟨[.dead, .dead, .dead, .dead, .hole (.int .i64), .dead, .dead, .dead, .dead, .dead, .dead, .dead, .dead, .dead, .dead, .dead, .dead, .dead, .dead], [], []⟩
@[reducible] noncomputable def h60_p0_outs : List (Ex × Shape) := [(.exit 0, h60_p0_o0), (.ret, h60_p0_o1)]
@[reducible] noncomputable def h60_p0_a : Ann Tryd.prog 0 true (f60_c.cr.cl.cr.cb.cb) := (.leaf _)
noncomputable def h60_p0_st (rec : h60_p0_sh.den → Option (OutDen h60_p0_outs)) (y : h60_p0_sh.den) : Option (OutDen h60_p0_outs) := evA h60_E h60_p0_a (fill h60_p0_sh y) fun ex st => match ex with | .normal => (abs h60_p0_sh st).bind rec | e => packOut h60_p0_outs e st
theorem h60_p0_ok : PieceSound Tryd.prog 0 true (.loop (f60_c.cr.cl.cr.cb.cb)) h60_p0_sh h60_p0_outs (go h60_p0_st) := go_of (h60_E_okE) h60_p0_a rfl rfl fun _ _ => rfl
@[reducible] noncomputable def h60_I : Shape := ⟨[.hole (.list .str), .fn (.func 42) [] []], [], []⟩
@[reducible] noncomputable def h60_O : Shape := ⟨[.hole (.int .i64)], [], []⟩
@[reducible] noncomputable def h60_a : Ann Tryd.prog 0 true f60_c := (.seq (.leaf _) (.seq (.seq (.leaf _) (.block (.piece _ _ _ h60_p0_ok))) (.leaf _)))
noncomputable def h60_F (y : h60_I.den) : Option h60_O.den := evFunH h60_E Tryd.f60 h60_a h60_I h60_O y
theorem h60_ok : SoundH Tryd.prog 60 ⟨h60_I, h60_O, h60_F⟩ := sound_ofH (I := h60_I) (O := h60_O) (c := f60_c) (h60_E_okE) (by kernel_rfl) (by kernel_rfl) (by kernel_rfl) h60_a rfl rfl (fun _ => rfl)
@[reducible] noncomputable def f43_c : Code := codeOf Tryd.f43
@[reducible] noncomputable def h43_E : Env := envOf Tryd.prog 9999 [] [⟨60, _, h60_ok⟩]
theorem h43_E_okE : EnvOk Tryd.prog h43_E := envOf_ok _ _ _ mixed
@[reducible] noncomputable def h43_I : Shape := ⟨[.hole (.list .str), .fn (.func 42) [] []], [], []⟩
@[reducible] noncomputable def h43_O : Shape := ⟨[.hole .bool], [], []⟩
@[reducible] noncomputable def h43_a : Ann Tryd.prog 0 true f43_c := (.leaf _)
noncomputable def h43_F (y : h43_I.den) : Option h43_O.den := evFunH h43_E Tryd.f43 h43_a h43_I h43_O y
theorem h43_ok : SoundH Tryd.prog 43 ⟨h43_I, h43_O, h43_F⟩ := sound_ofH (I := h43_I) (O := h43_O) (c := f43_c) (h43_E_okE) (by kernel_rfl) (by kernel_rfl) (by kernel_rfl) h43_a rfl rfl (fun _ => rfl)
@[reducible] noncomputable def f21_c : Code := codeOf Tryd.f21
@[reducible] noncomputable def f21_E : Env := envOf Tryd.prog 9999 [rowOf true f42_ok] [⟨43, _, h43_ok⟩]
theorem f21_E_okE : EnvOk Tryd.prog f21_E := envOf_ok _ _ _ mixed
@[reducible] noncomputable def f21_ps : List KD := [.agg [(.list .str), .str, (.int .i64), (.int .i64), (.list (.prod (.int .i64) (.prod (.list .str) (.list (.int .i64)))))]]
@[reducible] noncomputable def f21_rs : List KD := [.one .bool]
@[reducible] noncomputable def f21_a : Ann Tryd.prog 0 true f21_c := (.leaf _)
noncomputable def f21_F (y : argsDen f21_ps) : Option (argsDen f21_rs) := evFunA f21_E Tryd.f21 f21_a (encArgs f21_ps y) (decRes f21_rs)
theorem f21_ok : Sound Tryd.prog 21 (pfun f21_F) := sound_of (c := f21_c) (f21_E_okE) (by kernel_rfl) (by kernel_rfl) (by kernel_rfl) f21_a (fun _ => rfl)
@[reducible] noncomputable def f36_c : Code := codeOf Tryd.f36
@[reducible] noncomputable def h36_E : Env := envOf Tryd.prog 9999 [] []
theorem h36_E_okE : EnvOk Tryd.prog h36_E := envOf_ok _ _ _ mixed
@[reducible] noncomputable def h36_I : Shape := ⟨[], [], []⟩
@[reducible] noncomputable def h36_O : Shape := ⟨[.whole 0], [], [some (.prod (.prod .unit .unit) (.prod (.int .i64) (.prod .str (.prod (.int .i64) (.int .i64)))))]⟩
@[reducible] noncomputable def h36_a : Ann Tryd.prog 0 true f36_c := (.leaf _)
noncomputable def h36_F (y : h36_I.den) : Option h36_O.den := evFunH h36_E Tryd.f36 h36_a h36_I h36_O y
theorem h36_ok : SoundH Tryd.prog 36 ⟨h36_I, h36_O, h36_F⟩ := sound_ofH (I := h36_I) (O := h36_O) (c := f36_c) (h36_E_okE) (by kernel_rfl) (by kernel_rfl) (by kernel_rfl) h36_a rfl rfl (fun _ => rfl)
@[reducible] noncomputable def f45_c : Code := codeOf Tryd.f45
@[reducible] noncomputable def f45_E : Env := envOf Tryd.prog 9999 [] []
theorem f45_E_okE : EnvOk Tryd.prog f45_E := envOf_ok _ _ _ mixed
@[reducible] noncomputable def f45_ps : List KD := [.one .str]
@[reducible] noncomputable def f45_rs : List KD := [.one .bool]
@[reducible] noncomputable def f45_a : Ann Tryd.prog 0 true f45_c := (.leaf _)
noncomputable def f45_F (y : argsDen f45_ps) : Option (argsDen f45_rs) := evFunA f45_E Tryd.f45 f45_a (encArgs f45_ps y) (decRes f45_rs)
theorem f45_ok : Sound Tryd.prog 45 (pfun f45_F) := sound_of (c := f45_c) (f45_E_okE) (by kernel_rfl) (by kernel_rfl) (by kernel_rfl) f45_a (fun _ => rfl)
@[reducible] noncomputable def h60a_E : Env := envOf Tryd.prog 9999 [rowOf true f45_ok] []
theorem h60a_E_okE : EnvOk Tryd.prog h60a_E := envOf_ok _ _ _ mixed
@[reducible] noncomputable def h60a_p0_sh : Shape := ⟨[.hole (.list .str), .fn (.func 45) [] [], .dead, .dead, .dead, .dead, .dead, .hole (.int .i64), .hole (.int .i64), .dead, .dead, .dead, .dead, .dead, .dead, .dead, .dead, .dead, .dead], [], []⟩
@[reducible] noncomputable def h60a_p0_o0 : Shape := ⟨[.dead, .dead, .dead, .dead, .dead, .dead, .dead, .dead, .dead, .dead, .dead, .dead, .dead, .dead, .dead, .dead, .dead, .dead, .dead], [], []⟩
@[reducible] noncomputable def h60a_p0_o1 : Shape := ⟨[.dead, .dead, .dead, .dead, .hole (.int .i64), .dead, .dead, .dead, .dead, .dead, .dead, .dead, .dead, .dead, .dead, .dead, .dead, .dead, .dead], [], []⟩
@[reducible] noncomputable def h60a_p0_outs : List (Ex × Shape) := [(.exit 0, h60a_p0_o0), (.ret, h60a_p0_o1)]
@[reducible] noncomputable def h60a_p0_a : Ann Tryd.prog 0 true (f60_c.cr.cl.cr.cb.cb) := (.leaf _)
noncomputable def h60a_p0_st (rec : h60a_p0_sh.den → Option (OutDen h60a_p0_outs)) (y : h60a_p0_sh.den) : Option (OutDen h60a_p0_outs) := evA h60a_E h60a_p0_a (fill h60a_p0_sh y) fun ex st => match ex with | .normal => (abs h60a_p0_sh st).bind rec | e => packOut h60a_p0_outs e st
theorem h60a_p0_ok : PieceSound Tryd.prog 0 true (.loop (f60_c.cr.cl.cr.cb.cb)) h60a_p0_sh h60a_p0_outs (go h60a_p0_st) := go_of (h60a_E_okE) h60a_p0_a rfl rfl fun _ _ => rfl
@[reducible] noncomputable def h60a_I : Shape := ⟨[.hole (.list .str), .fn (.func 45) [] []], [], []⟩
@[reducible] noncomputable def h60a_O : Shape := ⟨[.hole (.int .i64)], [], []⟩
@[reducible] noncomputable def h60a_a : Ann Tryd.prog 0 true f60_c := (.seq (.leaf _) (.seq (.seq (.leaf _) (.block (.piece _ _ _ h60a_p0_ok))) (.leaf _)))
noncomputable def h60a_F (y : h60a_I.den) : Option h60a_O.den := evFunH h60a_E Tryd.f60 h60a_a h60a_I h60a_O y
theorem h60a_ok : SoundH Tryd.prog 60 ⟨h60a_I, h60a_O, h60a_F⟩ := sound_ofH (I := h60a_I) (O := h60a_O) (c := f60_c) (h60a_E_okE) (by kernel_rfl) (by kernel_rfl) (by kernel_rfl) h60a_a rfl rfl (fun _ => rfl)
@[reducible] noncomputable def h43a_E : Env := envOf Tryd.prog 9999 [] [⟨60, _, h60a_ok⟩]
theorem h43a_E_okE : EnvOk Tryd.prog h43a_E := envOf_ok _ _ _ mixed
@[reducible] noncomputable def h43a_I : Shape := ⟨[.hole (.list .str), .fn (.func 45) [] []], [], []⟩
@[reducible] noncomputable def h43a_O : Shape := ⟨[.hole .bool], [], []⟩
@[reducible] noncomputable def h43a_a : Ann Tryd.prog 0 true f43_c := (.leaf _)
noncomputable def h43a_F (y : h43a_I.den) : Option h43a_O.den := evFunH h43a_E Tryd.f43 h43a_a h43a_I h43a_O y
theorem h43a_ok : SoundH Tryd.prog 43 ⟨h43a_I, h43a_O, h43a_F⟩ := sound_ofH (I := h43a_I) (O := h43a_O) (c := f43_c) (h43a_E_okE) (by kernel_rfl) (by kernel_rfl) (by kernel_rfl) h43a_a rfl rfl (fun _ => rfl)
@[reducible] noncomputable def f47_c : Code := codeOf Tryd.f47
@[reducible] noncomputable def f47_E : Env := envOf Tryd.prog 9999 [] []
theorem f47_E_okE : EnvOk Tryd.prog f47_E := envOf_ok _ _ _ mixed
@[reducible] noncomputable def f47_ps : List KD := [.one (.int .i64)]
@[reducible] noncomputable def f47_rs : List KD := [.one .bool]
@[reducible] noncomputable def f47_a : Ann Tryd.prog 0 true f47_c := (.leaf _)
noncomputable def f47_F (y : argsDen f47_ps) : Option (argsDen f47_rs) := evFunA f47_E Tryd.f47 f47_a (encArgs f47_ps y) (decRes f47_rs)
theorem f47_ok : Sound Tryd.prog 47 (pfun f47_F) := sound_of (c := f47_c) (f47_E_okE) (by kernel_rfl) (by kernel_rfl) (by kernel_rfl) f47_a (fun _ => rfl)
@[reducible] noncomputable def f61_c : Code := codeOf Tryd.f61
@[reducible] noncomputable def h61_E : Env := envOf Tryd.prog 9999 [rowOf true f47_ok] []
theorem h61_E_okE : EnvOk Tryd.prog h61_E := envOf_ok _ _ _ mixed
@[reducible] noncomputable def h61_p0_sh : Shape := ⟨[.hole (.list (.int .i64)), .fn (.func 47) [] [], .dead, .dead, .dead, .dead, .dead, .hole (.int .i64), .hole (.int .i64), .dead, .dead, .dead, .dead, .dead, .dead, .dead, .dead, .dead, .dead], [], []⟩
@[reducible] noncomputable def h61_p0_o0 : Shape := ⟨[.dead, .dead, .dead, .dead, .dead, .dead, .dead, .dead, .dead, .dead, .dead, .dead, .dead, .dead, .dead, .dead, .dead, .dead, .dead], [], []⟩
@[reducible] noncomputable def h61_p0_o1 : Shape := ⟨[.dead, .dead, .dead, .dead, .hole (.int .i64), .dead, .dead, .dead, .dead, .dead, .dead, .dead, .dead, .dead, .dead, .dead, .dead, .dead, .dead], [], []⟩
@[reducible] noncomputable def h61_p0_outs : List (Ex × Shape) := [(.exit 0, h61_p0_o0), (.ret, h61_p0_o1)]
@[reducible] noncomputable def h61_p0_a : Ann Tryd.prog 0 true (f61_c.cr.cl.cr.cb.cb) := (.leaf _)
noncomputable def h61_p0_st (rec : h61_p0_sh.den → Option (OutDen h61_p0_outs)) (y : h61_p0_sh.den) : Option (OutDen h61_p0_outs) := evA h61_E h61_p0_a (fill h61_p0_sh y) fun ex st => match ex with | .normal => (abs h61_p0_sh st).bind rec | e => packOut h61_p0_outs e st
theorem h61_p0_ok : PieceSound Tryd.prog 0 true (.loop (f61_c.cr.cl.cr.cb.cb)) h61_p0_sh h61_p0_outs (go h61_p0_st) := go_of (h61_E_okE) h61_p0_a rfl rfl fun _ _ => rfl
@[reducible] noncomputable def h61_I : Shape := ⟨[.hole (.list (.int .i64)), .fn (.func 47) [] []], [], []⟩
@[reducible] noncomputable def h61_O : Shape := ⟨[.hole (.int .i64)], [], []⟩
@[reducible] noncomputable def h61_a : Ann Tryd.prog 0 true f61_c := (.seq (.leaf _) (.seq (.seq (.leaf _) (.block (.piece _ _ _ h61_p0_ok))) (.leaf _)))
noncomputable def h61_F (y : h61_I.den) : Option h61_O.den := evFunH h61_E Tryd.f61 h61_a h61_I h61_O y
theorem h61_ok : SoundH Tryd.prog 61 ⟨h61_I, h61_O, h61_F⟩ := sound_ofH (I := h61_I) (O := h61_O) (c := f61_c) (h61_E_okE) (by kernel_rfl) (by kernel_rfl) (by kernel_rfl) h61_a rfl rfl (fun _ => rfl)
@[reducible] noncomputable def f46_c : Code := codeOf Tryd.f46
@[reducible] noncomputable def h46_E : Env := envOf Tryd.prog 9999 [] [⟨61, _, h61_ok⟩]
theorem h46_E_okE : EnvOk Tryd.prog h46_E := envOf_ok _ _ _ mixed
@[reducible] noncomputable def h46_I : Shape := ⟨[.hole (.list (.int .i64)), .fn (.func 47) [] []], [], []⟩
@[reducible] noncomputable def h46_O : Shape := ⟨[.hole .bool], [], []⟩
@[reducible] noncomputable def h46_a : Ann Tryd.prog 0 true f46_c := (.leaf _)
noncomputable def h46_F (y : h46_I.den) : Option h46_O.den := evFunH h46_E Tryd.f46 h46_a h46_I h46_O y
theorem h46_ok : SoundH Tryd.prog 46 ⟨h46_I, h46_O, h46_F⟩ := sound_ofH (I := h46_I) (O := h46_O) (c := f46_c) (h46_E_okE) (by kernel_rfl) (by kernel_rfl) (by kernel_rfl) h46_a rfl rfl (fun _ => rfl)
@[reducible] noncomputable def f49_c : Code := codeOf Tryd.f49
@[reducible] noncomputable def f49_E : Env := envOf Tryd.prog 9999 [] []
theorem f49_E_okE : EnvOk Tryd.prog f49_E := envOf_ok _ _ _ mixed
@[reducible] noncomputable def f49_ps : List KD := [.one (.int .u8)]
@[reducible] noncomputable def f49_rs : List KD := [.one .bool]
@[reducible] noncomputable def f49_a : Ann Tryd.prog 0 true f49_c := (.leaf _)
noncomputable def f49_F (y : argsDen f49_ps) : Option (argsDen f49_rs) := evFunA f49_E Tryd.f49 f49_a (encArgs f49_ps y) (decRes f49_rs)
theorem f49_ok : Sound Tryd.prog 49 (pfun f49_F) := sound_of (c := f49_c) (f49_E_okE) (by kernel_rfl) (by kernel_rfl) (by kernel_rfl) f49_a (fun _ => rfl)
@[reducible] noncomputable def f62_c : Code := codeOf Tryd.f62
@[reducible] noncomputable def h62_E : Env := envOf Tryd.prog 9999 [rowOf true f49_ok] []
theorem h62_E_okE : EnvOk Tryd.prog h62_E := envOf_ok _ _ _ mixed
@[reducible] noncomputable def h62_p0_sh : Shape := ⟨[.hole (.list (.int .u8)), .fn (.func 49) [] [], .dead, .dead, .dead, .dead, .dead, .hole (.int .i64), .hole (.int .i64), .dead, .dead, .dead, .dead, .dead, .dead, .dead, .dead, .dead, .dead], [], []⟩
@[reducible] noncomputable def h62_p0_o0 : Shape := ⟨[.dead, .dead, .dead, .dead, .dead, .dead, .dead, .dead, .dead, .dead, .dead, .dead, .dead, .dead, .dead, .dead, .dead, .dead, .dead], [], []⟩
@[reducible] noncomputable def h62_p0_o1 : Shape := ⟨[.dead, .dead, .dead, .dead, .hole (.int .i64), .dead, .dead, .dead, .dead, .dead, .dead, .dead, .dead, .dead, .dead, .dead, .dead, .dead, .dead], [], []⟩
@[reducible] noncomputable def h62_p0_outs : List (Ex × Shape) := [(.exit 0, h62_p0_o0), (.ret, h62_p0_o1)]
@[reducible] noncomputable def h62_p0_a : Ann Tryd.prog 0 true (f62_c.cr.cl.cr.cb.cb) := (.leaf _)
noncomputable def h62_p0_st (rec : h62_p0_sh.den → Option (OutDen h62_p0_outs)) (y : h62_p0_sh.den) : Option (OutDen h62_p0_outs) := evA h62_E h62_p0_a (fill h62_p0_sh y) fun ex st => match ex with | .normal => (abs h62_p0_sh st).bind rec | e => packOut h62_p0_outs e st
theorem h62_p0_ok : PieceSound Tryd.prog 0 true (.loop (f62_c.cr.cl.cr.cb.cb)) h62_p0_sh h62_p0_outs (go h62_p0_st) := go_of (h62_E_okE) h62_p0_a rfl rfl fun _ _ => rfl
@[reducible] noncomputable def h62_I : Shape := ⟨[.hole (.list (.int .u8)), .fn (.func 49) [] []], [], []⟩
@[reducible] noncomputable def h62_O : Shape := ⟨[.hole (.int .i64)], [], []⟩
@[reducible] noncomputable def h62_a : Ann Tryd.prog 0 true f62_c := (.seq (.leaf _) (.seq (.seq (.leaf _) (.block (.piece _ _ _ h62_p0_ok))) (.leaf _)))
noncomputable def h62_F (y : h62_I.den) : Option h62_O.den := evFunH h62_E Tryd.f62 h62_a h62_I h62_O y
theorem h62_ok : SoundH Tryd.prog 62 ⟨h62_I, h62_O, h62_F⟩ := sound_ofH (I := h62_I) (O := h62_O) (c := f62_c) (h62_E_okE) (by kernel_rfl) (by kernel_rfl) (by kernel_rfl) h62_a rfl rfl (fun _ => rfl)
@[reducible] noncomputable def f48_c : Code := codeOf Tryd.f48
@[reducible] noncomputable def h48_E : Env := envOf Tryd.prog 9999 [] [⟨62, _, h62_ok⟩]
theorem h48_E_okE : EnvOk Tryd.prog h48_E := envOf_ok _ _ _ mixed
@[reducible] noncomputable def h48_I : Shape := ⟨[.hole (.list (.int .u8)), .fn (.func 49) [] []], [], []⟩
@[reducible] noncomputable def h48_O : Shape := ⟨[.hole .bool], [], []⟩
@[reducible] noncomputable def h48_a : Ann Tryd.prog 0 true f48_c := (.leaf _)
noncomputable def h48_F (y : h48_I.den) : Option h48_O.den := evFunH h48_E Tryd.f48 h48_a h48_I h48_O y
theorem h48_ok : SoundH Tryd.prog 48 ⟨h48_I, h48_O, h48_F⟩ := sound_ofH (I := h48_I) (O := h48_O) (c := f48_c) (h48_E_okE) (by kernel_rfl) (by kernel_rfl) (by kernel_rfl) h48_a rfl rfl (fun _ => rfl)
@[reducible] noncomputable def f24_c : Code := codeOf Tryd.f24
@[reducible] noncomputable def f24_E : Env := envOf Tryd.prog 9999 [] [⟨36, _, h36_ok⟩, ⟨43, _, h43a_ok⟩, ⟨46, _, h46_ok⟩, ⟨48, _, h48_ok⟩]
theorem f24_E_okE : EnvOk Tryd.prog f24_E := envOf_ok _ _ _ mixed
@[reducible] noncomputable def f24_p0_sh : Shape := ⟨[.dead, .ptr 0 0, .dead, .dead, .dead, .dead, .dead, .dead, .dead, .dead, .dead, .dead, .dead, .dead, .dead, .dead, .dead, .dead, .dead, .dead, .dead, .dead, .dead, .dead, .dead, .dead, .dead, .dead, .dead, .dead, .dead, .dead, .dead, .dead, .dead, .dead, .dead, .dead, .dead, .dead, .dead, .dead, .dead, .dead, .dead, .dead, .dead, .dead, .dead, .dead, .dead, .dead, .dead, .dead, .dead, .dead, .dead, .dead, .dead, .dead, .dead, .dead, .dead], [some [.hole (.int .i64), .hole (.list .str), .hole (.list (.int .i64))]], []⟩
@[reducible] noncomputable def f24_p0_o0 : Shape := ⟨[.dead, .ptr 0 0, .dead, .dead, .dead, .dead, .dead, .dead, .dead, .dead, .dead, .dead, .dead, .dead, .dead, .dead, .dead, .dead, .dead, .dead, .dead, .dead, .dead, .dead, .dead, .dead, .dead, .dead, .dead, .dead, .dead, .dead, .dead, .dead, .dead, .dead, .dead, .hole .bool, .dead, .dead, .dead, .dead, .dead, .dead, .dead, .dead, .dead, .dead, .dead, .dead, .dead, .dead, .dead, .dead, .dead, .dead, .dead, .dead, .dead, .dead, .dead, .dead, .dead], [some [.hole (.int .i64), .hole (.list .str), .hole (.list (.int .i64))]], []⟩
@[reducible] noncomputable def f24_p0_outs : List (Ex × Shape) := [(.normal, f24_p0_o0)]
@[reducible] noncomputable def f24_p0_a : Ann Tryd.prog 0 true (f24_c.cr.cr.cr.cl.cl) := (.leaf _)
noncomputable def f24_p0_F (y : f24_p0_sh.den) : Option (OutDen f24_p0_outs) := evA f24_E f24_p0_a (fill f24_p0_sh y) (packOut f24_p0_outs)
theorem f24_p0_ok : PieceSound Tryd.prog 0 true (f24_c.cr.cr.cr.cl.cl) f24_p0_sh f24_p0_outs f24_p0_F := piece_of (f24_E_okE) f24_p0_a rfl rfl fun _ => rfl
@[reducible] noncomputable def f24_p1_sh : Shape := ⟨[.dead, .ptr 0 0, .dead, .ptr 1 0, .hole .bool, .dead, .dead, .dead, .dead, .dead, .dead, .dead, .dead, .dead, .dead, .dead, .dead, .dead, .dead, .dead, .dead, .dead, .dead, .dead, .dead, .dead, .dead, .dead, .dead, .dead, .dead, .dead, .dead, .dead, .dead, .dead, .dead, .dead, .dead, .dead, .dead, .dead, .dead, .dead, .dead, .dead, .dead, .dead, .dead, .dead, .dead, .dead, .dead, .dead, .dead, .dead, .dead, .dead, .dead, .dead, .dead, .dead, .dead], [some [.hole (.int .i64), .hole (.list .str), .hole (.list (.int .i64))], some [.hole .str, .hole (.int .i64), .hole (.int .i64)]], [none]⟩
@[reducible] noncomputable def f24_p1_o0 : Shape := ⟨[.dead, .ptr 0 0, .dead, .dead, .dead, .dead, .dead, .dead, .dead, .dead, .dead, .dead, .dead, .dead, .dead, .dead, .dead, .dead, .dead, .dead, .dead, .dead, .dead, .dead, .dead, .dead, .dead, .dead, .dead, .hole .bool, .dead, .dead, .dead, .dead, .dead, .dead, .dead, .dead, .dead, .dead, .dead, .dead, .dead, .dead, .dead, .dead, .dead, .dead, .dead, .dead, .dead, .dead, .dead, .dead, .dead, .dead, .dead, .dead, .dead, .dead, .dead, .dead, .dead], [some [.hole (.int .i64), .hole (.list .str), .hole (.list (.int .i64))]], []⟩
@[reducible] noncomputable def f24_p1_outs : List (Ex × Shape) := [(.normal, f24_p1_o0)]
@[reducible] noncomputable def f24_p1_a : Ann Tryd.prog 0 true (f24_c.cr.cr.cl.cl) := (.leaf _)
noncomputable def f24_p1_F (y : f24_p1_sh.den) : Option (OutDen f24_p1_outs) := evA f24_E f24_p1_a (fill f24_p1_sh y) (packOut f24_p1_outs)
theorem f24_p1_ok : PieceSound Tryd.prog 0 true (f24_c.cr.cr.cl.cl) f24_p1_sh f24_p1_outs f24_p1_F := piece_of (f24_E_okE) f24_p1_a rfl rfl fun _ => rfl
@[reducible] noncomputable def f24_ps : List KD := [.agg [(.int .i64), (.list .str), (.list (.int .i64))]]
@[reducible] noncomputable def f24_rs : List KD := [.one .bool]
@[reducible] noncomputable def f24_a : Ann Tryd.prog 0 true f24_c := (.seq (.leaf _) (.seq (.leaf _) (.seq (.seq (.piece _ _ _ f24_p1_ok) (.leaf _)) (.seq (.seq (.piece _ _ _ f24_p0_ok) (.leaf _)) (.leaf _)))))
noncomputable def f24_F (y : argsDen f24_ps) : Option (argsDen f24_rs) := evFunA f24_E Tryd.f24 f24_a (encArgs f24_ps y) (decRes f24_rs)
theorem f24_ok : Sound Tryd.prog 24 (pfun f24_F) := sound_of (c := f24_c) (f24_E_okE) (by kernel_rfl) (by kernel_rfl) (by kernel_rfl) f24_a (fun _ => rfl)
@[reducible] noncomputable def f23_c : Code := codeOf Tryd.f23
@[reducible] noncomputable def f23_E : Env := envOf Tryd.prog 9999 [rowOf true f24_ok] []
theorem f23_E_okE : EnvOk Tryd.prog f23_E := envOf_ok _ _ _ mixed
@[reducible] noncomputable def f23_ps : List KD := [.agg [(.int .i64), (.list .str), (.list (.int .i64))]]
@[reducible] noncomputable def f23_rs : List KD := [.one .bool]
@[reducible] noncomputable def f23_a : Ann Tryd.prog 0 true f23_c := (.leaf _)
noncomputable def f23_F (y : argsDen f23_ps) : Option (argsDen f23_rs) := evFunA f23_E Tryd.f23 f23_a (encArgs f23_ps y) (decRes f23_rs)
theorem f23_ok : Sound Tryd.prog 23 (pfun f23_F) := sound_of (c := f23_c) (f23_E_okE) (by kernel_rfl) (by kernel_rfl) (by kernel_rfl) f23_a (fun _ => rfl)
@[reducible] noncomputable def f44_c : Code := codeOf Tryd.f44
@[reducible] noncomputable def h44_E : Env := envOf Tryd.prog 9999 [rowOf true f23_ok] []
theorem h44_E_okE : EnvOk Tryd.prog h44_E := envOf_ok _ _ _ mixed
@[reducible] noncomputable def h44_p0_sh : Shape := ⟨[.hole (.list (.prod (.int .i64) (.prod (.list .str) (.list (.int .i64))))), .fn (.func 23) [] [], .dead, .dead, .dead, .dead, .dead, .hole (.int .i64), .hole (.int .i64), .dead, .dead, .dead, .dead, .dead, .dead, .dead, .dead, .dead, .dead], [], []⟩
@[reducible] noncomputable def h44_p0_o0 : Shape := ⟨[.dead, .dead, .dead, .dead, .dead, .dead, .dead, .dead, .dead, .dead, .dead, .dead, .dead, .dead, .dead, .dead, .dead, .dead, .dead], [], []⟩
@[reducible] noncomputable def h44_p0_o1 : Shape := ⟨[.dead, .dead, .dead, .dead, .hole (.int .i64), .dead, .dead, .dead, .dead, .dead, .dead, .dead, .dead, .dead, .dead, .dead, .dead, .dead, .dead], [], []⟩
@[reducible] noncomputable def h44_p0_outs : List (Ex × Shape) := [(.exit 0, h44_p0_o0), (.ret, h44_p0_o1)]
@[reducible] noncomputable def h44_p0_a : Ann Tryd.prog 0 true (f44_c.cr.cl.cr.cb.cb) := (.leaf _)
noncomputable def h44_p0_st (rec : h44_p0_sh.den → Option (OutDen h44_p0_outs)) (y : h44_p0_sh.den) : Option (OutDen h44_p0_outs) := evA h44_E h44_p0_a (fill h44_p0_sh y) fun ex st => match ex with | .normal => (abs h44_p0_sh st).bind rec | e => packOut h44_p0_outs e st
theorem h44_p0_ok : PieceSound Tryd.prog 0 true (.loop (f44_c.cr.cl.cr.cb.cb)) h44_p0_sh h44_p0_outs (go h44_p0_st) := go_of (h44_E_okE) h44_p0_a rfl rfl fun _ _ => rfl
@[reducible] noncomputable def h44_I : Shape := ⟨[.hole (.list (.prod (.int .i64) (.prod (.list .str) (.list (.int .i64))))), .fn (.func 23) [] []], [], []⟩
@[reducible] noncomputable def h44_O : Shape := ⟨[.hole (.int .i64)], [], []⟩
@[reducible] noncomputable def h44_a : Ann Tryd.prog 0 true f44_c := (.seq (.leaf _) (.seq (.seq (.leaf _) (.block (.piece _ _ _ h44_p0_ok))) (.leaf _)))
noncomputable def h44_F (y : h44_I.den) : Option h44_O.den := evFunH h44_E Tryd.f44 h44_a h44_I h44_O y
theorem h44_ok : SoundH Tryd.prog 44 ⟨h44_I, h44_O, h44_F⟩ := sound_ofH (I := h44_I) (O := h44_O) (c := f44_c) (h44_E_okE) (by kernel_rfl) (by kernel_rfl) (by kernel_rfl) h44_a rfl rfl (fun _ => rfl)
@[reducible] noncomputable def f22_c : Code := codeOf Tryd.f22
@[reducible] noncomputable def h22_E : Env := envOf Tryd.prog 9999 [] [⟨44, _, h44_ok⟩]
theorem h22_E_okE : EnvOk Tryd.prog h22_E := envOf_ok _ _ _ mixed
@[reducible] noncomputable def h22_I : Shape := ⟨[.hole (.list (.prod (.int .i64) (.prod (.list .str) (.list (.int .i64))))), .fn (.func 23) [] []], [], []⟩
@[reducible] noncomputable def h22_O : Shape := ⟨[.hole .bool], [], []⟩
@[reducible] noncomputable def h22_a : Ann Tryd.prog 0 true f22_c := (.leaf _)
noncomputable def h22_F (y : h22_I.den) : Option h22_O.den := evFunH h22_E Tryd.f22 h22_a h22_I h22_O y
theorem h22_ok : SoundH Tryd.prog 22 ⟨h22_I, h22_O, h22_F⟩ := sound_ofH (I := h22_I) (O := h22_O) (c := f22_c) (h22_E_okE) (by kernel_rfl) (by kernel_rfl) (by kernel_rfl) h22_a rfl rfl (fun _ => rfl)
@[reducible] noncomputable def f10_c : Code := codeOf Tryd.f10
@[reducible] noncomputable def f10_E : Env := envOf Tryd.prog 9999 [rowOf true f21_ok] [⟨22, _, h22_ok⟩]
theorem f10_E_okE : EnvOk Tryd.prog f10_E := envOf_ok _ _ _ mixed
@[reducible] noncomputable def f10_ps : List KD := [.agg [(.list .str), .str, (.int .i64), (.int .i64), (.list (.prod (.int .i64) (.prod (.list .str) (.list (.int .i64)))))]]
@[reducible] noncomputable def f10_rs : List KD := [.one .bool]
@[reducible] noncomputable def f10_a : Ann Tryd.prog 0 true f10_c := (.leaf _)
noncomputable def f10_F (y : argsDen f10_ps) : Option (argsDen f10_rs) := evFunA f10_E Tryd.f10 f10_a (encArgs f10_ps y) (decRes f10_rs)
theorem f10_ok : Sound Tryd.prog 10 (pfun f10_F) := sound_of (c := f10_c) (f10_E_okE) (by kernel_rfl) (by kernel_rfl) (by kernel_rfl) f10_a (fun _ => rfl)
@[reducible] noncomputable def f52_c : Code := codeOf Tryd.f52
@[reducible] noncomputable def h52_E : Env := envOf Tryd.prog 9999 [] [⟨68, _, copy_ok⟩]
theorem h52_E_okE : EnvOk Tryd.prog h52_E := envOf_ok _ _ _ mixed
@[reducible] noncomputable def h52_I : Shape := ⟨[.ptr 0 0, .hole (.int .u8)], [some [.bld 0, .nilS]], []⟩
@[reducible] noncomputable def h52_O : Shape := ⟨[.dead], [some [.bld 0, .whole 0]], [some (.int .u8)]⟩
@[reducible] noncomputable def h52_a : Ann Tryd.prog 1 true f52_c := (.leaf _)
noncomputable def h52_F (y : h52_I.den) : Option h52_O.den := evFunH h52_E Tryd.f52 h52_a h52_I h52_O y
theorem h52_ok : SoundH Tryd.prog 52 ⟨h52_I, h52_O, h52_F⟩ := sound_ofH (I := h52_I) (O := h52_O) (c := f52_c) (h52_E_okE) (by kernel_rfl) (by kernel_rfl) (by kernel_rfl) h52_a rfl rfl (fun _ => rfl)
@[reducible] noncomputable def h52a_E : Env := envOf Tryd.prog 9999 [] [⟨68, _, copy_ok⟩]
theorem h52a_E_okE : EnvOk Tryd.prog h52a_E := envOf_ok _ _ _ mixed
@[reducible] noncomputable def h52a_I : Shape := ⟨[.ptr 0 0, .hole (.int .u8)], [some [.bld 0, .whole 0]], [some (.int .u8)]⟩
@[reducible] noncomputable def h52a_O : Shape := ⟨[.dead], [some [.bld 0, .whole 0]], [some (.int .u8)]⟩
@[reducible] noncomputable def h52a_a : Ann Tryd.prog 65 true f52_c := (.leaf _)
noncomputable def h52a_F (y : h52a_I.den) : Option h52a_O.den := evFunH h52a_E Tryd.f52 h52a_a h52a_I h52a_O y
theorem h52a_ok : SoundH Tryd.prog 52 ⟨h52a_I, h52a_O, h52a_F⟩ := sound_ofH (I := h52a_I) (O := h52a_O) (c := f52_c) (h52a_E_okE) (by kernel_rfl) (by kernel_rfl) (by kernel_rfl) h52a_a rfl rfl (fun _ => rfl)
@[reducible] noncomputable def f34_c : Code := codeOf Tryd.f34
@[reducible] noncomputable def f34_E : Env := envOf Tryd.prog 9999 [] [⟨52, _, h52_ok⟩, ⟨52, _, h52a_ok⟩, ⟨53, _, str_ok⟩]
theorem f34_E_okE : EnvOk Tryd.prog f34_E := envOf_ok _ _ _ mixed
@[reducible] noncomputable def f34_p0_sh : Shape := ⟨[.hole .str, .dead, .dead, .ptr 0 0, .dead, .dead, .hole (.int .i64), .hole (.int .i64), .dead, .dead, .dead, .dead, .dead, .dead, .dead, .dead, .dead, .dead, .dead, .dead, .dead, .dead, .dead, .dead], [some [.bld 0, .whole 0]], [some (.int .u8)]⟩
@[reducible] noncomputable def f34_p0_o0 : Shape := ⟨[.dead, .dead, .dead, .ptr 0 0, .dead, .dead, .dead, .dead, .dead, .dead, .dead, .dead, .dead, .dead, .dead, .dead, .dead, .dead, .dead, .dead, .dead, .dead, .dead, .dead], [some [.bld 0, .whole 0]], [some (.int .u8)]⟩
@[reducible] noncomputable def f34_p0_outs : List (Ex × Shape) := [(.exit 0, f34_p0_o0)]
@[reducible] noncomputable def f34_p0_a : Ann Tryd.prog 0 true (f34_c.cr.cr.cl.cr.cb.cb) := (.leaf _)
noncomputable def f34_p0_st (rec : f34_p0_sh.den → Option (OutDen f34_p0_outs)) (y : f34_p0_sh.den) : Option (OutDen f34_p0_outs) := evA f34_E f34_p0_a (fill f34_p0_sh y) fun ex st => match ex with | .normal => (abs f34_p0_sh st).bind rec | e => packOut f34_p0_outs e st
theorem f34_p0_ok : PieceSound Tryd.prog 0 true (.loop (f34_c.cr.cr.cl.cr.cb.cb)) f34_p0_sh f34_p0_outs (go f34_p0_st) := go_of (f34_E_okE) f34_p0_a rfl rfl fun _ _ => rfl
@[reducible] noncomputable def f34_ps : List KD := [.one .str]
@[reducible] noncomputable def f34_rs : List KD := [.one .str]
@[reducible] noncomputable def f34_a : Ann Tryd.prog 0 true f34_c := (.seq (.leaf _) (.seq (.leaf _) (.seq (.seq (.leaf _) (.block (.piece _ _ _ f34_p0_ok))) (.leaf _))))
noncomputable def f34_F (y : argsDen f34_ps) : Option (argsDen f34_rs) := evFunA f34_E Tryd.f34 f34_a (encArgs f34_ps y) (decRes f34_rs)
theorem f34_ok : Sound Tryd.prog 34 (pfun f34_F) := sound_of (c := f34_c) (f34_E_okE) (by kernel_rfl) (by kernel_rfl) (by kernel_rfl) f34_a (fun _ => rfl)
@[reducible] noncomputable def f15_c : Code := codeOf Tryd.f15
@[reducible] noncomputable def f15_E : Env := envOf Tryd.prog 9999 [rowOf true f34_ok, rowOf true itoa_ok, rowOf true join_ok] [] [6]
theorem f15_E_okE : EnvOk Tryd.prog f15_E := envOf_ok _ _ _ mixed [6]
@[reducible] noncomputable def f15_p0_sh : Shape := ⟨[.dead, .ptr 0 0, .dead, .whole 0, .dead, .dead, .dead, .dead, .hole (.list .str), .hole (.int .i64), .hole (.int .i64), .dead, .dead, .dead, .dead, .dead, .dead, .dead, .dead, .dead, .dead, .dead, .dead, .dead, .dead, .dead, .dead, .dead, .dead, .dead, .dead, .dead, .dead, .dead], [some [.hole (.list .str), .hole .str, .hole (.int .i64), .hole (.int .i64), .hole (.list (.prod (.int .i64) (.prod (.list .str) (.list (.int .i64)))))]], [some .str]⟩
@[reducible] noncomputable def f15_p0_o0 : Shape := ⟨[.dead, .ptr 0 0, .dead, .whole 0, .dead, .dead, .dead, .dead, .dead, .dead, .dead, .dead, .dead, .dead, .dead, .dead, .dead, .dead, .dead, .dead, .dead, .dead, .dead, .dead, .dead, .dead, .dead, .dead, .dead, .dead, .dead, .dead, .dead, .dead], [some [.hole (.list .str), .hole .str, .hole (.int .i64), .hole (.int .i64), .hole (.list (.prod (.int .i64) (.prod (.list .str) (.list (.int .i64)))))]], [some .str]⟩
@[reducible] noncomputable def f15_p0_outs : List (Ex × Shape) := [(.exit 0, f15_p0_o0)]
@[reducible] noncomputable def f15_p0_a : Ann Tryd.prog 0 true (f15_c.cr.cr.cl.cr.cb.cb) := (.leaf _)
noncomputable def f15_p0_st (rec : f15_p0_sh.den → Option (OutDen f15_p0_outs)) (y : f15_p0_sh.den) : Option (OutDen f15_p0_outs) := evA f15_E f15_p0_a (fill f15_p0_sh y) fun ex st => match ex with | .normal => (abs f15_p0_sh st).bind rec | e => packOut f15_p0_outs e st
theorem f15_p0_ok : PieceSound Tryd.prog 0 true (.loop (f15_c.cr.cr.cl.cr.cb.cb)) f15_p0_sh f15_p0_outs (go f15_p0_st) := go_of (f15_E_okE) f15_p0_a rfl rfl fun _ _ => rfl
@[reducible] noncomputable def f15_ps : List KD := [.agg [(.list .str), .str, (.int .i64), (.int .i64), (.list (.prod (.int .i64) (.prod (.list .str) (.list (.int .i64)))))]]
@[reducible] noncomputable def f15_rs : List KD := [.one .str]
@[reducible] noncomputable def f15_a : Ann Tryd.prog 0 true f15_c := (.seq (.leaf _) (.seq (.leaf _) (.seq (.seq (.leaf _) (.block (.piece _ _ _ f15_p0_ok))) (.leaf _))))
noncomputable def f15_F (y : argsDen f15_ps) : Option (argsDen f15_rs) := evFunA f15_E Tryd.f15 f15_a (encArgs f15_ps y) (decRes f15_rs)
theorem f15_ok : Sound Tryd.prog 15 (pfun f15_F) := sound_of (c := f15_c) (f15_E_okE) (by kernel_rfl) (by kernel_rfl) (by kernel_rfl) f15_a (fun _ => rfl)
@[reducible] noncomputable def f16_c : Code := codeOf Tryd.f16
@[reducible] noncomputable def f16_E : Env := envOf Tryd.prog 9999 [rowOf true f34_ok, rowOf true itoa_ok, rowOf true join_ok] [⟨36, _, h36_ok⟩] [13]
theorem f16_E_okE : EnvOk Tryd.prog f16_E := envOf_ok _ _ _ mixed [13]
@[reducible] noncomputable def f16_p0_sh : Shape := ⟨[.dead, .dead, .dead, .whole 1, .dead, .dead, .dead, .dead, .dead, .dead, .dead, .dead, .dead, .dead, .dead, .dead, .dead, .dead, .dead, .dead, .dead, .dead, .dead, .dead, .dead, .dead, .dead, .dead, .dead, .hole (.list (.int .i64)), .hole (.int .i64), .hole (.int .i64), .dead, .dead, .dead, .dead, .dead, .dead, .dead, .dead, .dead, .dead, .dead], [none], [none, some .str]⟩
@[reducible] noncomputable def f16_p0_o0 : Shape := ⟨[.dead, .dead, .dead, .whole 1, .dead, .dead, .dead, .dead, .dead, .dead, .dead, .dead, .dead, .dead, .dead, .dead, .dead, .dead, .dead, .dead, .dead, .dead, .dead, .dead, .dead, .dead, .dead, .dead, .dead, .dead, .dead, .dead, .dead, .dead, .dead, .dead, .dead, .dead, .dead, .dead, .dead, .dead, .dead], [], [none, some .str]⟩
@[reducible] noncomputable def f16_p0_outs : List (Ex × Shape) := [(.exit 2, f16_p0_o0)]
@[reducible] noncomputable def f16_p0_a : Ann Tryd.prog 0 true (f16_c.cr.cr.cr.cl.cr.cb.cb) := (.leaf _)
noncomputable def f16_p0_st (rec : f16_p0_sh.den → Option (OutDen f16_p0_outs)) (y : f16_p0_sh.den) : Option (OutDen f16_p0_outs) := evA f16_E f16_p0_a (fill f16_p0_sh y) fun ex st => match ex with | .normal => (abs f16_p0_sh st).bind rec | e => packOut f16_p0_outs e st
theorem f16_p0_ok : PieceSound Tryd.prog 0 true (.loop (f16_c.cr.cr.cr.cl.cr.cb.cb)) f16_p0_sh f16_p0_outs (go f16_p0_st) := go_of (f16_E_okE) f16_p0_a rfl rfl fun _ _ => rfl
@[reducible] noncomputable def f16_p1_sh : Shape := ⟨[.dead, .ptr 0 0, .dead, .whole 1, .dead, .dead, .dead, .dead, .dead, .dead, .dead, .dead, .dead, .dead, .dead, .hole (.list .str), .hole (.int .i64), .hole (.int .i64), .dead, .dead, .dead, .dead, .dead, .dead, .dead, .dead, .dead, .dead, .dead, .dead, .dead, .dead, .dead, .dead, .dead, .dead, .dead, .dead, .dead, .dead, .dead, .dead, .dead], [some [.hole (.int .i64), .hole (.list .str), .hole (.list (.int .i64))]], [none, some .str]⟩
@[reducible] noncomputable def f16_p1_o0 : Shape := ⟨[.dead, .ptr 0 0, .dead, .whole 1, .dead, .dead, .dead, .dead, .dead, .dead, .dead, .dead, .dead, .dead, .dead, .dead, .dead, .dead, .dead, .dead, .dead, .dead, .dead, .dead, .dead, .dead, .dead, .dead, .dead, .dead, .dead, .dead, .dead, .dead, .dead, .dead, .dead, .dead, .dead, .dead, .dead, .dead, .dead], [some [.hole (.int .i64), .hole (.list .str), .hole (.list (.int .i64))]], [none, some .str]⟩
@[reducible] noncomputable def f16_p1_outs : List (Ex × Shape) := [(.exit 0, f16_p1_o0)]
@[reducible] noncomputable def f16_p1_a : Ann Tryd.prog 0 true (f16_c.cr.cr.cl.cr.cb.cb) := (.leaf _)
noncomputable def f16_p1_st (rec : f16_p1_sh.den → Option (OutDen f16_p1_outs)) (y : f16_p1_sh.den) : Option (OutDen f16_p1_outs) := evA f16_E f16_p1_a (fill f16_p1_sh y) fun ex st => match ex with | .normal => (abs f16_p1_sh st).bind rec | e => packOut f16_p1_outs e st
theorem f16_p1_ok : PieceSound Tryd.prog 0 true (.loop (f16_c.cr.cr.cl.cr.cb.cb)) f16_p1_sh f16_p1_outs (go f16_p1_st) := go_of (f16_E_okE) f16_p1_a rfl rfl fun _ _ => rfl
@[reducible] noncomputable def f16_ps : List KD := [.agg [(.int .i64), (.list .str), (.list (.int .i64))]]
@[reducible] noncomputable def f16_rs : List KD := [.one .str]
@[reducible] noncomputable def f16_a : Ann Tryd.prog 0 true f16_c := (.seq (.leaf _) (.seq (.leaf _) (.seq (.seq (.leaf _) (.block (.piece _ _ _ f16_p1_ok))) (.seq (.seq (.leaf _) (.block (.piece _ _ _ f16_p0_ok))) (.leaf _)))))
noncomputable def f16_F (y : argsDen f16_ps) : Option (argsDen f16_rs) := evFunA f16_E Tryd.f16 f16_a (encArgs f16_ps y) (decRes f16_rs)
theorem f16_ok : Sound Tryd.prog 16 (pfun f16_F) := sound_of (c := f16_c) (f16_E_okE) (by kernel_rfl) (by kernel_rfl) (by kernel_rfl) f16_a (fun _ => rfl)
@[reducible] noncomputable def f6_c : Code := codeOf Tryd.f6
@[reducible] noncomputable def f6_E : Env := envOf Tryd.prog 9999 [rowOf true f10_ok, rowOf true f15_ok, rowOf true f16_ok] []
theorem f6_E_okE : EnvOk Tryd.prog f6_E := envOf_ok _ _ _ mixed
@[reducible] noncomputable def f6_p0_sh : Shape := ⟨[.dead, .dead, .dead, .dead, .hole .str, .dead, .dead, .dead, .dead, .dead, .dead, .dead, .dead, .dead, .hole (.list (.prod (.int .i64) (.prod (.list .str) (.list (.int .i64))))), .hole (.int .i64), .hole (.int .i64), .dead, .dead, .dead, .dead, .dead, .dead, .dead, .dead, .dead, .dead], [none], []⟩
@[reducible] noncomputable def f6_p0_o0 : Shape := ⟨[.dead, .dead, .dead, .dead, .hole .str, .dead, .dead, .dead, .dead, .dead, .dead, .dead, .dead, .dead, .dead, .dead, .dead, .dead, .dead, .dead, .dead, .dead, .dead, .dead, .dead, .dead, .dead], [], []⟩
@[reducible] noncomputable def f6_p0_outs : List (Ex × Shape) := [(.exit 0, f6_p0_o0)]
@[reducible] noncomputable def f6_p0_a : Ann Tryd.prog 0 true (f6_c.cr.cr.cr.cl.cr.cb.cb) := (.leaf _)
noncomputable def f6_p0_st (rec : f6_p0_sh.den → Option (OutDen f6_p0_outs)) (y : f6_p0_sh.den) : Option (OutDen f6_p0_outs) := evA f6_E f6_p0_a (fill f6_p0_sh y) fun ex st => match ex with | .normal => (abs f6_p0_sh st).bind rec | e => packOut f6_p0_outs e st
theorem f6_p0_ok : PieceSound Tryd.prog 0 true (.loop (f6_c.cr.cr.cr.cl.cr.cb.cb)) f6_p0_sh f6_p0_outs (go f6_p0_st) := go_of (f6_E_okE) f6_p0_a rfl rfl fun _ _ => rfl
@[reducible] noncomputable def f6_ps : List KD := [.agg [(.list .str), .str, (.int .i64), (.int .i64), (.list (.prod (.int .i64) (.prod (.list .str) (.list (.int .i64)))))]]
@[reducible] noncomputable def f6_rs : List KD := [.one .str, .one (.int .i64)]
@[reducible] noncomputable def f6_a : Ann Tryd.prog 0 true f6_c := (.seq (.leaf _) (.seq (.leaf _) (.seq (.leaf _) (.seq (.seq (.leaf _) (.block (.piece _ _ _ f6_p0_ok))) (.leaf _)))))
noncomputable def f6_F (y : argsDen f6_ps) : Option (argsDen f6_rs) := evFunA f6_E Tryd.f6 f6_a (encArgs f6_ps y) (decRes f6_rs)
theorem f6_ok : Sound Tryd.prog 6 (pfun f6_F) := sound_of (c := f6_c) (f6_E_okE) (by kernel_rfl) (by kernel_rfl) (by kernel_rfl) f6_a (fun _ => rfl)
@[reducible] noncomputable def f57_c : Code := codeOf Tryd.f57
@[reducible] noncomputable def f57_E : Env := envOf Tryd.prog 9999 [rowOf true index_ok] []
theorem f57_E_okE : EnvOk Tryd.prog f57_E := envOf_ok _ _ _ mixed
@[reducible] noncomputable def f57_p0_sh : Shape := ⟨[.hole .str, .dead, .dead, .dead, .whole 0, .hole (.int .i64), .hole (.int .i64), .dead, .dead, .dead, .dead, .dead, .dead, .dead, .dead, .dead, .dead, .dead, .dead, .dead, .dead, .dead, .dead, .dead, .dead, .dead, .dead, .dead, .dead, .dead, .dead, .dead, .dead, .dead, .dead, .dead], [], [some (.int .u8)]⟩
@[reducible] noncomputable def f57_p0_o0 : Shape := ⟨[.hole .str, .dead, .dead, .dead, .whole 0, .hole (.int .i64), .hole (.int .i64), .dead, .dead, .dead, .dead, .dead, .dead, .dead, .dead, .dead, .dead, .dead, .dead, .dead, .dead, .dead, .dead, .hole .bool, .dead, .dead, .dead, .dead, .dead, .dead, .dead, .dead, .dead, .dead, .dead, .dead], [], [some (.int .u8)]⟩
@[reducible] noncomputable def f57_p0_outs : List (Ex × Shape) := [(.normal, f57_p0_o0)]
@[reducible] noncomputable def f57_p0_a : Ann Tryd.prog 0 true (f57_c.cr.cr.cl.cb.cb.cr.cl.cb.cr.cl.cl) := (.leaf _)
noncomputable def f57_p0_F (y : f57_p0_sh.den) : Option (OutDen f57_p0_outs) := evA f57_E f57_p0_a (fill f57_p0_sh y) (packOut f57_p0_outs)
theorem f57_p0_ok : PieceSound Tryd.prog 0 true (f57_c.cr.cr.cl.cb.cb.cr.cl.cb.cr.cl.cl) f57_p0_sh f57_p0_outs f57_p0_F := piece_of (f57_E_okE) f57_p0_a rfl rfl fun _ => rfl
@[reducible] noncomputable def f57_p1_sh : Shape := ⟨[.hole .str, .dead, .dead, .dead, .whole 0, .dead, .dead, .dead, .dead, .dead, .dead, .dead, .dead, .dead, .dead, .dead, .dead, .dead, .dead, .dead, .dead, .dead, .dead, .dead, .dead, .dead, .dead, .dead, .dead, .dead, .dead, .dead, .dead, .dead, .dead, .dead], [], [some (.int .u8)]⟩
@[reducible] noncomputable def f57_p1_o0 : Shape := ⟨[.hole .str, .dead, .dead, .dead, .whole 0, .dead, .dead, .dead, .dead, .dead, .dead, .dead, .dead, .dead, .dead, .dead, .dead, .dead, .dead, .dead, .dead, .dead, .dead, .dead, .dead, .dead, .dead, .dead, .dead, .dead, .dead, .dead, .dead, .dead, .dead, .dead], [], [some (.int .u8)]⟩
@[reducible] noncomputable def f57_p1_o1 : Shape := ⟨[.dead, .dead, .hole .str, .hole (.int .i64), .dead, .dead, .dead, .dead, .dead, .dead, .dead, .dead, .dead, .dead, .dead, .dead, .dead, .dead, .dead, .dead, .dead, .dead, .dead, .dead, .dead, .dead, .dead, .dead, .dead, .dead, .dead, .dead, .dead, .dead, .dead, .dead], [], []⟩
@[reducible] noncomputable def f57_p1_outs : List (Ex × Shape) := [(.exit 0, f57_p1_o0), (.ret, f57_p1_o1)]
@[reducible] noncomputable def f57_p1_a : Ann Tryd.prog 0 true (f57_c.cr.cr.cl.cb.cb) := (.seq (.leaf _) (.seq (.block (.seq (.leaf _) (.seq (.seq (.piece _ _ _ f57_p0_ok) (.leaf _)) (.leaf _)))) (.leaf _)))
noncomputable def f57_p1_st (rec : f57_p1_sh.den → Option (OutDen f57_p1_outs)) (y : f57_p1_sh.den) : Option (OutDen f57_p1_outs) := evA f57_E f57_p1_a (fill f57_p1_sh y) fun ex st => match ex with | .normal => (abs f57_p1_sh st).bind rec | e => packOut f57_p1_outs e st
theorem f57_p1_ok : PieceSound Tryd.prog 0 true (.loop (f57_c.cr.cr.cl.cb.cb)) f57_p1_sh f57_p1_outs (go f57_p1_st) := go_of (f57_E_okE) f57_p1_a rfl rfl fun _ _ => rfl
@[reducible] noncomputable def f57_ps : List KD := [.one .str]
@[reducible] noncomputable def f57_rs : List KD := [.one .str, .one (.int .i64)]
@[reducible] noncomputable def f57_a : Ann Tryd.prog 0 true f57_c := (.seq (.leaf _) (.seq (.leaf _) (.seq (.block (.piece _ _ _ f57_p1_ok)) (.leaf _))))
noncomputable def f57_F (y : argsDen f57_ps) : Option (argsDen f57_rs) := evFunA f57_E Tryd.f57 f57_a (encArgs f57_ps y) (decRes f57_rs)
theorem f57_ok : Sound Tryd.prog 57 (pfun f57_F) := sound_of (c := f57_c) (f57_E_okE) (by kernel_rfl) (by kernel_rfl) (by kernel_rfl) f57_a (fun _ => rfl)
@[reducible] noncomputable def f38_c : Code := codeOf Tryd.f38
@[reducible] noncomputable def f38_E : Env := envOf Tryd.prog 9999 [rowOf true f57_ok] []
theorem f38_E_okE : EnvOk Tryd.prog f38_E := envOf_ok _ _ _ mixed
@[reducible] noncomputable def f38_ps : List KD := [.one .str]
@[reducible] noncomputable def f38_rs : List KD := [.one .str]
@[reducible] noncomputable def f38_a : Ann Tryd.prog 0 true f38_c := (.leaf _)
noncomputable def f38_F (y : argsDen f38_ps) : Option (argsDen f38_rs) := evFunA f38_E Tryd.f38 f38_a (encArgs f38_ps y) (decRes f38_rs)
theorem f38_ok : Sound Tryd.prog 38 (pfun f38_F) := sound_of (c := f38_c) (f38_E_okE) (by kernel_rfl) (by kernel_rfl) (by kernel_rfl) f38_a (fun _ => rfl)
@[reducible] noncomputable def f17_c : Code := codeOf Tryd.f17
@[reducible] noncomputable def h17_E : Env := envOf Tryd.prog 9999 [rowOf false split_ok, rowOf true f38_ok, rowOf true number_ok, rowOf true f21_ok, rowOf true f15_ok] []
theorem h17_E_okE : EnvOk Tryd.prog h17_E := envOf_ok _ _ _ mixed
@[reducible] noncomputable def h17_p0_sh : Shape := ⟨[.hole .str, .dead, .ptr 0 0, .dead, .dead, .ptr 1 0, .dead, .dead, .dead, .dead, .dead, .dead, .dead, .dead, .dead, .dead, .dead, .dead, .dead, .dead, .dead, .dead, .dead, .dead, .dead, .dead, .dead, .dead, .hole (.list .str), .hole (.int .i64), .hole (.int .i64), .dead, .dead, .dead, .dead, .dead, .dead, .dead, .dead, .dead, .dead, .dead, .dead, .dead, .dead, .dead, .dead, .dead, .dead, .dead, .dead], [some [.nilS, .hole .str, .hole (.int .i64), .hole (.int .i64), .nilS], some [.whole 0, .hole .str, .hole (.int .i64), .hole (.int .i64), .nilS]], [some .str]⟩
@[reducible] noncomputable def h17_p0_o0 : Shape := ⟨[.hole .str, .dead, .ptr 0 0, .dead, .dead, .ptr 1 0, .dead, .dead, .dead, .dead, .dead, .dead, .dead, .dead, .dead, .dead, .dead, .dead, .dead, .dead, .dead, .dead, .dead, .dead, .dead, .dead, .dead, .dead, .dead, .dead, .dead, .dead, .dead, .dead, .dead, .dead, .dead, .dead, .dead, .dead, .dead, .dead, .dead, .dead, .dead, .dead, .dead, .dead, .dead, .dead, .dead], [some [.nilS, .hole .str, .hole (.int .i64), .hole (.int .i64), .nilS], some [.whole 0, .hole .str, .hole (.int .i64), .hole (.int .i64), .nilS]], [some .str]⟩
@[reducible] noncomputable def h17_p0_outs : List (Ex × Shape) := [(.exit 0, h17_p0_o0)]
@[reducible] noncomputable def h17_p0_a : Ann Tryd.prog 0 true (f17_c.cr.cr.cr.cr.cl.cr.cb.cb) := (.leaf _)
noncomputable def h17_p0_st (rec : h17_p0_sh.den → Option (OutDen h17_p0_outs)) (y : h17_p0_sh.den) : Option (OutDen h17_p0_outs) := evA h17_E h17_p0_a (fill h17_p0_sh y) fun ex st => match ex with | .normal => (abs h17_p0_sh st).bind rec | e => packOut h17_p0_outs e st
theorem h17_p0_ok : PieceSound Tryd.prog 0 true (.loop (f17_c.cr.cr.cr.cr.cl.cr.cb.cb)) h17_p0_sh h17_p0_outs (go h17_p0_st) := go_of (h17_E_okE) h17_p0_a rfl rfl fun _ _ => rfl
@[reducible] noncomputable def h17_I : Shape := ⟨[.hole .str], [], []⟩
@[reducible] noncomputable def h17_O : Shape := ⟨[.agg [.whole 0, .hole .str, .hole (.int .i64), .hole (.int .i64), .nilS], .hole .bool], [], [some .str]⟩
@[reducible] noncomputable def h17_a : Ann Tryd.prog 0 true f17_c := (.seq (.leaf _) (.seq (.leaf _) (.seq (.leaf _) (.seq (.leaf _) (.seq (.seq (.leaf _) (.block (.piece _ _ _ h17_p0_ok))) (.leaf _))))))
noncomputable def h17_F (y : h17_I.den) : Option h17_O.den := evFunH h17_E Tryd.f17 h17_a h17_I h17_O y
theorem h17_ok : SoundH Tryd.prog 17 ⟨h17_I, h17_O, h17_F⟩ := sound_ofH (I := h17_I) (O := h17_O) (c := f17_c) (h17_E_okE) (by kernel_rfl) (by kernel_rfl) (by kernel_rfl) h17_a rfl rfl (fun _ => rfl)
@[reducible] noncomputable def f18_c : Code := codeOf Tryd.f18
@[reducible] noncomputable def f18_E : Env := envOf Tryd.prog 9999 [rowOf false split_ok, rowOf true trim_ok, rowOf true f38_ok, rowOf true number_ok, rowOf true f24_ok, rowOf true f16_ok] [⟨36, _, h36_ok⟩]
theorem f18_E_okE : EnvOk Tryd.prog f18_E := envOf_ok _ _ _ mixed
@[reducible] noncomputable def f18_p0_sh : Shape := ⟨[.hole .str, .dead, .ptr 0 0, .dead, .dead, .dead, .ptr 1 0, .ptr 2 0, .dead, .dead, .dead, .dead, .dead, .dead, .dead, .dead, .dead, .dead, .dead, .dead, .dead, .dead, .dead, .dead, .dead, .dead, .dead, .dead, .dead, .dead, .dead, .dead, .dead, .dead, .dead, .dead, .dead, .dead, .dead, .hole (.list .str), .hole (.int .i64), .hole (.int .i64), .dead, .dead, .dead, .dead, .dead, .dead, .dead, .dead, .dead, .dead, .dead, .dead, .dead, .dead, .dead, .dead, .dead, .dead, .dead, .dead, .dead, .dead, .dead, .dead, .dead, .dead, .dead, .dead, .dead, .dead, .dead, .dead, .dead, .dead], [some [.hole (.int .i64), .nilS, .nilS], some [.hole .str, .hole (.int .i64), .hole (.int .i64)], some [.hole (.int .i64), .whole 0, .whole 1]], [some .str, some (.int .i64)]⟩
@[reducible] noncomputable def f18_p0_o0 : Shape := ⟨[.hole .str, .dead, .ptr 0 0, .dead, .dead, .dead, .ptr 1 0, .ptr 2 0, .dead, .dead, .dead, .dead, .dead, .dead, .dead, .dead, .dead, .dead, .dead, .dead, .dead, .dead, .dead, .dead, .dead, .dead, .dead, .dead, .dead, .dead, .dead, .dead, .dead, .dead, .dead, .dead, .dead, .dead, .dead, .hole (.list .str), .hole (.int .i64), .hole (.int .i64), .dead, .dead, .dead, .dead, .dead, .dead, .dead, .dead, .dead, .dead, .dead, .dead, .dead, .dead, .dead, .dead, .dead, .dead, .dead, .dead, .dead, .dead, .dead, .dead, .dead, .dead, .dead, .dead, .dead, .dead, .dead, .dead, .dead, .dead], [some [.hole (.int .i64), .nilS, .nilS], some [.hole .str, .hole (.int .i64), .hole (.int .i64)], some [.hole (.int .i64), .whole 0, .whole 1]], [some .str, some (.int .i64)]⟩
@[reducible] noncomputable def f18_p0_outs : List (Ex × Shape) := [(.normal, f18_p0_o0)]
@[reducible] noncomputable def f18_p0_a : Ann Tryd.prog 0 true (f18_c.cr.cr.cl.cr.cb.cb.cr.cr.cb.cr.cr.cr.cl.cr.cb.cb.cr.cr.cl) := (.leaf _)
noncomputable def f18_p0_F (y : f18_p0_sh.den) : Option (OutDen f18_p0_outs) := evA f18_E f18_p0_a (fill f18_p0_sh y) (packOut f18_p0_outs)
theorem f18_p0_ok : PieceSound Tryd.prog 0 true (f18_c.cr.cr.cl.cr.cb.cb.cr.cr.cb.cr.cr.cr.cl.cr.cb.cb.cr.cr.cl) f18_p0_sh f18_p0_outs f18_p0_F := piece_of (f18_E_okE) f18_p0_a rfl rfl fun _ => rfl
@[reducible] noncomputable def f18_p1_sh : Shape := ⟨[.hole .str, .dead, .ptr 0 0, .dead, .dead, .dead, .ptr 1 0, .ptr 2 0, .dead, .dead, .dead, .dead, .dead, .dead, .dead, .dead, .dead, .dead, .dead, .dead, .dead, .dead, .dead, .dead, .dead, .dead, .dead, .dead, .dead, .dead, .dead, .dead, .dead, .dead, .dead, .dead, .dead, .dead, .dead, .hole (.list .str), .hole (.int .i64), .hole (.int .i64), .dead, .dead, .dead, .dead, .dead, .dead, .dead, .dead, .dead, .dead, .dead, .dead, .dead, .dead, .dead, .dead, .dead, .dead, .dead, .dead, .dead, .dead, .dead, .dead, .dead, .dead, .dead, .dead, .dead, .dead, .dead, .dead, .dead, .dead], [some [.hole (.int .i64), .nilS, .nilS], some [.hole .str, .hole (.int .i64), .hole (.int .i64)], some [.hole (.int .i64), .whole 0, .whole 1]], [some .str, some (.int .i64)]⟩
@[reducible] noncomputable def f18_p1_o0 : Shape := ⟨[.hole .str, .dead, .ptr 0 0, .dead, .dead, .dead, .dead, .ptr 2 0, .dead, .dead, .dead, .dead, .dead, .dead, .dead, .dead, .dead, .dead, .dead, .dead, .dead, .dead, .dead, .dead, .dead, .dead, .dead, .dead, .dead, .dead, .dead, .dead, .dead, .dead, .dead, .dead, .dead, .dead, .dead, .dead, .dead, .dead, .dead, .dead, .dead, .dead, .dead, .dead, .dead, .dead, .dead, .dead, .dead, .dead, .dead, .dead, .dead, .dead, .dead, .dead, .dead, .dead, .dead, .dead, .dead, .dead, .dead, .dead, .dead, .dead, .dead, .dead, .dead, .dead, .dead, .dead], [some [.hole (.int .i64), .nilS, .nilS], none, some [.hole (.int .i64), .whole 0, .whole 1]], [some .str, some (.int .i64)]⟩
@[reducible] noncomputable def f18_p1_outs : List (Ex × Shape) := [(.exit 2, f18_p1_o0)]
@[reducible] noncomputable def f18_p1_a : Ann Tryd.prog 0 true (f18_c.cr.cr.cl.cr.cb.cb.cr.cr.cb.cr.cr.cr.cl.cr.cb.cb) := (.seq (.leaf _) (.seq (.leaf _) (.seq (.piece _ _ _ f18_p0_ok) (.leaf _))))
noncomputable def f18_p1_st (rec : f18_p1_sh.den → Option (OutDen f18_p1_outs)) (y : f18_p1_sh.den) : Option (OutDen f18_p1_outs) := evA f18_E f18_p1_a (fill f18_p1_sh y) fun ex st => match ex with | .normal => (abs f18_p1_sh st).bind rec | e => packOut f18_p1_outs e st
theorem f18_p1_ok : PieceSound Tryd.prog 0 true (.loop (f18_c.cr.cr.cl.cr.cb.cb.cr.cr.cb.cr.cr.cr.cl.cr.cb.cb)) f18_p1_sh f18_p1_outs (go f18_p1_st) := go_of (f18_E_okE) f18_p1_a rfl rfl fun _ _ => rfl
@[reducible] noncomputable def f18_p2_sh : Shape := ⟨[.hole .str, .dead, .ptr 0 0, .dead, .hole (.list .str), .dead, .dead, .dead, .dead, .dead, .dead, .dead, .dead, .dead, .dead, .dead, .dead, .dead, .dead, .dead, .dead, .dead, .dead, .dead, .dead, .dead, .dead, .dead, .dead, .dead, .dead, .dead, .dead, .dead, .dead, .dead, .dead, .dead, .dead, .dead, .dead, .dead, .dead, .dead, .dead, .dead, .dead, .dead, .dead, .dead, .dead, .dead, .dead, .dead, .dead, .dead, .dead, .dead, .dead, .dead, .dead, .dead, .dead, .dead, .dead, .dead, .dead, .dead, .dead, .dead, .dead, .dead, .dead, .dead, .dead, .dead], [some [.hole (.int .i64), .nilS, .nilS]], []⟩
@[reducible] noncomputable def f18_p2_o0 : Shape := ⟨[.dead, .dead, .ptr 0 0, .dead, .dead, .dead, .dead, .dead, .dead, .dead, .dead, .dead, .dead, .dead, .dead, .dead, .dead, .dead, .dead, .dead, .dead, .dead, .dead, .dead, .dead, .dead, .dead, .dead, .dead, .dead, .dead, .dead, .dead, .dead, .dead, .dead, .dead, .dead, .dead, .dead, .dead, .dead, .dead, .dead, .dead, .dead, .dead, .dead, .dead, .dead, .dead, .dead, .dead, .dead, .dead, .dead, .dead, .dead, .dead, .dead, .dead, .dead, .dead, .dead, .dead, .dead, .dead, .dead, .dead, .dead, .dead, .dead, .dead, .dead, .dead, .dead], [some [.hole (.int .i64), .nilS, .nilS]], []⟩
@[reducible] noncomputable def f18_p2_o1 : Shape := ⟨[.dead, .dead, .ptr 0 0, .hole .bool, .dead, .dead, .dead, .dead, .dead, .dead, .dead, .dead, .dead, .dead, .dead, .dead, .dead, .dead, .dead, .dead, .dead, .dead, .dead, .dead, .dead, .dead, .dead, .dead, .dead, .dead, .dead, .dead, .dead, .dead, .dead, .dead, .dead, .dead, .dead, .dead, .dead, .dead, .dead, .dead, .dead, .dead, .dead, .dead, .dead, .dead, .dead, .dead, .dead, .dead, .dead, .dead, .dead, .dead, .dead, .dead, .dead, .dead, .dead, .dead, .dead, .dead, .dead, .dead, .dead, .dead, .dead, .dead, .dead, .dead, .dead, .dead], [some [.hole (.int .i64), .whole 0, .whole 1]], [some .str, some (.int .i64)]⟩
@[reducible] noncomputable def f18_p2_outs : List (Ex × Shape) := [(.normal, f18_p2_o0), (.ret, f18_p2_o1)]
@[reducible] noncomputable def f18_p2_hd : Shape := ⟨[.hole .str, .dead, .ptr 0 0, .dead, .hole (.list .str), .dead, .dead, .dead, .dead, .dead, .dead, .dead, .dead, .dead, .dead, .dead, .dead, .dead, .dead, .dead, .dead, .dead, .dead, .dead, .dead, .dead, .dead, .dead, .dead, .dead, .dead, .dead, .dead, .dead, .dead, .dead, .dead, .dead, .dead, .dead, .dead, .dead, .dead, .dead, .dead, .dead, .dead, .dead, .dead, .dead, .dead, .dead, .dead, .dead, .dead, .dead, .dead, .dead, .dead, .dead, .dead, .dead, .dead, .dead, .dead, .dead, .dead, .dead, .dead, .dead, .dead, .dead, .dead, .dead, .dead, .dead], [some [.hole (.int .i64), .nilS, .nilS]], []⟩
@[reducible] noncomputable def f18_p2_aB : Ann Tryd.prog 0 true (f18_c.cr.cr.cl.cr.cb.cb.cr.cr.cb.cr) := (.seq (.leaf _) (.seq (.leaf _) (.seq (.seq (.leaf _) (.block (.piece _ _ _ f18_p1_ok))) (.leaf _))))
@[reducible] noncomputable def f18_p2_ops0 : Array Oper := (f18_c.cr.cr.cl.cl).opsOf
@[reducible] noncomputable def f18_p2_ops1 : Array Oper := (f18_c.cr.cr.cl.cr.cb.cb.cl).opsOf
@[reducible] noncomputable def f18_p2_ops2 : Array Oper := (f18_c.cr.cr.cl.cr.cb.cb.cr.cr.cb.cl).opsOf
noncomputable def f18_p2_st (y : f18_p2_hd.den) (e : ((.int .i64) : Ty).den × ((.prod .str (.prod (.int .i64) (.int .i64))) : Ty).den) : Option (f18_p2_hd.den ⊕ OutDen f18_p2_outs) := mrStep f18_E f18_p2_aB f18_p2_ops1 f18_p2_ops2 [1] [1, 2, 3, 4, 5] 14 15 16 13 1 0 f18_p2_hd f18_p2_outs y (entAV (.int .i64) (.prod .str (.prod (.int .i64) (.int .i64))) true e)
noncomputable def f18_p2_fin (y : f18_p2_hd.den) : Option (OutDen f18_p2_outs) := mrFin f18_E f18_p2_ops1 [1] 14 15 13 f18_p2_hd f18_p2_outs y
noncomputable def f18_p2_F (y : f18_p2_sh.den) : Option (OutDen f18_p2_outs) := mrF f18_E f18_p2_ops0 [0] (.tmp 12) 61 f18_p2_sh f18_p2_hd (mrStep f18_E f18_p2_aB f18_p2_ops1 f18_p2_ops2 [1] [1, 2, 3, 4, 5] 14 15 16 13 1 0 f18_p2_hd f18_p2_outs) f18_p2_fin y
theorem f18_p2_ok : PieceSound Tryd.prog 0 true (f18_c.cr.cr.cl) f18_p2_sh f18_p2_outs f18_p2_F := mrange_at (id0 := 2) (id1 := 3) (id2 := 4) (j := 0) (k := 1) (it := 13) (d1 := 14) (t1 := 15) (d2 := 16) (tM := 61) (n0 := 1) (m := (.tmp 12)) (ops0 := f18_p2_ops0) (ops1 := f18_p2_ops1) (ops2 := f18_p2_ops2) (f18_E_okE) f18_p2_aB (l0 := [0]) (l1 := [1]) (l2 := [1, 2, 3, 4, 5]) (sh := f18_p2_hd) (by kernel_rfl) (by kernel_rfl) (by kernel_rfl) (by kernel_rfl) (by kernel_rfl) (by kernel_rfl) (by kernel_rfl) (by kernel_rfl) (fun _ => rfl) rfl rfl rfl (by kernel_rfl) (by kernel_rfl) (fun _ => rfl)
@[reducible] noncomputable def f18_ps : List KD := [.one .str]
@[reducible] noncomputable def f18_rs : List KD := [.agg [(.int .i64), (.list .str), (.list (.int .i64))], .one .bool]
@[reducible] noncomputable def f18_a : Ann Tryd.prog 0 true f18_c := (.seq (.leaf _) (.seq (.leaf _) (.seq (.piece _ _ _ f18_p2_ok) (.leaf _))))
noncomputable def f18_F (y : argsDen f18_ps) : Option (argsDen f18_rs) := evFunA f18_E Tryd.f18 f18_a (encArgs f18_ps y) (decRes f18_rs)
theorem f18_ok : Sound Tryd.prog 18 (pfun f18_F) := sound_of (c := f18_c) (f18_E_okE) (by kernel_rfl) (by kernel_rfl) (by kernel_rfl) f18_a (fun _ => rfl)
@[reducible] noncomputable def f7_c : Code := codeOf Tryd.f7
@[reducible] noncomputable def f7_E : Env := envOf Tryd.prog 9999 [rowOf true cut_ok, rowOf false f18_ok] [⟨17, _, h17_ok⟩]
theorem f7_E_okE : EnvOk Tryd.prog f7_E := envOf_ok _ _ _ mixed
@[reducible] noncomputable def f7_p0_sh : Shape := ⟨[.dead, .dead, .ptr 0 0, .dead, .dead, .dead, .hole .str, .hole .bool, .ptr 1 0, .dead, .hole (.int .i64), .ptr 2 0, .hole .bool, .dead, .dead, .dead, .dead, .dead, .dead, .dead, .dead, .dead, .dead, .dead, .dead, .dead, .dead, .dead, .dead, .dead, .dead, .dead, .dead, .dead, .dead, .dead, .dead, .dead, .dead, .dead, .dead, .dead, .dead, .dead, .dead, .dead, .dead, .dead, .dead, .dead, .dead, .dead, .dead, .dead, .dead, .dead, .dead, .dead, .dead, .dead, .dead, .dead, .dead, .dead, .dead, .dead, .dead], [some [.nilS, .hole .str, .hole (.int .i64), .hole (.int .i64), .nilS], some [.whole 0, .hole .str, .hole (.int .i64), .hole (.int .i64), .whole 1], some [.hole (.int .i64), .hole (.list .str), .hole (.list (.int .i64))]], [some .str, some (.prod (.int .i64) (.prod (.list .str) (.list (.int .i64))))]⟩
@[reducible] noncomputable def f7_p0_o0 : Shape := ⟨[.dead, .dead, .ptr 0 0, .dead, .dead, .dead, .hole .str, .dead, .ptr 1 0, .dead, .hole (.int .i64), .ptr 2 0, .dead, .dead, .dead, .dead, .dead, .dead, .dead, .dead, .dead, .dead, .dead, .dead, .dead, .dead, .dead, .dead, .dead, .dead, .dead, .dead, .dead, .dead, .dead, .dead, .dead, .dead, .dead, .dead, .dead, .dead, .dead, .dead, .dead, .dead, .dead, .dead, .dead, .dead, .dead, .dead, .dead, .dead, .dead, .dead, .dead, .hole .bool, .dead, .dead, .dead, .dead, .dead, .dead, .dead, .dead, .dead], [some [.nilS, .hole .str, .hole (.int .i64), .hole (.int .i64), .nilS], some [.whole 0, .hole .str, .hole (.int .i64), .hole (.int .i64), .whole 1], some [.hole (.int .i64), .hole (.list .str), .hole (.list (.int .i64))]], [some .str, some (.prod (.int .i64) (.prod (.list .str) (.list (.int .i64))))]⟩
@[reducible] noncomputable def f7_p0_outs : List (Ex × Shape) := [(.normal, f7_p0_o0)]
@[reducible] noncomputable def f7_p0_a : Ann Tryd.prog 0 true (f7_c.cr.cr.cr.cr.cl.cr.cb.cb.cr.cl.cb.cr.cr.cl.cl) := (.leaf _)
noncomputable def f7_p0_F (y : f7_p0_sh.den) : Option (OutDen f7_p0_outs) := evA f7_E f7_p0_a (fill f7_p0_sh y) (packOut f7_p0_outs)
theorem f7_p0_ok : PieceSound Tryd.prog 0 true (f7_c.cr.cr.cr.cr.cl.cr.cb.cb.cr.cl.cb.cr.cr.cl.cl) f7_p0_sh f7_p0_outs f7_p0_F := piece_of (f7_E_okE) f7_p0_a rfl rfl fun _ => rfl
@[reducible] noncomputable def f7_p1_sh : Shape := ⟨[.dead, .dead, .ptr 0 0, .dead, .dead, .dead, .hole .str, .dead, .ptr 1 0, .dead, .hole (.int .i64), .dead, .dead, .dead, .dead, .dead, .dead, .dead, .dead, .dead, .dead, .dead, .dead, .dead, .dead, .dead, .dead, .dead, .dead, .dead, .dead, .dead, .dead, .dead, .dead, .dead, .dead, .dead, .dead, .dead, .dead, .dead, .dead, .dead, .dead, .dead, .dead, .dead, .dead, .dead, .dead, .dead, .dead, .dead, .dead, .dead, .dead, .dead, .dead, .dead, .dead, .dead, .dead, .dead, .dead, .dead, .dead], [some [.nilS, .hole .str, .hole (.int .i64), .hole (.int .i64), .nilS], some [.whole 0, .hole .str, .hole (.int .i64), .hole (.int .i64), .whole 1]], [some .str, some (.prod (.int .i64) (.prod (.list .str) (.list (.int .i64))))]⟩
@[reducible] noncomputable def f7_p1_o0 : Shape := ⟨[.dead, .dead, .ptr 0 0, .dead, .dead, .dead, .dead, .dead, .ptr 1 0, .dead, .dead, .dead, .dead, .dead, .dead, .dead, .dead, .dead, .dead, .dead, .dead, .dead, .dead, .dead, .dead, .dead, .dead, .dead, .dead, .dead, .dead, .dead, .dead, .dead, .dead, .dead, .dead, .dead, .dead, .dead, .dead, .dead, .dead, .dead, .dead, .dead, .dead, .dead, .dead, .dead, .dead, .dead, .dead, .dead, .dead, .dead, .dead, .dead, .dead, .dead, .dead, .dead, .dead, .dead, .dead, .dead, .dead], [some [.nilS, .hole .str, .hole (.int .i64), .hole (.int .i64), .nilS], some [.whole 0, .hole .str, .hole (.int .i64), .hole (.int .i64), .whole 1]], [some .str, some (.prod (.int .i64) (.prod (.list .str) (.list (.int .i64))))]⟩
@[reducible] noncomputable def f7_p1_o1 : Shape := ⟨[.dead, .dead, .ptr 0 0, .hole (.int .i64), .hole (.int .i64), .dead, .dead, .dead, .dead, .dead, .dead, .dead, .dead, .dead, .dead, .dead, .dead, .dead, .dead, .dead, .dead, .dead, .dead, .dead, .dead, .dead, .dead, .dead, .dead, .dead, .dead, .dead, .dead, .dead, .dead, .dead, .dead, .dead, .dead, .dead, .dead, .dead, .dead, .dead, .dead, .dead, .dead, .dead, .dead, .dead, .dead, .dead, .dead, .dead, .dead, .dead, .dead, .dead, .dead, .dead, .dead, .dead, .dead, .dead, .dead, .dead, .dead], [some [.nilS, .hole .str, .hole (.int .i64), .hole (.int .i64), .nilS]], []⟩
@[reducible] noncomputable def f7_p1_outs : List (Ex × Shape) := [(.exit 0, f7_p1_o0), (.ret, f7_p1_o1)]
@[reducible] noncomputable def f7_p1_a : Ann Tryd.prog 0 true (f7_c.cr.cr.cr.cr.cl.cr.cb.cb) := (.seq (.leaf _) (.seq (.block (.seq (.leaf _) (.seq (.leaf _) (.seq (.seq (.piece _ _ _ f7_p0_ok) (.leaf _)) (.leaf _))))) (.leaf _)))
noncomputable def f7_p1_st (rec : f7_p1_sh.den → Option (OutDen f7_p1_outs)) (y : f7_p1_sh.den) : Option (OutDen f7_p1_outs) := evA f7_E f7_p1_a (fill f7_p1_sh y) fun ex st => match ex with | .normal => (abs f7_p1_sh st).bind rec | e => packOut f7_p1_outs e st
theorem f7_p1_ok : PieceSound Tryd.prog 0 true (.loop (f7_c.cr.cr.cr.cr.cl.cr.cb.cb)) f7_p1_sh f7_p1_outs (go f7_p1_st) := go_of (f7_E_okE) f7_p1_a rfl rfl fun _ _ => rfl
@[reducible] noncomputable def f7_p2_sh : Shape := ⟨[.dead, .dead, .ptr 0 0, .dead, .dead, .dead, .hole .str, .hole .bool, .ptr 1 0, .hole .bool, .dead, .dead, .dead, .dead, .dead, .dead, .dead, .dead, .dead, .dead, .dead, .dead, .dead, .dead, .dead, .dead, .dead, .dead, .dead, .dead, .dead, .dead, .dead, .dead, .dead, .dead, .dead, .dead, .dead, .dead, .dead, .dead, .dead, .dead, .dead, .dead, .dead, .dead, .dead, .dead, .dead, .dead, .dead, .dead, .dead, .dead, .dead, .dead, .dead, .dead, .dead, .dead, .dead, .dead, .dead, .dead, .dead], [some [.nilS, .hole .str, .hole (.int .i64), .hole (.int .i64), .nilS], some [.whole 0, .hole .str, .hole (.int .i64), .hole (.int .i64), .nilS]], [some .str]⟩
@[reducible] noncomputable def f7_p2_o0 : Shape := ⟨[.dead, .dead, .ptr 0 0, .dead, .dead, .dead, .hole .str, .dead, .ptr 1 0, .dead, .dead, .dead, .dead, .dead, .dead, .dead, .dead, .dead, .dead, .dead, .dead, .dead, .dead, .dead, .dead, .dead, .dead, .dead, .dead, .hole .bool, .dead, .dead, .dead, .dead, .dead, .dead, .dead, .dead, .dead, .dead, .dead, .dead, .dead, .dead, .dead, .dead, .dead, .dead, .dead, .dead, .dead, .dead, .dead, .dead, .dead, .dead, .dead, .dead, .dead, .dead, .dead, .dead, .dead, .dead, .dead, .dead, .dead], [some [.nilS, .hole .str, .hole (.int .i64), .hole (.int .i64), .nilS], some [.whole 0, .hole .str, .hole (.int .i64), .hole (.int .i64), .nilS]], [some .str]⟩
@[reducible] noncomputable def f7_p2_outs : List (Ex × Shape) := [(.normal, f7_p2_o0)]
@[reducible] noncomputable def f7_p2_a : Ann Tryd.prog 0 true (f7_c.cr.cr.cr.cl.cl) := (.leaf _)
noncomputable def f7_p2_F (y : f7_p2_sh.den) : Option (OutDen f7_p2_outs) := evA f7_E f7_p2_a (fill f7_p2_sh y) (packOut f7_p2_outs)
theorem f7_p2_ok : PieceSound Tryd.prog 0 true (f7_c.cr.cr.cr.cl.cl) f7_p2_sh f7_p2_outs f7_p2_F := piece_of (f7_E_okE) f7_p2_a rfl rfl fun _ => rfl
@[reducible] noncomputable def f7_ps : List KD := [.one .str]
@[reducible] noncomputable def f7_rs : List KD := [.agg [(.list .str), .str, (.int .i64), (.int .i64), (.list (.prod (.int .i64) (.prod (.list .str) (.list (.int .i64)))))], .one (.int .i64), .one (.int .i64)]
@[reducible] noncomputable def f7_a : Ann Tryd.prog 0 true f7_c := (.seq (.leaf _) (.seq (.leaf _) (.seq (.leaf _) (.seq (.seq (.piece _ _ _ f7_p2_ok) (.leaf _)) (.seq (.seq (.leaf _) (.block (.piece _ _ _ f7_p1_ok))) (.leaf _))))))
noncomputable def f7_F (y : argsDen f7_ps) : Option (argsDen f7_rs) := evFunA f7_E Tryd.f7 f7_a (encArgs f7_ps y) (decRes f7_rs)
theorem f7_ok : Sound Tryd.prog 7 (pfun f7_F) := sound_of (c := f7_c) (f7_E_okE) (by kernel_rfl) (by kernel_rfl) (by kernel_rfl) f7_a (fun _ => rfl)
@[reducible] noncomputable def f19_c : Code := codeOf Tryd.f19
@[reducible] noncomputable def f19_E : Env := envOf Tryd.prog 9999 [] []
theorem f19_E_okE : EnvOk Tryd.prog f19_E := envOf_ok _ _ _ mixed
@[reducible] noncomputable def f19_p0_sh : Shape := ⟨[.hole (.list .str), .hole (.list .str), .dead, .dead, .dead, .dead, .dead, .dead, .dead, .dead, .dead, .dead, .hole (.int .i64), .hole (.int .i64), .dead, .dead, .dead, .dead, .dead, .dead, .dead, .dead, .dead, .dead, .dead, .dead], [], []⟩
@[reducible] noncomputable def f19_p0_o0 : Shape := ⟨[.dead, .dead, .dead, .dead, .dead, .dead, .dead, .dead, .dead, .dead, .dead, .dead, .dead, .dead, .dead, .dead, .dead, .dead, .dead, .dead, .dead, .dead, .dead, .dead, .dead, .dead], [], []⟩
@[reducible] noncomputable def f19_p0_o1 : Shape := ⟨[.dead, .dead, .dead, .dead, .hole .bool, .dead, .dead, .dead, .dead, .dead, .dead, .dead, .dead, .dead, .dead, .dead, .dead, .dead, .dead, .dead, .dead, .dead, .dead, .dead, .dead, .dead], [], []⟩
@[reducible] noncomputable def f19_p0_outs : List (Ex × Shape) := [(.exit 0, f19_p0_o0), (.ret, f19_p0_o1)]
@[reducible] noncomputable def f19_p0_a : Ann Tryd.prog 0 true (f19_c.cr.cr.cl.cr.cb.cb) := (.leaf _)
noncomputable def f19_p0_st (rec : f19_p0_sh.den → Option (OutDen f19_p0_outs)) (y : f19_p0_sh.den) : Option (OutDen f19_p0_outs) := evA f19_E f19_p0_a (fill f19_p0_sh y) fun ex st => match ex with | .normal => (abs f19_p0_sh st).bind rec | e => packOut f19_p0_outs e st
theorem f19_p0_ok : PieceSound Tryd.prog 0 true (.loop (f19_c.cr.cr.cl.cr.cb.cb)) f19_p0_sh f19_p0_outs (go f19_p0_st) := go_of (f19_E_okE) f19_p0_a rfl rfl fun _ _ => rfl
@[reducible] noncomputable def f19_ps : List KD := [.one (.list .str), .one (.list .str)]
@[reducible] noncomputable def f19_rs : List KD := [.one .bool]
@[reducible] noncomputable def f19_a : Ann Tryd.prog 0 true f19_c := (.seq (.leaf _) (.seq (.leaf _) (.seq (.seq (.leaf _) (.block (.piece _ _ _ f19_p0_ok))) (.leaf _))))
noncomputable def f19_F (y : argsDen f19_ps) : Option (argsDen f19_rs) := evFunA f19_E Tryd.f19 f19_a (encArgs f19_ps y) (decRes f19_rs)
theorem f19_ok : Sound Tryd.prog 19 (pfun f19_F) := sound_of (c := f19_c) (f19_E_okE) (by kernel_rfl) (by kernel_rfl) (by kernel_rfl) f19_a (fun _ => rfl)
@[reducible] noncomputable def f8_c : Code := codeOf Tryd.f8
@[reducible] noncomputable def f8_E : Env := envOf Tryd.prog 9999 [rowOf true f19_ok] []
theorem f8_E_okE : EnvOk Tryd.prog f8_E := envOf_ok _ _ _ mixed
@[reducible] noncomputable def f8_p0_sh : Shape := ⟨[.dead, .dead, .ptr 0 0, .ptr 1 0, .dead, .dead, .ptr 2 0, .ptr 3 0, .dead, .dead, .dead, .dead, .dead, .dead, .dead, .dead, .dead, .dead, .dead, .dead, .dead, .dead, .dead, .dead, .dead, .dead, .dead, .dead, .dead, .dead, .dead, .dead, .dead, .dead, .dead, .dead, .dead, .dead, .dead, .dead, .dead, .dead, .dead, .dead, .dead, .dead, .dead, .hole (.int .i64), .hole (.int .i64), .dead, .dead, .dead, .dead, .dead, .dead, .dead, .dead, .dead, .dead, .dead, .dead, .dead, .dead, .dead, .dead, .dead, .dead, .dead, .dead, .dead, .dead, .dead, .dead, .dead, .dead, .dead, .dead, .dead, .dead, .dead, .dead, .dead, .dead, .dead, .dead, .hole (.int .i64), .hole (.int .i64), .dead, .dead, .dead, .dead, .dead, .dead, .dead, .dead, .dead, .dead, .dead, .dead, .dead, .dead, .dead], [some [.hole (.list .str), .hole .str, .hole (.int .i64), .hole (.int .i64), .hole (.list (.prod (.int .i64) (.prod (.list .str) (.list (.int .i64)))))], some [.hole (.list .str), .hole .str, .hole (.int .i64), .hole (.int .i64), .hole (.list (.prod (.int .i64) (.prod (.list .str) (.list (.int .i64)))))], some [.hole (.int .i64), .hole (.list .str), .hole (.list (.int .i64))], some [.hole (.int .i64), .hole (.list .str), .hole (.list (.int .i64))]], []⟩
@[reducible] noncomputable def f8_p0_o0 : Shape := ⟨[.dead, .dead, .ptr 0 0, .ptr 1 0, .dead, .dead, .dead, .dead, .dead, .dead, .dead, .dead, .dead, .dead, .dead, .dead, .dead, .dead, .dead, .dead, .dead, .dead, .dead, .dead, .dead, .dead, .dead, .dead, .dead, .dead, .dead, .dead, .dead, .dead, .dead, .dead, .dead, .dead, .dead, .dead, .dead, .dead, .dead, .dead, .dead, .dead, .dead, .hole (.int .i64), .hole (.int .i64), .dead, .dead, .dead, .dead, .dead, .dead, .dead, .dead, .dead, .dead, .dead, .dead, .dead, .dead, .dead, .dead, .dead, .dead, .dead, .dead, .dead, .dead, .dead, .dead, .dead, .dead, .dead, .dead, .dead, .dead, .dead, .dead, .dead, .dead, .dead, .dead, .dead, .dead, .dead, .dead, .dead, .dead, .dead, .dead, .dead, .dead, .dead, .dead, .dead, .dead, .dead, .dead, .dead], [some [.hole (.list .str), .hole .str, .hole (.int .i64), .hole (.int .i64), .hole (.list (.prod (.int .i64) (.prod (.list .str) (.list (.int .i64)))))], some [.hole (.list .str), .hole .str, .hole (.int .i64), .hole (.int .i64), .hole (.list (.prod (.int .i64) (.prod (.list .str) (.list (.int .i64)))))]], []⟩
@[reducible] noncomputable def f8_p0_o1 : Shape := ⟨[.dead, .dead, .dead, .dead, .hole .bool, .dead, .dead, .dead, .dead, .dead, .dead, .dead, .dead, .dead, .dead, .dead, .dead, .dead, .dead, .dead, .dead, .dead, .dead, .dead, .dead, .dead, .dead, .dead, .dead, .dead, .dead, .dead, .dead, .dead, .dead, .dead, .dead, .dead, .dead, .dead, .dead, .dead, .dead, .dead, .dead, .dead, .dead, .dead, .dead, .dead, .dead, .dead, .dead, .dead, .dead, .dead, .dead, .dead, .dead, .dead, .dead, .dead, .dead, .dead, .dead, .dead, .dead, .dead, .dead, .dead, .dead, .dead, .dead, .dead, .dead, .dead, .dead, .dead, .dead, .dead, .dead, .dead, .dead, .dead, .dead, .dead, .dead, .dead, .dead, .dead, .dead, .dead, .dead, .dead, .dead, .dead, .dead, .dead, .dead, .dead, .dead, .dead], [], []⟩
@[reducible] noncomputable def f8_p0_outs : List (Ex × Shape) := [(.exit 2, f8_p0_o0), (.ret, f8_p0_o1)]
@[reducible] noncomputable def f8_p0_a : Ann Tryd.prog 0 true (f8_c.cr.cr.cl.cr.cb.cb.cr.cr.cl.cb.cr.cr.cr.cr.cr.cb.cb) := (.leaf _)
noncomputable def f8_p0_st (rec : f8_p0_sh.den → Option (OutDen f8_p0_outs)) (y : f8_p0_sh.den) : Option (OutDen f8_p0_outs) := evA f8_E f8_p0_a (fill f8_p0_sh y) fun ex st => match ex with | .normal => (abs f8_p0_sh st).bind rec | e => packOut f8_p0_outs e st
theorem f8_p0_ok : PieceSound Tryd.prog 0 true (.loop (f8_c.cr.cr.cl.cr.cb.cb.cr.cr.cl.cb.cr.cr.cr.cr.cr.cb.cb)) f8_p0_sh f8_p0_outs (go f8_p0_st) := go_of (f8_E_okE) f8_p0_a rfl rfl fun _ _ => rfl
@[reducible] noncomputable def f8_p1_sh : Shape := ⟨[.dead, .dead, .ptr 0 0, .ptr 1 0, .dead, .dead, .ptr 2 0, .ptr 3 0, .dead, .dead, .dead, .dead, .dead, .dead, .dead, .dead, .dead, .dead, .dead, .dead, .dead, .dead, .dead, .dead, .dead, .dead, .dead, .dead, .dead, .dead, .dead, .dead, .dead, .dead, .dead, .dead, .dead, .dead, .dead, .dead, .dead, .dead, .dead, .dead, .dead, .dead, .dead, .hole (.int .i64), .hole (.int .i64), .dead, .dead, .dead, .dead, .dead, .dead, .dead, .dead, .dead, .dead, .dead, .dead, .dead, .dead, .dead, .dead, .dead, .dead, .dead, .dead, .dead, .dead, .dead, .dead, .dead, .dead, .dead, .dead, .dead, .dead, .dead, .dead, .dead, .dead, .dead, .dead, .dead, .dead, .dead, .dead, .dead, .dead, .dead, .dead, .dead, .dead, .dead, .dead, .dead, .dead, .dead, .dead, .dead], [some [.hole (.list .str), .hole .str, .hole (.int .i64), .hole (.int .i64), .hole (.list (.prod (.int .i64) (.prod (.list .str) (.list (.int .i64)))))], some [.hole (.list .str), .hole .str, .hole (.int .i64), .hole (.int .i64), .hole (.list (.prod (.int .i64) (.prod (.list .str) (.list (.int .i64)))))], some [.hole (.int .i64), .hole (.list .str), .hole (.list (.int .i64))], some [.hole (.int .i64), .hole (.list .str), .hole (.list (.int .i64))]], []⟩
@[reducible] noncomputable def f8_p1_o0 : Shape := ⟨[.dead, .dead, .ptr 0 0, .ptr 1 0, .dead, .dead, .ptr 2 0, .ptr 3 0, .dead, .dead, .dead, .dead, .dead, .dead, .dead, .dead, .dead, .dead, .dead, .dead, .dead, .dead, .dead, .dead, .dead, .dead, .dead, .dead, .dead, .dead, .dead, .dead, .dead, .dead, .dead, .dead, .dead, .dead, .dead, .dead, .dead, .dead, .dead, .dead, .dead, .dead, .dead, .hole (.int .i64), .hole (.int .i64), .dead, .dead, .dead, .dead, .dead, .dead, .dead, .dead, .dead, .dead, .dead, .dead, .dead, .dead, .dead, .dead, .dead, .dead, .dead, .dead, .dead, .dead, .dead, .dead, .dead, .dead, .dead, .dead, .dead, .dead, .dead, .dead, .dead, .hole .bool, .dead, .dead, .dead, .dead, .dead, .dead, .dead, .dead, .dead, .dead, .dead, .dead, .dead, .dead, .dead, .dead, .dead, .dead, .dead], [some [.hole (.list .str), .hole .str, .hole (.int .i64), .hole (.int .i64), .hole (.list (.prod (.int .i64) (.prod (.list .str) (.list (.int .i64)))))], some [.hole (.list .str), .hole .str, .hole (.int .i64), .hole (.int .i64), .hole (.list (.prod (.int .i64) (.prod (.list .str) (.list (.int .i64)))))], some [.hole (.int .i64), .hole (.list .str), .hole (.list (.int .i64))], some [.hole (.int .i64), .hole (.list .str), .hole (.list (.int .i64))]], []⟩
@[reducible] noncomputable def f8_p1_outs : List (Ex × Shape) := [(.normal, f8_p1_o0)]
@[reducible] noncomputable def f8_p1_a : Ann Tryd.prog 0 true (f8_c.cr.cr.cl.cr.cb.cb.cr.cr.cl.cb.cr.cr.cr.cl.cl) := (.leaf _)
noncomputable def f8_p1_F (y : f8_p1_sh.den) : Option (OutDen f8_p1_outs) := evA f8_E f8_p1_a (fill f8_p1_sh y) (packOut f8_p1_outs)
theorem f8_p1_ok : PieceSound Tryd.prog 0 true (f8_c.cr.cr.cl.cr.cb.cb.cr.cr.cl.cb.cr.cr.cr.cl.cl) f8_p1_sh f8_p1_outs f8_p1_F := piece_of (f8_E_okE) f8_p1_a rfl rfl fun _ => rfl
@[reducible] noncomputable def f8_p2_sh : Shape := ⟨[.dead, .dead, .ptr 0 0, .ptr 1 0, .dead, .dead, .dead, .dead, .dead, .dead, .dead, .dead, .dead, .dead, .dead, .dead, .dead, .dead, .dead, .dead, .dead, .dead, .dead, .dead, .dead, .dead, .dead, .dead, .dead, .dead, .dead, .dead, .dead, .dead, .dead, .dead, .dead, .dead, .dead, .dead, .dead, .dead, .dead, .dead, .dead, .dead, .dead, .hole (.int .i64), .hole (.int .i64), .dead, .dead, .dead, .dead, .dead, .dead, .dead, .dead, .dead, .dead, .dead, .dead, .dead, .dead, .dead, .dead, .dead, .dead, .dead, .dead, .dead, .dead, .dead, .dead, .dead, .dead, .dead, .dead, .dead, .dead, .dead, .dead, .dead, .dead, .dead, .dead, .dead, .dead, .dead, .dead, .dead, .dead, .dead, .dead, .dead, .dead, .dead, .dead, .dead, .dead, .dead, .dead, .dead], [some [.hole (.list .str), .hole .str, .hole (.int .i64), .hole (.int .i64), .hole (.list (.prod (.int .i64) (.prod (.list .str) (.list (.int .i64)))))], some [.hole (.list .str), .hole .str, .hole (.int .i64), .hole (.int .i64), .hole (.list (.prod (.int .i64) (.prod (.list .str) (.list (.int .i64)))))]], []⟩
@[reducible] noncomputable def f8_p2_o0 : Shape := ⟨[.dead, .dead, .dead, .dead, .dead, .dead, .dead, .dead, .dead, .dead, .dead, .dead, .dead, .dead, .dead, .dead, .dead, .dead, .dead, .dead, .dead, .dead, .dead, .dead, .dead, .dead, .dead, .dead, .dead, .dead, .dead, .dead, .dead, .dead, .dead, .dead, .dead, .dead, .dead, .dead, .dead, .dead, .dead, .dead, .dead, .dead, .dead, .dead, .dead, .dead, .dead, .dead, .dead, .dead, .dead, .dead, .dead, .dead, .dead, .dead, .dead, .dead, .dead, .dead, .dead, .dead, .dead, .dead, .dead, .dead, .dead, .dead, .dead, .dead, .dead, .dead, .dead, .dead, .dead, .dead, .dead, .dead, .dead, .dead, .dead, .dead, .dead, .dead, .dead, .dead, .dead, .dead, .dead, .dead, .dead, .dead, .dead, .dead, .dead, .dead, .dead, .dead], [], []⟩
@[reducible] noncomputable def f8_p2_o1 : Shape := ⟨[.dead, .dead, .dead, .dead, .hole .bool, .dead, .dead, .dead, .dead, .dead, .dead, .dead, .dead, .dead, .dead, .dead, .dead, .dead, .dead, .dead, .dead, .dead, .dead, .dead, .dead, .dead, .dead, .dead, .dead, .dead, .dead, .dead, .dead, .dead, .dead, .dead, .dead, .dead, .dead, .dead, .dead, .dead, .dead, .dead, .dead, .dead, .dead, .dead, .dead, .dead, .dead, .dead, .dead, .dead, .dead, .dead, .dead, .dead, .dead, .dead, .dead, .dead, .dead, .dead, .dead, .dead, .dead, .dead, .dead, .dead, .dead, .dead, .dead, .dead, .dead, .dead, .dead, .dead, .dead, .dead, .dead, .dead, .dead, .dead, .dead, .dead, .dead, .dead, .dead, .dead, .dead, .dead, .dead, .dead, .dead, .dead, .dead, .dead, .dead, .dead, .dead, .dead], [], []⟩
@[reducible] noncomputable def f8_p2_outs : List (Ex × Shape) := [(.exit 0, f8_p2_o0), (.ret, f8_p2_o1)]
@[reducible] noncomputable def f8_p2_a : Ann Tryd.prog 0 true (f8_c.cr.cr.cl.cr.cb.cb) := (.seq (.leaf _) (.seq (.leaf _) (.seq (.block (.seq (.leaf _) (.seq (.leaf _) (.seq (.leaf _) (.seq (.seq (.piece _ _ _ f8_p1_ok) (.leaf _)) (.seq (.leaf _) (.block (.piece _ _ _ f8_p0_ok)))))))) (.leaf _))))
noncomputable def f8_p2_st (rec : f8_p2_sh.den → Option (OutDen f8_p2_outs)) (y : f8_p2_sh.den) : Option (OutDen f8_p2_outs) := evA f8_E f8_p2_a (fill f8_p2_sh y) fun ex st => match ex with | .normal => (abs f8_p2_sh st).bind rec | e => packOut f8_p2_outs e st
theorem f8_p2_ok : PieceSound Tryd.prog 0 true (.loop (f8_c.cr.cr.cl.cr.cb.cb)) f8_p2_sh f8_p2_outs (go f8_p2_st) := go_of (f8_E_okE) f8_p2_a rfl rfl fun _ _ => rfl
@[reducible] noncomputable def f8_p3_sh : Shape := ⟨[.dead, .dead, .ptr 0 0, .ptr 1 0, .dead, .dead, .dead, .dead, .dead, .dead, .dead, .dead, .dead, .dead, .dead, .dead, .dead, .dead, .dead, .dead, .dead, .dead, .dead, .dead, .dead, .dead, .dead, .dead, .dead, .dead, .dead, .dead, .dead, .dead, .dead, .dead, .dead, .dead, .dead, .dead, .dead, .dead, .dead, .dead, .dead, .dead, .dead, .dead, .dead, .dead, .dead, .dead, .dead, .dead, .dead, .dead, .dead, .dead, .dead, .dead, .dead, .dead, .dead, .dead, .dead, .dead, .dead, .dead, .dead, .dead, .dead, .dead, .dead, .dead, .dead, .dead, .dead, .dead, .dead, .dead, .dead, .dead, .dead, .dead, .dead, .dead, .dead, .dead, .dead, .dead, .dead, .dead, .dead, .dead, .dead, .dead, .dead, .dead, .dead, .dead, .dead, .dead], [some [.hole (.list .str), .hole .str, .hole (.int .i64), .hole (.int .i64), .hole (.list (.prod (.int .i64) (.prod (.list .str) (.list (.int .i64)))))], some [.hole (.list .str), .hole .str, .hole (.int .i64), .hole (.int .i64), .hole (.list (.prod (.int .i64) (.prod (.list .str) (.list (.int .i64)))))]], []⟩
@[reducible] noncomputable def f8_p3_o0 : Shape := ⟨[.dead, .dead, .ptr 0 0, .ptr 1 0, .dead, .dead, .dead, .dead, .dead, .dead, .dead, .dead, .dead, .dead, .dead, .dead, .dead, .dead, .dead, .dead, .dead, .dead, .dead, .dead, .dead, .dead, .dead, .dead, .dead, .dead, .dead, .dead, .dead, .dead, .dead, .dead, .dead, .dead, .dead, .dead, .dead, .dead, .dead, .dead, .hole .bool, .dead, .dead, .dead, .dead, .dead, .dead, .dead, .dead, .dead, .dead, .dead, .dead, .dead, .dead, .dead, .dead, .dead, .dead, .dead, .dead, .dead, .dead, .dead, .dead, .dead, .dead, .dead, .dead, .dead, .dead, .dead, .dead, .dead, .dead, .dead, .dead, .dead, .dead, .dead, .dead, .dead, .dead, .dead, .dead, .dead, .dead, .dead, .dead, .dead, .dead, .dead, .dead, .dead, .dead, .dead, .dead, .dead], [some [.hole (.list .str), .hole .str, .hole (.int .i64), .hole (.int .i64), .hole (.list (.prod (.int .i64) (.prod (.list .str) (.list (.int .i64)))))], some [.hole (.list .str), .hole .str, .hole (.int .i64), .hole (.int .i64), .hole (.list (.prod (.int .i64) (.prod (.list .str) (.list (.int .i64)))))]], []⟩
@[reducible] noncomputable def f8_p3_outs : List (Ex × Shape) := [(.normal, f8_p3_o0)]
@[reducible] noncomputable def f8_p3_a : Ann Tryd.prog 0 true (f8_c.cr.cl.cl) := (.leaf _)
noncomputable def f8_p3_F (y : f8_p3_sh.den) : Option (OutDen f8_p3_outs) := evA f8_E f8_p3_a (fill f8_p3_sh y) (packOut f8_p3_outs)
theorem f8_p3_ok : PieceSound Tryd.prog 0 true (f8_c.cr.cl.cl) f8_p3_sh f8_p3_outs f8_p3_F := piece_of (f8_E_okE) f8_p3_a rfl rfl fun _ => rfl
@[reducible] noncomputable def f8_ps : List KD := [.agg [(.list .str), .str, (.int .i64), (.int .i64), (.list (.prod (.int .i64) (.prod (.list .str) (.list (.int .i64)))))], .agg [(.list .str), .str, (.int .i64), (.int .i64), (.list (.prod (.int .i64) (.prod (.list .str) (.list (.int .i64)))))]]
@[reducible] noncomputable def f8_rs : List KD := [.one .bool]
@[reducible] noncomputable def f8_a : Ann Tryd.prog 0 true f8_c := (.seq (.leaf _) (.seq (.seq (.piece _ _ _ f8_p3_ok) (.leaf _)) (.seq (.seq (.leaf _) (.block (.piece _ _ _ f8_p2_ok))) (.leaf _))))
noncomputable def f8_F (y : argsDen f8_ps) : Option (argsDen f8_rs) := evFunA f8_E Tryd.f8 f8_a (encArgs f8_ps y) (decRes f8_rs)
theorem f8_ok : Sound Tryd.prog 8 (pfun f8_F) := sound_of (c := f8_c) (f8_E_okE) (by kernel_rfl) (by kernel_rfl) (by kernel_rfl) f8_a (fun _ => rfl)
@[reducible] noncomputable def f41_c : Code := codeOf Tryd.f41
@[reducible] noncomputable def f41_E : Env := envOf Tryd.prog 9999 [] []
theorem f41_E_okE : EnvOk Tryd.prog f41_E := envOf_ok _ _ _ mixed
@[reducible] noncomputable def f41_ps : List KD := [.one (.int .i64)]
@[reducible] noncomputable def f41_rs : List KD := [.one .str]
@[reducible] noncomputable def f41_a : Ann Tryd.prog 0 true f41_c := (.leaf _)
noncomputable def f41_F (y : argsDen f41_ps) : Option (argsDen f41_rs) := evFunA f41_E Tryd.f41 f41_a (encArgs f41_ps y) (decRes f41_rs)
theorem f41_ok : Sound Tryd.prog 41 (pfun f41_F) := sound_of (c := f41_c) (f41_E_okE) (by kernel_rfl) (by kernel_rfl) (by kernel_rfl) f41_a (fun _ => rfl)
noncomputable def f41_L : argsDen f41_ps → Option (argsDen f41_rs) := Classical.choose (⟨f41_F, rfl⟩ : ∃ f : argsDen f41_ps → Option (argsDen f41_rs), f = f41_F)
theorem f41_Le : f41_L = f41_F := Classical.choose_spec (⟨f41_F, rfl⟩ : ∃ f : argsDen f41_ps → Option (argsDen f41_rs), f = f41_F)
theorem f41_Lok : Sound Tryd.prog 41 (pfun f41_L) := by rw [f41_Le]; exact f41_ok
@[reducible] noncomputable def f20_c : Code := codeOf Tryd.f20
@[reducible] noncomputable def f20_E : Env := envOf Tryd.prog 9999 [rowOf true f41_Lok] []
theorem f20_E_okE : EnvOk Tryd.prog f20_E := envOf_ok _ _ _ mixed
@[reducible] noncomputable def f20_ps : List KD := []
@[reducible] noncomputable def f20_rs : List KD := [.agg [(.list .str), .str, (.int .i64), (.int .i64), (.list (.prod (.int .i64) (.prod (.list .str) (.list (.int .i64)))))]]
@[reducible] noncomputable def f20_a : Ann Tryd.prog 0 true f20_c := (.leaf _)
noncomputable def f20_F0 (y : argsDen f20_ps) : Option (argsDen f20_rs) := evFunA f20_E Tryd.f20 f20_a (encArgs f20_ps y) (decRes f20_rs)
noncomputable def f20_F : argsDen f20_ps → Option (argsDen f20_rs) := Classical.choose (⟨f20_F0, rfl⟩ : ∃ f : argsDen f20_ps → Option (argsDen f20_rs), f = f20_F0)
theorem f20_Fe : f20_F = f20_F0 := Classical.choose_spec (⟨f20_F0, rfl⟩ : ∃ f : argsDen f20_ps → Option (argsDen f20_rs), f = f20_F0)
theorem f20_ok0 : Sound Tryd.prog 20 (pfun f20_F0) := sound_of (c := f20_c) (f20_E_okE) (by kernel_rfl) (by kernel_rfl) (by kernel_rfl) f20_a (fun _ => rfl)
theorem f20_ok : Sound Tryd.prog 20 (pfun f20_F) := by rw [f20_Fe]; exact f20_ok0
noncomputable def f6_L : argsDen f6_ps → Option (argsDen f6_rs) := Classical.choose (⟨f6_F, rfl⟩ : ∃ f : argsDen f6_ps → Option (argsDen f6_rs), f = f6_F)
theorem f6_Le : f6_L = f6_F := Classical.choose_spec (⟨f6_F, rfl⟩ : ∃ f : argsDen f6_ps → Option (argsDen f6_rs), f = f6_F)
theorem f6_Lok : Sound Tryd.prog 6 (pfun f6_L) := by rw [f6_Le]; exact f6_ok
noncomputable def f7_L : argsDen f7_ps → Option (argsDen f7_rs) := Classical.choose (⟨f7_F, rfl⟩ : ∃ f : argsDen f7_ps → Option (argsDen f7_rs), f = f7_F)
theorem f7_Le : f7_L = f7_F := Classical.choose_spec (⟨f7_F, rfl⟩ : ∃ f : argsDen f7_ps → Option (argsDen f7_rs), f = f7_F)
theorem f7_Lok : Sound Tryd.prog 7 (pfun f7_L) := by rw [f7_Le]; exact f7_ok
noncomputable def f10_L : argsDen f10_ps → Option (argsDen f10_rs) := Classical.choose (⟨f10_F, rfl⟩ : ∃ f : argsDen f10_ps → Option (argsDen f10_rs), f = f10_F)
theorem f10_Le : f10_L = f10_F := Classical.choose_spec (⟨f10_F, rfl⟩ : ∃ f : argsDen f10_ps → Option (argsDen f10_rs), f = f10_F)
theorem f10_Lok : Sound Tryd.prog 10 (pfun f10_L) := by rw [f10_Le]; exact f10_ok
@[reducible] noncomputable def f9_c : Code := codeOf Tryd.f9
@[reducible] noncomputable def f9_E : Env := envOf Tryd.prog 9999 [rowOf false f20_ok, rowOf true f6_Lok, rowOf false f7_Lok, rowOf true f10_Lok] []
theorem f9_E_okE : EnvOk Tryd.prog f9_E := envOf_ok _ _ _ mixed
@[reducible] noncomputable def f9_ps : List KD := []
@[reducible] noncomputable def f9_rs : List KD := [.one .bool]
@[reducible] noncomputable def f9_a : Ann Tryd.prog 0 true f9_c := (.leaf _)
noncomputable def f9_F0 (y : argsDen f9_ps) : Option (argsDen f9_rs) := evFunA f9_E Tryd.f9 f9_a (encArgs f9_ps y) (decRes f9_rs)
noncomputable def f9_F : argsDen f9_ps → Option (argsDen f9_rs) := Classical.choose (⟨f9_F0, rfl⟩ : ∃ f : argsDen f9_ps → Option (argsDen f9_rs), f = f9_F0)
theorem f9_Fe : f9_F = f9_F0 := Classical.choose_spec (⟨f9_F0, rfl⟩ : ∃ f : argsDen f9_ps → Option (argsDen f9_rs), f = f9_F0)
theorem f9_ok0 : Sound Tryd.prog 9 (pfun f9_F0) := sound_of (c := f9_c) (f9_E_okE) (by kernel_rfl) (by kernel_rfl) (by kernel_rfl) f9_a (fun _ => rfl)
theorem f9_ok : Sound Tryd.prog 9 (pfun f9_F) := by rw [f9_Fe]; exact f9_ok0
@[reducible] noncomputable def f3_c : Code := codeOf Tryd.f3
@[reducible] noncomputable def f3_E : Env := envOf Tryd.prog 9999 [rowOf false f5_ok, rowOf true f6_ok, rowOf false f7_ok, rowOf true f8_ok, rowOf true f9_ok, rowOf true f10_ok] []
theorem f3_E_okE : EnvOk Tryd.prog f3_E := envOf_ok _ _ _ mixed
@[reducible] noncomputable def f3_p0_sh : Shape := ⟨[.dead, .hole .str, .ptr 0 0, .dead, .dead, .dead, .dead, .ptr 1 0, .hole (.int .i64), .hole (.int .i64), .dead, .dead, .dead, .dead, .dead, .dead, .dead, .dead, .dead, .dead, .dead, .dead, .dead, .dead, .dead, .dead, .dead, .dead, .dead, .dead, .dead, .dead, .dead, .dead, .dead, .dead, .dead, .dead, .dead, .dead, .dead, .dead, .dead, .dead, .dead, .dead, .dead, .dead, .dead, .dead, .dead, .dead, .dead, .dead, .dead, .dead, .dead, .dead, .dead, .dead, .dead, .dead, .dead, .dead, .dead, .dead, .dead, .dead, .dead, .dead, .dead, .dead, .dead, .dead, .dead, .dead, .dead, .dead, .dead, .dead], [some [.hole (.list .str), .hole .str, .hole (.int .i64), .hole (.int .i64), .hole (.list (.prod (.int .i64) (.prod (.list .str) (.list (.int .i64)))))], some [.hole (.list .str), .hole .str, .hole (.int .i64), .hole (.int .i64), .hole (.list (.prod (.int .i64) (.prod (.list .str) (.list (.int .i64)))))]], []⟩
@[reducible] noncomputable def f3_p0_o0 : Shape := ⟨[.dead, .hole .str, .dead, .dead, .dead, .dead, .dead, .dead, .dead, .dead, .dead, .dead, .dead, .dead, .dead, .dead, .dead, .dead, .dead, .dead, .dead, .dead, .dead, .dead, .dead, .dead, .dead, .dead, .dead, .dead, .dead, .dead, .dead, .dead, .dead, .dead, .dead, .dead, .dead, .dead, .dead, .dead, .dead, .dead, .dead, .dead, .hole .bool, .dead, .dead, .dead, .dead, .dead, .dead, .dead, .dead, .dead, .dead, .dead, .dead, .dead, .dead, .dead, .dead, .dead, .dead, .dead, .dead, .dead, .dead, .dead, .dead, .dead, .dead, .dead, .dead, .dead, .dead, .dead, .dead, .dead], [], []⟩
@[reducible] noncomputable def f3_p0_outs : List (Ex × Shape) := [(.normal, f3_p0_o0)]
@[reducible] noncomputable def f3_p0_a : Ann Tryd.prog 0 true (f3_c.cr.cr.cl.cr.cr.ct.cr.cl) := (.leaf _)
noncomputable def f3_p0_F (y : f3_p0_sh.den) : Option (OutDen f3_p0_outs) := evA f3_E f3_p0_a (fill f3_p0_sh y) (packOut f3_p0_outs)
theorem f3_p0_ok : PieceSound Tryd.prog 0 true (f3_c.cr.cr.cl.cr.cr.ct.cr.cl) f3_p0_sh f3_p0_outs f3_p0_F := piece_of (f3_E_okE) f3_p0_a rfl rfl fun _ => rfl
@[reducible] noncomputable def f3_p1_sh : Shape := ⟨[.dead, .hole .str, .ptr 0 0, .dead, .dead, .dead, .dead, .dead, .dead, .dead, .dead, .dead, .dead, .dead, .dead, .dead, .dead, .dead, .dead, .dead, .dead, .dead, .dead, .dead, .dead, .dead, .dead, .dead, .dead, .dead, .dead, .dead, .dead, .dead, .dead, .dead, .dead, .dead, .dead, .dead, .dead, .dead, .dead, .dead, .dead, .dead, .dead, .dead, .dead, .dead, .dead, .dead, .dead, .dead, .dead, .dead, .dead, .dead, .dead, .dead, .dead, .dead, .dead, .dead, .dead, .dead, .dead, .dead, .dead, .dead, .dead, .dead, .dead, .dead, .dead, .dead, .dead, .dead, .dead, .dead], [some [.hole (.list .str), .hole .str, .hole (.int .i64), .hole (.int .i64), .hole (.list (.prod (.int .i64) (.prod (.list .str) (.list (.int .i64)))))]], []⟩
@[reducible] noncomputable def f3_p1_o0 : Shape := ⟨[.dead, .dead, .dead, .dead, .hole .bool, .dead, .dead, .dead, .dead, .dead, .dead, .dead, .dead, .dead, .dead, .dead, .dead, .dead, .dead, .dead, .dead, .dead, .dead, .dead, .dead, .dead, .dead, .dead, .dead, .dead, .dead, .dead, .dead, .dead, .dead, .dead, .dead, .dead, .dead, .dead, .dead, .dead, .dead, .dead, .dead, .dead, .dead, .dead, .dead, .dead, .dead, .dead, .dead, .dead, .dead, .dead, .dead, .dead, .dead, .dead, .dead, .dead, .dead, .dead, .dead, .dead, .dead, .dead, .dead, .dead, .dead, .dead, .dead, .dead, .dead, .dead, .dead, .dead, .dead, .dead], [], []⟩
@[reducible] noncomputable def f3_p1_o1 : Shape := ⟨[.dead, .hole .str, .dead, .dead, .dead, .dead, .dead, .dead, .dead, .dead, .dead, .dead, .dead, .dead, .dead, .dead, .dead, .dead, .dead, .dead, .dead, .dead, .dead, .dead, .dead, .dead, .dead, .dead, .dead, .dead, .dead, .dead, .dead, .dead, .dead, .dead, .dead, .dead, .dead, .dead, .dead, .dead, .dead, .dead, .dead, .dead, .dead, .dead, .dead, .dead, .dead, .dead, .dead, .dead, .dead, .dead, .dead, .dead, .dead, .dead, .dead, .dead, .dead, .dead, .dead, .dead, .dead, .dead, .dead, .dead, .dead, .dead, .dead, .dead, .dead, .dead, .dead, .dead, .dead, .dead], [], []⟩
@[reducible] noncomputable def f3_p1_outs : List (Ex × Shape) := [(.ret, f3_p1_o0), (.normal, f3_p1_o1)]
@[reducible] noncomputable def f3_p1_a : Ann Tryd.prog 0 true (f3_c.cr.cr.cl) := (.seq (.leaf _) (.seq (.leaf _) (.cond (.seq (.leaf _) (.seq (.piece _ _ _ f3_p0_ok) (.leaf _))) (.leaf _))))
noncomputable def f3_p1_F (y : f3_p1_sh.den) : Option (OutDen f3_p1_outs) := evA f3_E f3_p1_a (fill f3_p1_sh y) (packOut f3_p1_outs)
theorem f3_p1_ok : PieceSound Tryd.prog 0 true (f3_c.cr.cr.cl) f3_p1_sh f3_p1_outs f3_p1_F := piece_of (f3_E_okE) f3_p1_a rfl rfl fun _ => rfl
@[reducible] noncomputable def f3_ps : List KD := [.agg [(.list .str), .str, (.int .i64), (.int .i64), (.list (.prod (.int .i64) (.prod (.list .str) (.list (.int .i64)))))], .one .str]
@[reducible] noncomputable def f3_rs : List KD := [.one .bool]
@[reducible] noncomputable def f3_a : Ann Tryd.prog 0 true f3_c := (.seq (.leaf _) (.seq (.leaf _) (.seq (.piece _ _ _ f3_p1_ok) (.leaf _))))
noncomputable def f3_F (y : argsDen f3_ps) : Option (argsDen f3_rs) := evFunA f3_E Tryd.f3 f3_a (encArgs f3_ps y) (decRes f3_rs)
theorem f3_ok : Sound Tryd.prog 3 (pfun f3_F) := sound_of (c := f3_c) (f3_E_okE) (by kernel_rfl) (by kernel_rfl) (by kernel_rfl) f3_a (fun _ => rfl)
end
end Go.Pe.Tryd
end
section
namespace Go.Pe.Tryd
open Go.Proofs Go.RowKit
set_option maxRecDepth 100000
set_option linter.unusedVariables false
def h53_y (l0 : List Int) : h53_I.den := (((), ()), (((), ((), ())), ()), (l0, ()))
def h53_o_x0 (z : h53_O.den) : List UInt8 := z.1.1
def h68_y (l0 : List Int) : h68_I.den := (((), ()), (((), ((), ())), ()), (l0, ()))
def h68_o_l0 (z : h68_O.den) : List Int := z.2.2.1
def f5_p0_y (x5 : Int) (x30 : Int) (x31 : Int) (x56 : Int) (x57 : Int) (r0_0 : List (List UInt8)) (r0_1 : List UInt8) (r0_2 : Int) (r0_3 : Int) (r1_1 : List UInt8) (r1_2 : Int) (r1_3 : Int) (r2_0 : Int) (r2_2 : List Int) (l0 : List ((Int × (List (List UInt8) × List Int)))) (l1 : List (List UInt8)) : f5_p0_sh.den := (((), ((), ((), ((), ((), (x5, ((), ((), ((), ((), ((), ((), ((), ((), ((), ((), ((), ((), ((), ((), ((), ((), ((), ((), ((), ((), ((), ((), ((), ((), (x30, (x31, ((), ((), ((), ((), ((), ((), ((), ((), ((), ((), ((), ((), ((), ((), ((), ((), ((), ((), ((), ((), ((), ((), ((), ((), (x56, (x57, ((), ((), ((), ((), ((), ((), ((), ((), ((), ((), ((), ((), ((), ((), ((), ((), ((), ((), ((), ((), ((), ()))))))))))))))))))))))))))))))))))))))))))))))))))))))))))))))))))))))))))))))), ((r0_0, (r0_1, (r0_2, (r0_3, ((), ()))))), (((), (r1_1, (r1_2, (r1_3, ((), ()))))), ((r2_0, ((), (r2_2, ()))), ()))), (l0, (l1, ())))
def f5_p0_o0_y (x5 : Int) (x30 : Int) (x31 : Int) (r0_0 : List (List UInt8)) (r0_1 : List UInt8) (r0_2 : Int) (r0_3 : Int) (r1_1 : List UInt8) (r1_2 : Int) (r1_3 : Int) (r2_0 : Int) (r2_2 : List Int) (l0 : List ((Int × (List (List UInt8) × List Int)))) (l1 : List (List UInt8)) : f5_p0_o0.den := (((), ((), ((), ((), ((), (x5, ((), ((), ((), ((), ((), ((), ((), ((), ((), ((), ((), ((), ((), ((), ((), ((), ((), ((), ((), ((), ((), ((), ((), ((), (x30, (x31, ((), ((), ((), ((), ((), ((), ((), ((), ((), ((), ((), ((), ((), ((), ((), ((), ((), ((), ((), ((), ((), ((), ((), ((), ((), ((), ((), ((), ((), ((), ((), ((), ((), ((), ((), ((), ((), ((), ((), ((), ((), ((), ((), ((), ((), ((), ((), ()))))))))))))))))))))))))))))))))))))))))))))))))))))))))))))))))))))))))))))))), ((r0_0, (r0_1, (r0_2, (r0_3, ((), ()))))), (((), (r1_1, (r1_2, (r1_3, ((), ()))))), ((r2_0, ((), (r2_2, ()))), ()))), (l0, (l1, ())))
def f5_p0_o0_x5 (z : f5_p0_o0.den) : Int := z.1.2.2.2.2.2.1
def f5_p0_o0_x30 (z : f5_p0_o0.den) : Int := z.1.2.2.2.2.2.2.2.2.2.2.2.2.2.2.2.2.2.2.2.2.2.2.2.2.2.2.2.2.2.2.1
def f5_p0_o0_x31 (z : f5_p0_o0.den) : Int := z.1.2.2.2.2.2.2.2.2.2.2.2.2.2.2.2.2.2.2.2.2.2.2.2.2.2.2.2.2.2.2.2.1
def f5_p0_o0_r0_0 (z : f5_p0_o0.den) : List (List UInt8) := z.2.1.1.1
def f5_p0_o0_r0_1 (z : f5_p0_o0.den) : List UInt8 := z.2.1.1.2.1
def f5_p0_o0_r0_2 (z : f5_p0_o0.den) : Int := z.2.1.1.2.2.1
def f5_p0_o0_r0_3 (z : f5_p0_o0.den) : Int := z.2.1.1.2.2.2.1
def f5_p0_o0_r1_1 (z : f5_p0_o0.den) : List UInt8 := z.2.1.2.1.2.1
def f5_p0_o0_r1_2 (z : f5_p0_o0.den) : Int := z.2.1.2.1.2.2.1
def f5_p0_o0_r1_3 (z : f5_p0_o0.den) : Int := z.2.1.2.1.2.2.2.1
def f5_p0_o0_r2_0 (z : f5_p0_o0.den) : Int := z.2.1.2.2.1.1
def f5_p0_o0_r2_2 (z : f5_p0_o0.den) : List Int := z.2.1.2.2.1.2.2.1
def f5_p0_o0_l0 (z : f5_p0_o0.den) : List ((Int × (List (List UInt8) × List Int))) := z.2.2.1
def f5_p0_o0_l1 (z : f5_p0_o0.den) : List (List UInt8) := z.2.2.2.1
@[simp] theorem f5_p0_o0_x5_y x5 x30 x31 r0_0 r0_1 r0_2 r0_3 r1_1 r1_2 r1_3 r2_0 r2_2 l0 l1 : f5_p0_o0_x5 (f5_p0_o0_y x5 x30 x31 r0_0 r0_1 r0_2 r0_3 r1_1 r1_2 r1_3 r2_0 r2_2 l0 l1) = x5 := id rfl
@[simp] theorem f5_p0_o0_x30_y x5 x30 x31 r0_0 r0_1 r0_2 r0_3 r1_1 r1_2 r1_3 r2_0 r2_2 l0 l1 : f5_p0_o0_x30 (f5_p0_o0_y x5 x30 x31 r0_0 r0_1 r0_2 r0_3 r1_1 r1_2 r1_3 r2_0 r2_2 l0 l1) = x30 := id rfl
@[simp] theorem f5_p0_o0_x31_y x5 x30 x31 r0_0 r0_1 r0_2 r0_3 r1_1 r1_2 r1_3 r2_0 r2_2 l0 l1 : f5_p0_o0_x31 (f5_p0_o0_y x5 x30 x31 r0_0 r0_1 r0_2 r0_3 r1_1 r1_2 r1_3 r2_0 r2_2 l0 l1) = x31 := id rfl
@[simp] theorem f5_p0_o0_r0_0_y x5 x30 x31 r0_0 r0_1 r0_2 r0_3 r1_1 r1_2 r1_3 r2_0 r2_2 l0 l1 : f5_p0_o0_r0_0 (f5_p0_o0_y x5 x30 x31 r0_0 r0_1 r0_2 r0_3 r1_1 r1_2 r1_3 r2_0 r2_2 l0 l1) = r0_0 := id rfl
@[simp] theorem f5_p0_o0_r0_1_y x5 x30 x31 r0_0 r0_1 r0_2 r0_3 r1_1 r1_2 r1_3 r2_0 r2_2 l0 l1 : f5_p0_o0_r0_1 (f5_p0_o0_y x5 x30 x31 r0_0 r0_1 r0_2 r0_3 r1_1 r1_2 r1_3 r2_0 r2_2 l0 l1) = r0_1 := id rfl
@[simp] theorem f5_p0_o0_r0_2_y x5 x30 x31 r0_0 r0_1 r0_2 r0_3 r1_1 r1_2 r1_3 r2_0 r2_2 l0 l1 : f5_p0_o0_r0_2 (f5_p0_o0_y x5 x30 x31 r0_0 r0_1 r0_2 r0_3 r1_1 r1_2 r1_3 r2_0 r2_2 l0 l1) = r0_2 := id rfl
@[simp] theorem f5_p0_o0_r0_3_y x5 x30 x31 r0_0 r0_1 r0_2 r0_3 r1_1 r1_2 r1_3 r2_0 r2_2 l0 l1 : f5_p0_o0_r0_3 (f5_p0_o0_y x5 x30 x31 r0_0 r0_1 r0_2 r0_3 r1_1 r1_2 r1_3 r2_0 r2_2 l0 l1) = r0_3 := id rfl
@[simp] theorem f5_p0_o0_r1_1_y x5 x30 x31 r0_0 r0_1 r0_2 r0_3 r1_1 r1_2 r1_3 r2_0 r2_2 l0 l1 : f5_p0_o0_r1_1 (f5_p0_o0_y x5 x30 x31 r0_0 r0_1 r0_2 r0_3 r1_1 r1_2 r1_3 r2_0 r2_2 l0 l1) = r1_1 := id rfl
@[simp] theorem f5_p0_o0_r1_2_y x5 x30 x31 r0_0 r0_1 r0_2 r0_3 r1_1 r1_2 r1_3 r2_0 r2_2 l0 l1 : f5_p0_o0_r1_2 (f5_p0_o0_y x5 x30 x31 r0_0 r0_1 r0_2 r0_3 r1_1 r1_2 r1_3 r2_0 r2_2 l0 l1) = r1_2 := id rfl
@[simp] theorem f5_p0_o0_r1_3_y x5 x30 x31 r0_0 r0_1 r0_2 r0_3 r1_1 r1_2 r1_3 r2_0 r2_2 l0 l1 : f5_p0_o0_r1_3 (f5_p0_o0_y x5 x30 x31 r0_0 r0_1 r0_2 r0_3 r1_1 r1_2 r1_3 r2_0 r2_2 l0 l1) = r1_3 := id rfl
@[simp] theorem f5_p0_o0_r2_0_y x5 x30 x31 r0_0 r0_1 r0_2 r0_3 r1_1 r1_2 r1_3 r2_0 r2_2 l0 l1 : f5_p0_o0_r2_0 (f5_p0_o0_y x5 x30 x31 r0_0 r0_1 r0_2 r0_3 r1_1 r1_2 r1_3 r2_0 r2_2 l0 l1) = r2_0 := id rfl
@[simp] theorem f5_p0_o0_r2_2_y x5 x30 x31 r0_0 r0_1 r0_2 r0_3 r1_1 r1_2 r1_3 r2_0 r2_2 l0 l1 : f5_p0_o0_r2_2 (f5_p0_o0_y x5 x30 x31 r0_0 r0_1 r0_2 r0_3 r1_1 r1_2 r1_3 r2_0 r2_2 l0 l1) = r2_2 := id rfl
@[simp] theorem f5_p0_o0_l0_y x5 x30 x31 r0_0 r0_1 r0_2 r0_3 r1_1 r1_2 r1_3 r2_0 r2_2 l0 l1 : f5_p0_o0_l0 (f5_p0_o0_y x5 x30 x31 r0_0 r0_1 r0_2 r0_3 r1_1 r1_2 r1_3 r2_0 r2_2 l0 l1) = l0 := id rfl
@[simp] theorem f5_p0_o0_l1_y x5 x30 x31 r0_0 r0_1 r0_2 r0_3 r1_1 r1_2 r1_3 r2_0 r2_2 l0 l1 : f5_p0_o0_l1 (f5_p0_o0_y x5 x30 x31 r0_0 r0_1 r0_2 r0_3 r1_1 r1_2 r1_3 r2_0 r2_2 l0 l1) = l1 := id rfl
theorem f5_p0_eq rec x5 x30 x31 x56 x57 r0_0 r0_1 r0_2 r0_3 r1_1 r1_2 r1_3 r2_0 r2_2 l0 l1 : f5_p0_st rec (f5_p0_y x5 x30 x31 x56 x57 r0_0 r0_1 r0_2 r0_3 r1_1 r1_2 r1_3 r2_0 r2_2 l0 l1) = (bif (decide (x57 < x56)) then (within x57 l1.length ((l1[(Int.toNat x57)]?).bind fun e1 => cutHi e1 (minI (e1.length : Int) (3100 : Int)) fun s2 => within x57 l1.length ((l1[(Int.toNat x57)]?).bind fun e3 => rec (f5_p0_y x5 x30 x31 x56 (IntKind.i64.wrap (x57 + (1 : Int))) r0_0 r0_1 r0_2 r0_3 r1_1 r1_2 r1_3 r2_0 r2_2 l0 (l1.set (Int.toNat x57) s2))))) else (some ((f5_p0_o0_y x5 x30 x31 r0_0 r0_1 r0_2 r0_3 r1_1 r1_2 r1_3 r2_0 r2_2 l0 l1)))) := by kernel_rfl
def f5_p1_y (x30 : Int) (x31 : Int) (r0_0 : List (List UInt8)) (r0_1 : List UInt8) (r0_2 : Int) (r0_3 : Int) (r1_1 : List UInt8) (r1_2 : Int) (r1_3 : Int) (l0 : List ((Int × (List (List UInt8) × List Int)))) : f5_p1_sh.den := (((), ((), ((), ((), ((), ((), ((), ((), ((), ((), ((), ((), ((), ((), ((), ((), ((), ((), ((), ((), ((), ((), ((), ((), ((), ((), ((), ((), ((), ((), (x30, (x31, ((), ((), ((), ((), ((), ((), ((), ((), ((), ((), ((), ((), ((), ((), ((), ((), ((), ((), ((), ((), ((), ((), ((), ((), ((), ((), ((), ((), ((), ((), ((), ((), ((), ((), ((), ((), ((), ((), ((), ((), ((), ((), ((), ((), ((), ((), ((), ()))))))))))))))))))))))))))))))))))))))))))))))))))))))))))))))))))))))))))))))), ((r0_0, (r0_1, (r0_2, (r0_3, ((), ()))))), (((), (r1_1, (r1_2, (r1_3, ((), ()))))), ())), (l0, ()))
def f5_p1_o0_y (r0_0 : List (List UInt8)) (r0_1 : List UInt8) (r0_2 : Int) (r0_3 : Int) (r1_1 : List UInt8) (r1_2 : Int) (r1_3 : Int) (l0 : List ((Int × (List (List UInt8) × List Int)))) : f5_p1_o0.den := (((), ((), ((), ((), ((), ((), ((), ((), ((), ((), ((), ((), ((), ((), ((), ((), ((), ((), ((), ((), ((), ((), ((), ((), ((), ((), ((), ((), ((), ((), ((), ((), ((), ((), ((), ((), ((), ((), ((), ((), ((), ((), ((), ((), ((), ((), ((), ((), ((), ((), ((), ((), ((), ((), ((), ((), ((), ((), ((), ((), ((), ((), ((), ((), ((), ((), ((), ((), ((), ((), ((), ((), ((), ((), ((), ((), ((), ((), ((), ()))))))))))))))))))))))))))))))))))))))))))))))))))))))))))))))))))))))))))))))), ((r0_0, (r0_1, (r0_2, (r0_3, ((), ()))))), (((), (r1_1, (r1_2, (r1_3, ((), ()))))), ())), (l0, ()))
def f5_p1_o0_r0_0 (z : f5_p1_o0.den) : List (List UInt8) := z.2.1.1.1
def f5_p1_o0_r0_1 (z : f5_p1_o0.den) : List UInt8 := z.2.1.1.2.1
def f5_p1_o0_r0_2 (z : f5_p1_o0.den) : Int := z.2.1.1.2.2.1
def f5_p1_o0_r0_3 (z : f5_p1_o0.den) : Int := z.2.1.1.2.2.2.1
def f5_p1_o0_r1_1 (z : f5_p1_o0.den) : List UInt8 := z.2.1.2.1.2.1
def f5_p1_o0_r1_2 (z : f5_p1_o0.den) : Int := z.2.1.2.1.2.2.1
def f5_p1_o0_r1_3 (z : f5_p1_o0.den) : Int := z.2.1.2.1.2.2.2.1
def f5_p1_o0_l0 (z : f5_p1_o0.den) : List ((Int × (List (List UInt8) × List Int))) := z.2.2.1
@[simp] theorem f5_p1_o0_r0_0_y r0_0 r0_1 r0_2 r0_3 r1_1 r1_2 r1_3 l0 : f5_p1_o0_r0_0 (f5_p1_o0_y r0_0 r0_1 r0_2 r0_3 r1_1 r1_2 r1_3 l0) = r0_0 := id rfl
@[simp] theorem f5_p1_o0_r0_1_y r0_0 r0_1 r0_2 r0_3 r1_1 r1_2 r1_3 l0 : f5_p1_o0_r0_1 (f5_p1_o0_y r0_0 r0_1 r0_2 r0_3 r1_1 r1_2 r1_3 l0) = r0_1 := id rfl
@[simp] theorem f5_p1_o0_r0_2_y r0_0 r0_1 r0_2 r0_3 r1_1 r1_2 r1_3 l0 : f5_p1_o0_r0_2 (f5_p1_o0_y r0_0 r0_1 r0_2 r0_3 r1_1 r1_2 r1_3 l0) = r0_2 := id rfl
@[simp] theorem f5_p1_o0_r0_3_y r0_0 r0_1 r0_2 r0_3 r1_1 r1_2 r1_3 l0 : f5_p1_o0_r0_3 (f5_p1_o0_y r0_0 r0_1 r0_2 r0_3 r1_1 r1_2 r1_3 l0) = r0_3 := id rfl
@[simp] theorem f5_p1_o0_r1_1_y r0_0 r0_1 r0_2 r0_3 r1_1 r1_2 r1_3 l0 : f5_p1_o0_r1_1 (f5_p1_o0_y r0_0 r0_1 r0_2 r0_3 r1_1 r1_2 r1_3 l0) = r1_1 := id rfl
@[simp] theorem f5_p1_o0_r1_2_y r0_0 r0_1 r0_2 r0_3 r1_1 r1_2 r1_3 l0 : f5_p1_o0_r1_2 (f5_p1_o0_y r0_0 r0_1 r0_2 r0_3 r1_1 r1_2 r1_3 l0) = r1_2 := id rfl
@[simp] theorem f5_p1_o0_r1_3_y r0_0 r0_1 r0_2 r0_3 r1_1 r1_2 r1_3 l0 : f5_p1_o0_r1_3 (f5_p1_o0_y r0_0 r0_1 r0_2 r0_3 r1_1 r1_2 r1_3 l0) = r1_3 := id rfl
@[simp] theorem f5_p1_o0_l0_y r0_0 r0_1 r0_2 r0_3 r1_1 r1_2 r1_3 l0 : f5_p1_o0_l0 (f5_p1_o0_y r0_0 r0_1 r0_2 r0_3 r1_1 r1_2 r1_3 l0) = l0 := id rfl
theorem f5_p1_eq rec x30 x31 r0_0 r0_1 r0_2 r0_3 r1_1 r1_2 r1_3 l0 : f5_p1_st rec (f5_p1_y x30 x31 r0_0 r0_1 r0_2 r0_3 r1_1 r1_2 r1_3 l0) = (bif (decide (x31 < x30)) then (within x31 l0.length ((l0[(Int.toNat x31)]?).bind fun e4 => cutHi e4.2.1 (minI (e4.2.1.length : Int) (5 : Int)) fun s5 => appOk (([] : List (List UInt8)).length + s5.length) (cutHi e4.2.2 (minI (e4.2.2.length : Int) (5 : Int)) fun s6 => (go f5_p0_st (f5_p0_y x31 x30 x31 ((([] : List (List UInt8)) ++ s5).length : Int) (0 : Int) r0_0 r0_1 r0_2 r0_3 r1_1 r1_2 r1_3 e4.1 s6 l0 (([] : List (List UInt8)) ++ s5))).bind fun o7 => within (f5_p0_o0_x5 o7) (f5_p0_o0_l0 o7).length (((f5_p0_o0_l0 o7)[(Int.toNat (f5_p0_o0_x5 o7))]?).bind fun e8 => rec (f5_p1_y (f5_p0_o0_x30 o7) (IntKind.i64.wrap ((f5_p0_o0_x31 o7) + (1 : Int))) (f5_p0_o0_r0_0 o7) (f5_p0_o0_r0_1 o7) (f5_p0_o0_r0_2 o7) (f5_p0_o0_r0_3 o7) (f5_p0_o0_r1_1 o7) (f5_p0_o0_r1_2 o7) (f5_p0_o0_r1_3 o7) ((f5_p0_o0_l0 o7).set (Int.toNat (f5_p0_o0_x5 o7)) ((f5_p0_o0_r2_0 o7), ((f5_p0_o0_l1 o7), (f5_p0_o0_r2_2 o7))))))))) else (some ((f5_p1_o0_y r0_0 r0_1 r0_2 r0_3 r1_1 r1_2 r1_3 l0)))) := by kernel_rfl
theorem f5_eq a0_0 a0_1 a0_2 a0_3 a0_4 a1 : f5_F ((a0_0, (a0_1, (a0_2, (a0_3, (a0_4, ()))))), (a1, ())) = (cutHi a0_0 (minI (a0_0.length : Int) (6 : Int)) fun s9 => cutHi a0_4 (minI (a0_4.length : Int) a1) fun s10 => appOk (([] : List ((Int × (List (List UInt8) × List Int)))).length + s10.length) ((go f5_p1_st (f5_p1_y ((([] : List ((Int × (List (List UInt8) × List Int)))) ++ s10).length : Int) (0 : Int) s9 a0_1 a0_2 a0_3 ([] : List UInt8) (0 : Int) (0 : Int) (([] : List ((Int × (List (List UInt8) × List Int)))) ++ s10))).bind fun o11 => some (((f5_p1_o0_r0_0 o11), ((f5_p1_o0_r0_1 o11), ((f5_p1_o0_r0_2 o11), ((f5_p1_o0_r0_3 o11), ((f5_p1_o0_l0 o11), ()))))), ()))) := by kernel_rfl
theorem f42_eq a0 : f42_F (a0, ()) = (some (((a0.length : Int) != (32 : Int)), ())) := by kernel_rfl
def h60_y (x0 : List (List UInt8)) : h60_I.den := ((x0, (((), ()), ())), (), ())
def h60_o_y (x0 : Int) : h60_O.den := ((x0, ()), (), ())
def h60_o_x0 (z : h60_O.den) : Int := z.1.1
@[simp] theorem h60_o_x0_y x0 : h60_o_x0 (h60_o_y x0) = x0 := id rfl
def h60_p0_y (x0 : List (List UInt8)) (x7 : Int) (x8 : Int) : h60_p0_sh.den := ((x0, (((), ()), ((), ((), ((), ((), ((), (x7, (x8, ((), ((), ((), ((), ((), ((), ((), ((), ((), ((), ()))))))))))))))))))), (), ())
def h60_p0_o0_y : h60_p0_o0.den := (((), ((), ((), ((), ((), ((), ((), ((), ((), ((), ((), ((), ((), ((), ((), ((), ((), ((), ((), ()))))))))))))))))))), (), ())
def h60_p0_o1_y (x4 : Int) : h60_p0_o1.den := (((), ((), ((), ((), (x4, ((), ((), ((), ((), ((), ((), ((), ((), ((), ((), ((), ((), ((), ((), ()))))))))))))))))))), (), ())
def h60_p0_o1_x4 (z : h60_p0_o1.den) : Int := z.1.2.2.2.2.1
@[simp] theorem h60_p0_o1_x4_y x4 : h60_p0_o1_x4 (h60_p0_o1_y x4) = x4 := id rfl
theorem h60_p0_eq rec x0 x7 x8 : h60_p0_st rec (h60_p0_y x0 x7 x8) = (bif (decide (x8 < x7)) then ((nth x0 x8).bind fun y12 => (f42_F (y12, ())).bind fun r13 => bif r13.1 then (some (.inr ((h60_p0_o1_y x8)))) else (rec (h60_p0_y x0 x7 (IntKind.i64.wrap (x8 + (1 : Int)))))) else (some (.inl h60_p0_o0_y))) := by kernel_rfl
theorem h60_eq x0 : h60_F (h60_y x0) = ((go h60_p0_st (h60_p0_y x0 (x0.length : Int) (0 : Int))).bind fun o14 => (match o14 with | .inl z15 => some (h60_o_y (-1 : Int)) | .inr o16 => some (h60_o_y (h60_p0_o1_x4 o16)))) := by kernel_rfl
def h43_y (x0 : List (List UInt8)) : h43_I.den := ((x0, (((), ()), ())), (), ())
def h43_o_y (x0 : Bool) : h43_O.den := ((x0, ()), (), ())
def h43_o_x0 (z : h43_O.den) : Bool := z.1.1
@[simp] theorem h43_o_x0_y x0 : h43_o_x0 (h43_o_y x0) = x0 := id rfl
theorem h43_eq x0 : h43_F (h43_y x0) = ((h60_F (h60_y x0)).bind fun z17 => some (h43_o_y (decide ((h60_o_x0 z17) ≥ (0 : Int))))) := by kernel_rfl
theorem f21_eq a0_0 a0_1 a0_2 a0_3 a0_4 : f21_F ((a0_0, (a0_1, (a0_2, (a0_3, (a0_4, ()))))), ()) = (bif ((a0_0.length : Int) == (4 : Int)) then ((h43_F (h43_y a0_0)).bind fun z18 => bif (!(h43_o_x0 z18)) then ((f42_F (a0_1, ())).bind fun r19 => bif (!r19.1) then (bif (decide (a0_2 ≥ (1 : Int))) then (bif (decide (a0_2 ≤ (1000000 : Int))) then (bif (decide (a0_3 ≥ (1 : Int))) then (some ((decide (a0_3 ≤ (4 : Int))), ())) else (some (false, ()))) else (some (false, ()))) else (some (false, ()))) else (some (false, ()))) else (some (false, ()))) else (some (false, ()))) := by kernel_rfl
def h36_y : h36_I.den := ((), (), ())
def h36_o_y (l0 : List (((Unit × Unit) × (Int × (List UInt8 × (Int × Int)))))) : h36_O.den := (((), ()), (), (l0, ()))
def h36_o_l0 (z : h36_O.den) : List (((Unit × Unit) × (Int × (List UInt8 × (Int × Int))))) := z.2.2.1
@[simp] theorem h36_o_l0_y l0 : h36_o_l0 (h36_o_y l0) = l0 := id rfl
theorem h36_eq : h36_F h36_y = (appOk ((mpairs (.int .i64) (.prod .str (.prod (.int .i64) (.int .i64))) true ([] : List (((Unit × Unit) × (Int × (List UInt8 × (Int × Int))))))).length + 1) (lenOk (keyLen (.int .i64) (1 : Int)) (appOk ((mpairs (.int .i64) (.prod .str (.prod (.int .i64) (.int .i64))) true (mput (.int .i64) (.prod .str (.prod (.int .i64) (.int .i64))) true ([] : List (((Unit × Unit) × (Int × (List UInt8 × (Int × Int)))))) (1 : Int) (([112, 117, 98, 108, 105, 115, 104] : List UInt8), ((3 : Int), (1 : Int))))).length + 1) (lenOk (keyLen (.int .i64) (2 : Int)) (appOk ((mpairs (.int .i64) (.prod .str (.prod (.int .i64) (.int .i64))) true (mput (.int .i64) (.prod .str (.prod (.int .i64) (.int .i64))) true (mput (.int .i64) (.prod .str (.prod (.int .i64) (.int .i64))) true ([] : List (((Unit × Unit) × (Int × (List UInt8 × (Int × Int)))))) (1 : Int) (([112, 117, 98, 108, 105, 115, 104] : List UInt8), ((3 : Int), (1 : Int)))) (2 : Int) (([100, 101, 108, 101, 103] : List UInt8), ((3 : Int), (2 : Int))))).length + 1) (lenOk (keyLen (.int .i64) (3 : Int)) (appOk ((mpairs (.int .i64) (.prod .str (.prod (.int .i64) (.int .i64))) true (mput (.int .i64) (.prod .str (.prod (.int .i64) (.int .i64))) true (mput (.int .i64) (.prod .str (.prod (.int .i64) (.int .i64))) true (mput (.int .i64) (.prod .str (.prod (.int .i64) (.int .i64))) true ([] : List (((Unit × Unit) × (Int × (List UInt8 × (Int × Int)))))) (1 : Int) (([112, 117, 98, 108, 105, 115, 104] : List UInt8), ((3 : Int), (1 : Int)))) (2 : Int) (([100, 101, 108, 101, 103] : List UInt8), ((3 : Int), (2 : Int)))) (3 : Int) (([114, 111, 116, 97, 116, 101] : List UInt8), ((1 : Int), (2 : Int))))).length + 1) (lenOk (keyLen (.int .i64) (4 : Int)) (appOk ((mpairs (.int .i64) (.prod .str (.prod (.int .i64) (.int .i64))) true (mput (.int .i64) (.prod .str (.prod (.int .i64) (.int .i64))) true (mput (.int .i64) (.prod .str (.prod (.int .i64) (.int .i64))) true (mput (.int .i64) (.prod .str (.prod (.int .i64) (.int .i64))) true (mput (.int .i64) (.prod .str (.prod (.int .i64) (.int .i64))) true ([] : List (((Unit × Unit) × (Int × (List UInt8 × (Int × Int)))))) (1 : Int) (([112, 117, 98, 108, 105, 115, 104] : List UInt8), ((3 : Int), (1 : Int)))) (2 : Int) (([100, 101, 108, 101, 103] : List UInt8), ((3 : Int), (2 : Int)))) (3 : Int) (([114, 111, 116, 97, 116, 101] : List UInt8), ((1 : Int), (2 : Int)))) (4 : Int) (([115, 116, 97, 109, 112] : List UInt8), ((0 : Int), (1 : Int))))).length + 1) (lenOk (keyLen (.int .i64) (5 : Int)) (appOk ((mpairs (.int .i64) (.prod .str (.prod (.int .i64) (.int .i64))) true (mput (.int .i64) (.prod .str (.prod (.int .i64) (.int .i64))) true (mput (.int .i64) (.prod .str (.prod (.int .i64) (.int .i64))) true (mput (.int .i64) (.prod .str (.prod (.int .i64) (.int .i64))) true (mput (.int .i64) (.prod .str (.prod (.int .i64) (.int .i64))) true (mput (.int .i64) (.prod .str (.prod (.int .i64) (.int .i64))) true ([] : List (((Unit × Unit) × (Int × (List UInt8 × (Int × Int)))))) (1 : Int) (([112, 117, 98, 108, 105, 115, 104] : List UInt8), ((3 : Int), (1 : Int)))) (2 : Int) (([100, 101, 108, 101, 103] : List UInt8), ((3 : Int), (2 : Int)))) (3 : Int) (([114, 111, 116, 97, 116, 101] : List UInt8), ((1 : Int), (2 : Int)))) (4 : Int) (([115, 116, 97, 109, 112] : List UInt8), ((0 : Int), (1 : Int)))) (5 : Int) (([117, 112, 100, 97, 116, 101] : List UInt8), ((1 : Int), (1 : Int))))).length + 1) (lenOk (keyLen (.int .i64) (6 : Int)) (appOk ((mpairs (.int .i64) (.prod .str (.prod (.int .i64) (.int .i64))) true (mput (.int .i64) (.prod .str (.prod (.int .i64) (.int .i64))) true (mput (.int .i64) (.prod .str (.prod (.int .i64) (.int .i64))) true (mput (.int .i64) (.prod .str (.prod (.int .i64) (.int .i64))) true (mput (.int .i64) (.prod .str (.prod (.int .i64) (.int .i64))) true (mput (.int .i64) (.prod .str (.prod (.int .i64) (.int .i64))) true (mput (.int .i64) (.prod .str (.prod (.int .i64) (.int .i64))) true ([] : List (((Unit × Unit) × (Int × (List UInt8 × (Int × Int)))))) (1 : Int) (([112, 117, 98, 108, 105, 115, 104] : List UInt8), ((3 : Int), (1 : Int)))) (2 : Int) (([100, 101, 108, 101, 103] : List UInt8), ((3 : Int), (2 : Int)))) (3 : Int) (([114, 111, 116, 97, 116, 101] : List UInt8), ((1 : Int), (2 : Int)))) (4 : Int) (([115, 116, 97, 109, 112] : List UInt8), ((0 : Int), (1 : Int)))) (5 : Int) (([117, 112, 100, 97, 116, 101] : List UInt8), ((1 : Int), (1 : Int)))) (6 : Int) (([99, 114, 97, 115, 104] : List UInt8), ((1 : Int), (2 : Int))))).length + 1) (lenOk (keyLen (.int .i64) (7 : Int)) (appOk ((mpairs (.int .i64) (.prod .str (.prod (.int .i64) (.int .i64))) true (mput (.int .i64) (.prod .str (.prod (.int .i64) (.int .i64))) true (mput (.int .i64) (.prod .str (.prod (.int .i64) (.int .i64))) true (mput (.int .i64) (.prod .str (.prod (.int .i64) (.int .i64))) true (mput (.int .i64) (.prod .str (.prod (.int .i64) (.int .i64))) true (mput (.int .i64) (.prod .str (.prod (.int .i64) (.int .i64))) true (mput (.int .i64) (.prod .str (.prod (.int .i64) (.int .i64))) true (mput (.int .i64) (.prod .str (.prod (.int .i64) (.int .i64))) true ([] : List (((Unit × Unit) × (Int × (List UInt8 × (Int × Int)))))) (1 : Int) (([112, 117, 98, 108, 105, 115, 104] : List UInt8), ((3 : Int), (1 : Int)))) (2 : Int) (([100, 101, 108, 101, 103] : List UInt8), ((3 : Int), (2 : Int)))) (3 : Int) (([114, 111, 116, 97, 116, 101] : List UInt8), ((1 : Int), (2 : Int)))) (4 : Int) (([115, 116, 97, 109, 112] : List UInt8), ((0 : Int), (1 : Int)))) (5 : Int) (([117, 112, 100, 97, 116, 101] : List UInt8), ((1 : Int), (1 : Int)))) (6 : Int) (([99, 114, 97, 115, 104] : List UInt8), ((1 : Int), (2 : Int)))) (7 : Int) (([119, 97, 116, 99, 104] : List UInt8), ((0 : Int), (1 : Int))))).length + 1) (lenOk (keyLen (.int .i64) (8 : Int)) (some (h36_o_y (mput (.int .i64) (.prod .str (.prod (.int .i64) (.int .i64))) true (mput (.int .i64) (.prod .str (.prod (.int .i64) (.int .i64))) true (mput (.int .i64) (.prod .str (.prod (.int .i64) (.int .i64))) true (mput (.int .i64) (.prod .str (.prod (.int .i64) (.int .i64))) true (mput (.int .i64) (.prod .str (.prod (.int .i64) (.int .i64))) true (mput (.int .i64) (.prod .str (.prod (.int .i64) (.int .i64))) true (mput (.int .i64) (.prod .str (.prod (.int .i64) (.int .i64))) true (mput (.int .i64) (.prod .str (.prod (.int .i64) (.int .i64))) true ([] : List (((Unit × Unit) × (Int × (List UInt8 × (Int × Int)))))) (1 : Int) (([112, 117, 98, 108, 105, 115, 104] : List UInt8), ((3 : Int), (1 : Int)))) (2 : Int) (([100, 101, 108, 101, 103] : List UInt8), ((3 : Int), (2 : Int)))) (3 : Int) (([114, 111, 116, 97, 116, 101] : List UInt8), ((1 : Int), (2 : Int)))) (4 : Int) (([115, 116, 97, 109, 112] : List UInt8), ((0 : Int), (1 : Int)))) (5 : Int) (([117, 112, 100, 97, 116, 101] : List UInt8), ((1 : Int), (1 : Int)))) (6 : Int) (([99, 114, 97, 115, 104] : List UInt8), ((1 : Int), (2 : Int)))) (7 : Int) (([119, 97, 116, 99, 104] : List UInt8), ((0 : Int), (1 : Int)))) (8 : Int) (([109, 105, 114, 114, 111, 114] : List UInt8), ((2 : Int), (1 : Int)))))))))))))))))))))) := by kernel_rfl
theorem f45_eq a0 : f45_F (a0, ()) = (some ((decide ((a0.length : Int) > (3000 : Int))), ())) := by kernel_rfl
def h60a_y (x0 : List (List UInt8)) : h60a_I.den := ((x0, (((), ()), ())), (), ())
def h60a_o_y (x0 : Int) : h60a_O.den := ((x0, ()), (), ())
def h60a_o_x0 (z : h60a_O.den) : Int := z.1.1
@[simp] theorem h60a_o_x0_y x0 : h60a_o_x0 (h60a_o_y x0) = x0 := id rfl
def h60a_p0_y (x0 : List (List UInt8)) (x7 : Int) (x8 : Int) : h60a_p0_sh.den := ((x0, (((), ()), ((), ((), ((), ((), ((), (x7, (x8, ((), ((), ((), ((), ((), ((), ((), ((), ((), ((), ()))))))))))))))))))), (), ())
def h60a_p0_o0_y : h60a_p0_o0.den := (((), ((), ((), ((), ((), ((), ((), ((), ((), ((), ((), ((), ((), ((), ((), ((), ((), ((), ((), ()))))))))))))))))))), (), ())
def h60a_p0_o1_y (x4 : Int) : h60a_p0_o1.den := (((), ((), ((), ((), (x4, ((), ((), ((), ((), ((), ((), ((), ((), ((), ((), ((), ((), ((), ((), ()))))))))))))))))))), (), ())
def h60a_p0_o1_x4 (z : h60a_p0_o1.den) : Int := z.1.2.2.2.2.1
@[simp] theorem h60a_p0_o1_x4_y x4 : h60a_p0_o1_x4 (h60a_p0_o1_y x4) = x4 := id rfl
theorem h60a_p0_eq rec x0 x7 x8 : h60a_p0_st rec (h60a_p0_y x0 x7 x8) = (bif (decide (x8 < x7)) then ((nth x0 x8).bind fun y20 => (f45_F (y20, ())).bind fun r21 => bif r21.1 then (some (.inr ((h60a_p0_o1_y x8)))) else (rec (h60a_p0_y x0 x7 (IntKind.i64.wrap (x8 + (1 : Int)))))) else (some (.inl h60a_p0_o0_y))) := by kernel_rfl
theorem h60a_eq x0 : h60a_F (h60a_y x0) = ((go h60a_p0_st (h60a_p0_y x0 (x0.length : Int) (0 : Int))).bind fun o22 => (match o22 with | .inl z23 => some (h60a_o_y (-1 : Int)) | .inr o24 => some (h60a_o_y (h60a_p0_o1_x4 o24)))) := by kernel_rfl
def h43a_y (x0 : List (List UInt8)) : h43a_I.den := ((x0, (((), ()), ())), (), ())
def h43a_o_y (x0 : Bool) : h43a_O.den := ((x0, ()), (), ())
def h43a_o_x0 (z : h43a_O.den) : Bool := z.1.1
@[simp] theorem h43a_o_x0_y x0 : h43a_o_x0 (h43a_o_y x0) = x0 := id rfl
theorem h43a_eq x0 : h43a_F (h43a_y x0) = ((h60a_F (h60a_y x0)).bind fun z25 => some (h43a_o_y (decide ((h60a_o_x0 z25) ≥ (0 : Int))))) := by kernel_rfl
theorem f47_eq a0 : f47_F (a0, ()) = (bif (decide (a0 < (0 : Int))) then (some (true, ())) else (some ((decide (a0 > (1099511627776 : Int))), ()))) := by kernel_rfl
def h61_y (x0 : List Int) : h61_I.den := ((x0, (((), ()), ())), (), ())
def h61_o_y (x0 : Int) : h61_O.den := ((x0, ()), (), ())
def h61_o_x0 (z : h61_O.den) : Int := z.1.1
@[simp] theorem h61_o_x0_y x0 : h61_o_x0 (h61_o_y x0) = x0 := id rfl
def h61_p0_y (x0 : List Int) (x7 : Int) (x8 : Int) : h61_p0_sh.den := ((x0, (((), ()), ((), ((), ((), ((), ((), (x7, (x8, ((), ((), ((), ((), ((), ((), ((), ((), ((), ((), ()))))))))))))))))))), (), ())
def h61_p0_o0_y : h61_p0_o0.den := (((), ((), ((), ((), ((), ((), ((), ((), ((), ((), ((), ((), ((), ((), ((), ((), ((), ((), ((), ()))))))))))))))))))), (), ())
def h61_p0_o1_y (x4 : Int) : h61_p0_o1.den := (((), ((), ((), ((), (x4, ((), ((), ((), ((), ((), ((), ((), ((), ((), ((), ((), ((), ((), ((), ()))))))))))))))))))), (), ())
def h61_p0_o1_x4 (z : h61_p0_o1.den) : Int := z.1.2.2.2.2.1
@[simp] theorem h61_p0_o1_x4_y x4 : h61_p0_o1_x4 (h61_p0_o1_y x4) = x4 := id rfl
theorem h61_p0_eq rec x0 x7 x8 : h61_p0_st rec (h61_p0_y x0 x7 x8) = (bif (decide (x8 < x7)) then ((nth x0 x8).bind fun y26 => (f47_F (y26, ())).bind fun r27 => bif r27.1 then (some (.inr ((h61_p0_o1_y x8)))) else (rec (h61_p0_y x0 x7 (IntKind.i64.wrap (x8 + (1 : Int)))))) else (some (.inl h61_p0_o0_y))) := by kernel_rfl
theorem h61_eq x0 : h61_F (h61_y x0) = ((go h61_p0_st (h61_p0_y x0 (x0.length : Int) (0 : Int))).bind fun o28 => (match o28 with | .inl z29 => some (h61_o_y (-1 : Int)) | .inr o30 => some (h61_o_y (h61_p0_o1_x4 o30)))) := by kernel_rfl
def h46_y (x0 : List Int) : h46_I.den := ((x0, (((), ()), ())), (), ())
def h46_o_y (x0 : Bool) : h46_O.den := ((x0, ()), (), ())
def h46_o_x0 (z : h46_O.den) : Bool := z.1.1
@[simp] theorem h46_o_x0_y x0 : h46_o_x0 (h46_o_y x0) = x0 := id rfl
theorem h46_eq x0 : h46_F (h46_y x0) = ((h61_F (h61_y x0)).bind fun z31 => some (h46_o_y (decide ((h61_o_x0 z31) ≥ (0 : Int))))) := by kernel_rfl
theorem f49_eq a0 : f49_F (a0, ()) = (bif (a0 != (48 : Int)) then (some ((a0 != (49 : Int)), ())) else (some (false, ()))) := by kernel_rfl
def h62_y (x0 : List Int) : h62_I.den := ((x0, (((), ()), ())), (), ())
def h62_o_y (x0 : Int) : h62_O.den := ((x0, ()), (), ())
def h62_o_x0 (z : h62_O.den) : Int := z.1.1
@[simp] theorem h62_o_x0_y x0 : h62_o_x0 (h62_o_y x0) = x0 := id rfl
def h62_p0_y (x0 : List Int) (x7 : Int) (x8 : Int) : h62_p0_sh.den := ((x0, (((), ()), ((), ((), ((), ((), ((), (x7, (x8, ((), ((), ((), ((), ((), ((), ((), ((), ((), ((), ()))))))))))))))))))), (), ())
def h62_p0_o0_y : h62_p0_o0.den := (((), ((), ((), ((), ((), ((), ((), ((), ((), ((), ((), ((), ((), ((), ((), ((), ((), ((), ((), ()))))))))))))))))))), (), ())
def h62_p0_o1_y (x4 : Int) : h62_p0_o1.den := (((), ((), ((), ((), (x4, ((), ((), ((), ((), ((), ((), ((), ((), ((), ((), ((), ((), ((), ((), ()))))))))))))))))))), (), ())
def h62_p0_o1_x4 (z : h62_p0_o1.den) : Int := z.1.2.2.2.2.1
@[simp] theorem h62_p0_o1_x4_y x4 : h62_p0_o1_x4 (h62_p0_o1_y x4) = x4 := id rfl
theorem h62_p0_eq rec x0 x7 x8 : h62_p0_st rec (h62_p0_y x0 x7 x8) = (bif (decide (x8 < x7)) then ((nth x0 x8).bind fun y32 => (f49_F (y32, ())).bind fun r33 => bif r33.1 then (some (.inr ((h62_p0_o1_y x8)))) else (rec (h62_p0_y x0 x7 (IntKind.i64.wrap (x8 + (1 : Int)))))) else (some (.inl h62_p0_o0_y))) := by kernel_rfl
theorem h62_eq x0 : h62_F (h62_y x0) = ((go h62_p0_st (h62_p0_y x0 (x0.length : Int) (0 : Int))).bind fun o34 => (match o34 with | .inl z35 => some (h62_o_y (-1 : Int)) | .inr o36 => some (h62_o_y (h62_p0_o1_x4 o36)))) := by kernel_rfl
def h48_y (x0 : List Int) : h48_I.den := ((x0, (((), ()), ())), (), ())
def h48_o_y (x0 : Bool) : h48_O.den := ((x0, ()), (), ())
def h48_o_x0 (z : h48_O.den) : Bool := z.1.1
@[simp] theorem h48_o_x0_y x0 : h48_o_x0 (h48_o_y x0) = x0 := id rfl
theorem h48_eq x0 : h48_F (h48_y x0) = ((h62_F (h62_y x0)).bind fun z37 => some (h48_o_y (decide ((h62_o_x0 z37) ≥ (0 : Int))))) := by kernel_rfl
def f24_p0_y (r0_0 : Int) (r0_1 : List (List UInt8)) (r0_2 : List Int) : f24_p0_sh.den := (((), ((), ((), ((), ((), ((), ((), ((), ((), ((), ((), ((), ((), ((), ((), ((), ((), ((), ((), ((), ((), ((), ((), ((), ((), ((), ((), ((), ((), ((), ((), ((), ((), ((), ((), ((), ((), ((), ((), ((), ((), ((), ((), ((), ((), ((), ((), ((), ((), ((), ((), ((), ((), ((), ((), ((), ((), ((), ((), ((), ((), ((), ((), ()))))))))))))))))))))))))))))))))))))))))))))))))))))))))))))))), ((r0_0, (r0_1, (r0_2, ()))), ()), ())
def f24_p0_o0_y (x37 : Bool) (r0_0 : Int) (r0_1 : List (List UInt8)) (r0_2 : List Int) : f24_p0_o0.den := (((), ((), ((), ((), ((), ((), ((), ((), ((), ((), ((), ((), ((), ((), ((), ((), ((), ((), ((), ((), ((), ((), ((), ((), ((), ((), ((), ((), ((), ((), ((), ((), ((), ((), ((), ((), ((), (x37, ((), ((), ((), ((), ((), ((), ((), ((), ((), ((), ((), ((), ((), ((), ((), ((), ((), ((), ((), ((), ((), ((), ((), ((), ((), ()))))))))))))))))))))))))))))))))))))))))))))))))))))))))))))))), ((r0_0, (r0_1, (r0_2, ()))), ()), ())
def f24_p0_o0_x37 (z : f24_p0_o0.den) : Bool := z.1.2.2.2.2.2.2.2.2.2.2.2.2.2.2.2.2.2.2.2.2.2.2.2.2.2.2.2.2.2.2.2.2.2.2.2.2.2.1
def f24_p0_o0_r0_0 (z : f24_p0_o0.den) : Int := z.2.1.1.1
def f24_p0_o0_r0_1 (z : f24_p0_o0.den) : List (List UInt8) := z.2.1.1.2.1
def f24_p0_o0_r0_2 (z : f24_p0_o0.den) : List Int := z.2.1.1.2.2.1
@[simp] theorem f24_p0_o0_x37_y x37 r0_0 r0_1 r0_2 : f24_p0_o0_x37 (f24_p0_o0_y x37 r0_0 r0_1 r0_2) = x37 := id rfl
@[simp] theorem f24_p0_o0_r0_0_y x37 r0_0 r0_1 r0_2 : f24_p0_o0_r0_0 (f24_p0_o0_y x37 r0_0 r0_1 r0_2) = r0_0 := id rfl
@[simp] theorem f24_p0_o0_r0_1_y x37 r0_0 r0_1 r0_2 : f24_p0_o0_r0_1 (f24_p0_o0_y x37 r0_0 r0_1 r0_2) = r0_1 := id rfl
@[simp] theorem f24_p0_o0_r0_2_y x37 r0_0 r0_1 r0_2 : f24_p0_o0_r0_2 (f24_p0_o0_y x37 r0_0 r0_1 r0_2) = r0_2 := id rfl
theorem f24_p0_eq r0_0 r0_1 r0_2 : f24_p0_F (f24_p0_y r0_0 r0_1 r0_2) = ((h43a_F (h43a_y r0_1)).bind fun z38 => bif (h43a_o_x0 z38) then (some ((f24_p0_o0_y true r0_0 r0_1 r0_2))) else ((h46_F (h46_y r0_2)).bind fun z39 => some ((f24_p0_o0_y (h46_o_x0 z39) r0_0 r0_1 r0_2)))) := by kernel_rfl
def f24_p1_y (x4 : Bool) (r0_0 : Int) (r0_1 : List (List UInt8)) (r0_2 : List Int) (r1_0 : List UInt8) (r1_1 : Int) (r1_2 : Int) : f24_p1_sh.den := (((), ((), ((), ((), (x4, ((), ((), ((), ((), ((), ((), ((), ((), ((), ((), ((), ((), ((), ((), ((), ((), ((), ((), ((), ((), ((), ((), ((), ((), ((), ((), ((), ((), ((), ((), ((), ((), ((), ((), ((), ((), ((), ((), ((), ((), ((), ((), ((), ((), ((), ((), ((), ((), ((), ((), ((), ((), ((), ((), ((), ((), ((), ((), ()))))))))))))))))))))))))))))))))))))))))))))))))))))))))))))))), ((r0_0, (r0_1, (r0_2, ()))), ((r1_0, (r1_1, (r1_2, ()))), ())), ())
def f24_p1_o0_y (x29 : Bool) (r0_0 : Int) (r0_1 : List (List UInt8)) (r0_2 : List Int) : f24_p1_o0.den := (((), ((), ((), ((), ((), ((), ((), ((), ((), ((), ((), ((), ((), ((), ((), ((), ((), ((), ((), ((), ((), ((), ((), ((), ((), ((), ((), ((), ((), (x29, ((), ((), ((), ((), ((), ((), ((), ((), ((), ((), ((), ((), ((), ((), ((), ((), ((), ((), ((), ((), ((), ((), ((), ((), ((), ((), ((), ((), ((), ((), ((), ((), ((), ()))))))))))))))))))))))))))))))))))))))))))))))))))))))))))))))), ((r0_0, (r0_1, (r0_2, ()))), ()), ())
def f24_p1_o0_x29 (z : f24_p1_o0.den) : Bool := z.1.2.2.2.2.2.2.2.2.2.2.2.2.2.2.2.2.2.2.2.2.2.2.2.2.2.2.2.2.2.1
def f24_p1_o0_r0_0 (z : f24_p1_o0.den) : Int := z.2.1.1.1
def f24_p1_o0_r0_1 (z : f24_p1_o0.den) : List (List UInt8) := z.2.1.1.2.1
def f24_p1_o0_r0_2 (z : f24_p1_o0.den) : List Int := z.2.1.1.2.2.1
@[simp] theorem f24_p1_o0_x29_y x29 r0_0 r0_1 r0_2 : f24_p1_o0_x29 (f24_p1_o0_y x29 r0_0 r0_1 r0_2) = x29 := id rfl
@[simp] theorem f24_p1_o0_r0_0_y x29 r0_0 r0_1 r0_2 : f24_p1_o0_r0_0 (f24_p1_o0_y x29 r0_0 r0_1 r0_2) = r0_0 := id rfl
@[simp] theorem f24_p1_o0_r0_1_y x29 r0_0 r0_1 r0_2 : f24_p1_o0_r0_1 (f24_p1_o0_y x29 r0_0 r0_1 r0_2) = r0_1 := id rfl
@[simp] theorem f24_p1_o0_r0_2_y x29 r0_0 r0_1 r0_2 : f24_p1_o0_r0_2 (f24_p1_o0_y x29 r0_0 r0_1 r0_2) = r0_2 := id rfl
theorem f24_p1_eq x4 r0_0 r0_1 r0_2 r1_0 r1_1 r1_2 : f24_p1_F (f24_p1_y x4 r0_0 r0_1 r0_2 r1_0 r1_1 r1_2) = (bif (!x4) then (some ((f24_p1_o0_y true r0_0 r0_1 r0_2))) else (bif ((r0_1.length : Int) != r1_1) then (some ((f24_p1_o0_y true r0_0 r0_1 r0_2))) else (some ((f24_p1_o0_y ((r0_2.length : Int) != r1_2) r0_0 r0_1 r0_2))))) := by kernel_rfl
theorem f24_eq a0_0 a0_1 a0_2 : f24_F ((a0_0, (a0_1, (a0_2, ()))), ()) = ((h36_F h36_y).bind fun z40 => (f24_p1_F (f24_p1_y (mget (.int .i64) (.prod .str (.prod (.int .i64) (.int .i64))) true (h36_o_l0 z40) a0_0).isSome a0_0 a0_1 a0_2 ((mget (.int .i64) (.prod .str (.prod (.int .i64) (.int .i64))) true (h36_o_l0 z40) a0_0).getD (([] : List UInt8), ((0 : Int), (0 : Int)))).1 ((mget (.int .i64) (.prod .str (.prod (.int .i64) (.int .i64))) true (h36_o_l0 z40) a0_0).getD (([] : List UInt8), ((0 : Int), (0 : Int)))).2.1 ((mget (.int .i64) (.prod .str (.prod (.int .i64) (.int .i64))) true (h36_o_l0 z40) a0_0).getD (([] : List UInt8), ((0 : Int), (0 : Int)))).2.2)).bind fun o41 => bif (f24_p1_o0_x29 o41) then (some (false, ())) else ((f24_p0_F (f24_p0_y (f24_p1_o0_r0_0 o41) (f24_p1_o0_r0_1 o41) (f24_p1_o0_r0_2 o41))).bind fun o42 => bif (f24_p0_o0_x37 o42) then (some (false, ())) else (bif ((f24_p0_o0_r0_0 o42) == (2 : Int)) then ((nth (f24_p0_o0_r0_2 o42) (1 : Int)).bind fun y43 => some ((decide (y43 ≤ (1 : Int))), ())) else (bif ((f24_p0_o0_r0_0 o42) == (8 : Int)) then ((nth (f24_p0_o0_r0_2 o42) (0 : Int)).bind fun y44 => some ((decide (y44 ≤ (1 : Int))), ())) else (bif ((f24_p0_o0_r0_0 o42) == (6 : Int)) then ((nth (f24_p0_o0_r0_1 o42) (0 : Int)).bind fun y45 => (h48_F (h48_y (bytesOf y45))).bind fun z46 => some ((!(h48_o_x0 z46)), ())) else (some (true, ()))))))) := by kernel_rfl
theorem f23_eq a0_0 a0_1 a0_2 : f23_F ((a0_0, (a0_1, (a0_2, ()))), ()) = ((f24_F ((a0_0, (a0_1, (a0_2, ()))), ())).bind fun r47 => some ((!r47.1), ())) := by kernel_rfl
def h44_y (x0 : List ((Int × (List (List UInt8) × List Int)))) : h44_I.den := ((x0, (((), ()), ())), (), ())
def h44_o_y (x0 : Int) : h44_O.den := ((x0, ()), (), ())
def h44_o_x0 (z : h44_O.den) : Int := z.1.1
@[simp] theorem h44_o_x0_y x0 : h44_o_x0 (h44_o_y x0) = x0 := id rfl
def h44_p0_y (x0 : List ((Int × (List (List UInt8) × List Int)))) (x7 : Int) (x8 : Int) : h44_p0_sh.den := ((x0, (((), ()), ((), ((), ((), ((), ((), (x7, (x8, ((), ((), ((), ((), ((), ((), ((), ((), ((), ((), ()))))))))))))))))))), (), ())
def h44_p0_o0_y : h44_p0_o0.den := (((), ((), ((), ((), ((), ((), ((), ((), ((), ((), ((), ((), ((), ((), ((), ((), ((), ((), ((), ()))))))))))))))))))), (), ())
def h44_p0_o1_y (x4 : Int) : h44_p0_o1.den := (((), ((), ((), ((), (x4, ((), ((), ((), ((), ((), ((), ((), ((), ((), ((), ((), ((), ((), ((), ()))))))))))))))))))), (), ())
def h44_p0_o1_x4 (z : h44_p0_o1.den) : Int := z.1.2.2.2.2.1
@[simp] theorem h44_p0_o1_x4_y x4 : h44_p0_o1_x4 (h44_p0_o1_y x4) = x4 := id rfl
theorem h44_p0_eq rec x0 x7 x8 : h44_p0_st rec (h44_p0_y x0 x7 x8) = (bif (decide (x8 < x7)) then ((nth x0 x8).bind fun y48 => (f23_F ((y48.1, (y48.2.1, (y48.2.2, ()))), ())).bind fun r49 => bif r49.1 then (some (.inr ((h44_p0_o1_y x8)))) else (rec (h44_p0_y x0 x7 (IntKind.i64.wrap (x8 + (1 : Int)))))) else (some (.inl h44_p0_o0_y))) := by kernel_rfl
theorem h44_eq x0 : h44_F (h44_y x0) = ((go h44_p0_st (h44_p0_y x0 (x0.length : Int) (0 : Int))).bind fun o50 => (match o50 with | .inl z51 => some (h44_o_y (-1 : Int)) | .inr o52 => some (h44_o_y (h44_p0_o1_x4 o52)))) := by kernel_rfl
def h22_y (x0 : List ((Int × (List (List UInt8) × List Int)))) : h22_I.den := ((x0, (((), ()), ())), (), ())
def h22_o_y (x0 : Bool) : h22_O.den := ((x0, ()), (), ())
def h22_o_x0 (z : h22_O.den) : Bool := z.1.1
@[simp] theorem h22_o_x0_y x0 : h22_o_x0 (h22_o_y x0) = x0 := id rfl
theorem h22_eq x0 : h22_F (h22_y x0) = ((h44_F (h44_y x0)).bind fun z53 => some (h22_o_y (decide ((h44_o_x0 z53) ≥ (0 : Int))))) := by kernel_rfl
theorem f10_eq a0_0 a0_1 a0_2 a0_3 a0_4 : f10_F ((a0_0, (a0_1, (a0_2, (a0_3, (a0_4, ()))))), ()) = ((f21_F ((a0_0, (a0_1, (a0_2, (a0_3, (a0_4, ()))))), ())).bind fun r54 => bif r54.1 then (bif (decide ((a0_4.length : Int) ≤ (200 : Int))) then ((h22_F (h22_y a0_4)).bind fun z55 => some ((!(h22_o_x0 z55)), ())) else (some (false, ()))) else (some (false, ()))) := by kernel_rfl
def h52a_y (x1 : Int) (l0 : List Int) : h52a_I.den := (((), (x1, ())), (((), ((), ())), ()), (l0, ()))
def h52a_o_y (l0 : List Int) : h52a_O.den := (((), ()), (((), ((), ())), ()), (l0, ()))
def h52a_o_l0 (z : h52a_O.den) : List Int := z.2.2.1
@[simp] theorem h52a_o_l0_y l0 : h52a_o_l0 (h52a_o_y l0) = l0 := id rfl
theorem h52a_eq x1 l0 : h52a_F (h52a_y x1 l0) = ((h68_F (h68_y l0)).bind fun z57 => appOk ((h68_o_l0 z57).length + [x1].length) (some (h52a_o_y ((h68_o_l0 z57) ++ [x1])))) := by kernel_rfl
def f34_p0_y (x0 : List UInt8) (x6 : Int) (x7 : Int) (l0 : List Int) : f34_p0_sh.den := ((x0, ((), ((), ((), ((), ((), (x6, (x7, ((), ((), ((), ((), ((), ((), ((), ((), ((), ((), ((), ((), ((), ((), ((), ((), ())))))))))))))))))))))))), (((), ((), ())), ()), (l0, ()))
def f34_p0_o0_y (l0 : List Int) : f34_p0_o0.den := (((), ((), ((), ((), ((), ((), ((), ((), ((), ((), ((), ((), ((), ((), ((), ((), ((), ((), ((), ((), ((), ((), ((), ((), ())))))))))))))))))))))))), (((), ((), ())), ()), (l0, ()))
def f34_p0_o0_l0 (z : f34_p0_o0.den) : List Int := z.2.2.1
@[simp] theorem f34_p0_o0_l0_y l0 : f34_p0_o0_l0 (f34_p0_o0_y l0) = l0 := id rfl
theorem f34_p0_eq rec x0 x6 x7 l0 : f34_p0_st rec (f34_p0_y x0 x6 x7 l0) = (bif (decide (x7 < x6)) then ((nth x0 x7).bind fun c58 => (nth ([48, 49, 50, 51, 52, 53, 54, 55, 56, 57, 97, 98, 99, 100, 101, 102] : List UInt8) (Int.fdiv (c58.toNat : Int) (2 ^ (min (Int.toNat (4 : Int)) 8)))).bind fun c59 => (h52a_F (h52a_y (c59.toNat : Int) l0)).bind fun z60 => (nth x0 x7).bind fun c61 => (nth ([48, 49, 50, 51, 52, 53, 54, 55, 56, 57, 97, 98, 99, 100, 101, 102] : List UInt8) (IntKind.u8.wrap (((BitVec.ofInt 8 (c61.toNat : Int) &&& BitVec.ofInt 8 (15 : Int)).toNat : Int)))).bind fun c62 => (h52a_F (h52a_y (c62.toNat : Int) (h52a_o_l0 z60))).bind fun z63 => rec (f34_p0_y x0 x6 (IntKind.i64.wrap (x7 + (1 : Int))) (h52a_o_l0 z63))) else (some ((f34_p0_o0_y l0)))) := by kernel_rfl
theorem f34_eq a0 : f34_F (a0, ()) = ((go f34_p0_st (f34_p0_y a0 (a0.length : Int) (0 : Int) ([] : List (Int)))).bind fun o64 => (h53_F (h53_y (f34_p0_o0_l0 o64))).bind fun z65 => some ((h53_o_x0 z65), ())) := by kernel_rfl
def f15_p0_y (x8 : List (List UInt8)) (x9 : Int) (x10 : Int) (r0_0 : List (List UInt8)) (r0_1 : List UInt8) (r0_2 : Int) (r0_3 : Int) (r0_4 : List ((Int × (List (List UInt8) × List Int)))) (l0 : List (List UInt8)) : f15_p0_sh.den := (((), ((), ((), ((), ((), ((), ((), ((), (x8, (x9, (x10, ((), ((), ((), ((), ((), ((), ((), ((), ((), ((), ((), ((), ((), ((), ((), ((), ((), ((), ((), ((), ((), ((), ((), ())))))))))))))))))))))))))))))))))), ((r0_0, (r0_1, (r0_2, (r0_3, (r0_4, ()))))), ()), (l0, ()))
def f15_p0_o0_y (r0_0 : List (List UInt8)) (r0_1 : List UInt8) (r0_2 : Int) (r0_3 : Int) (r0_4 : List ((Int × (List (List UInt8) × List Int)))) (l0 : List (List UInt8)) : f15_p0_o0.den := (((), ((), ((), ((), ((), ((), ((), ((), ((), ((), ((), ((), ((), ((), ((), ((), ((), ((), ((), ((), ((), ((), ((), ((), ((), ((), ((), ((), ((), ((), ((), ((), ((), ((), ())))))))))))))))))))))))))))))))))), ((r0_0, (r0_1, (r0_2, (r0_3, (r0_4, ()))))), ()), (l0, ()))
def f15_p0_o0_r0_0 (z : f15_p0_o0.den) : List (List UInt8) := z.2.1.1.1
def f15_p0_o0_r0_1 (z : f15_p0_o0.den) : List UInt8 := z.2.1.1.2.1
def f15_p0_o0_r0_2 (z : f15_p0_o0.den) : Int := z.2.1.1.2.2.1
def f15_p0_o0_r0_3 (z : f15_p0_o0.den) : Int := z.2.1.1.2.2.2.1
def f15_p0_o0_r0_4 (z : f15_p0_o0.den) : List ((Int × (List (List UInt8) × List Int))) := z.2.1.1.2.2.2.2.1
def f15_p0_o0_l0 (z : f15_p0_o0.den) : List (List UInt8) := z.2.2.1
@[simp] theorem f15_p0_o0_r0_0_y r0_0 r0_1 r0_2 r0_3 r0_4 l0 : f15_p0_o0_r0_0 (f15_p0_o0_y r0_0 r0_1 r0_2 r0_3 r0_4 l0) = r0_0 := id rfl
@[simp] theorem f15_p0_o0_r0_1_y r0_0 r0_1 r0_2 r0_3 r0_4 l0 : f15_p0_o0_r0_1 (f15_p0_o0_y r0_0 r0_1 r0_2 r0_3 r0_4 l0) = r0_1 := id rfl
@[simp] theorem f15_p0_o0_r0_2_y r0_0 r0_1 r0_2 r0_3 r0_4 l0 : f15_p0_o0_r0_2 (f15_p0_o0_y r0_0 r0_1 r0_2 r0_3 r0_4 l0) = r0_2 := id rfl
@[simp] theorem f15_p0_o0_r0_3_y r0_0 r0_1 r0_2 r0_3 r0_4 l0 : f15_p0_o0_r0_3 (f15_p0_o0_y r0_0 r0_1 r0_2 r0_3 r0_4 l0) = r0_3 := id rfl
@[simp] theorem f15_p0_o0_r0_4_y r0_0 r0_1 r0_2 r0_3 r0_4 l0 : f15_p0_o0_r0_4 (f15_p0_o0_y r0_0 r0_1 r0_2 r0_3 r0_4 l0) = r0_4 := id rfl
@[simp] theorem f15_p0_o0_l0_y r0_0 r0_1 r0_2 r0_3 r0_4 l0 : f15_p0_o0_l0 (f15_p0_o0_y r0_0 r0_1 r0_2 r0_3 r0_4 l0) = l0 := id rfl
theorem f15_p0_eq rec x8 x9 x10 r0_0 r0_1 r0_2 r0_3 r0_4 l0 : f15_p0_st rec (f15_p0_y x8 x9 x10 r0_0 r0_1 r0_2 r0_3 r0_4 l0) = (bif (decide (x10 < x9)) then ((nth x8 x10).bind fun y66 => (f34_F (y66, ())).bind fun r67 => appOk (l0.length + [r67.1].length) (rec (f15_p0_y x8 x9 (IntKind.i64.wrap (x10 + (1 : Int))) r0_0 r0_1 r0_2 r0_3 r0_4 (l0 ++ [r67.1])))) else (some ((f15_p0_o0_y r0_0 r0_1 r0_2 r0_3 r0_4 l0)))) := by kernel_rfl
theorem f15_eq a0_0 a0_1 a0_2 a0_3 a0_4 : f15_F ((a0_0, (a0_1, (a0_2, (a0_3, (a0_4, ()))))), ()) = ((go f15_p0_st (f15_p0_y a0_0 (a0_0.length : Int) (0 : Int) a0_0 a0_1 a0_2 a0_3 a0_4 ([([115, 121, 115, 116, 101, 109] : List UInt8)] : List (List UInt8)))).bind fun o68 => (f34_F ((f15_p0_o0_r0_1 o68), ())).bind fun r69 => (itoaF ((f15_p0_o0_r0_2 o68), ())).bind fun r70 => (itoaF ((f15_p0_o0_r0_3 o68), ())).bind fun r71 => appOk ((f15_p0_o0_l0 o68).length + [r69.1, r70.1, r71.1].length) ((joinF (((f15_p0_o0_l0 o68) ++ [r69.1, r70.1, r71.1]), (([32] : List UInt8), ()))).bind fun r72 => some (r72.1, ()))) := by kernel_rfl
def f16_p0_y (x29 : List Int) (x30 : Int) (x31 : Int) (l1 : List (List UInt8)) : f16_p0_sh.den := (((), ((), ((), ((), ((), ((), ((), ((), ((), ((), ((), ((), ((), ((), ((), ((), ((), ((), ((), ((), ((), ((), ((), ((), ((), ((), ((), ((), ((), (x29, (x30, (x31, ((), ((), ((), ((), ((), ((), ((), ((), ((), ((), ((), ()))))))))))))))))))))))))))))))))))))))))))), (), (l1, ()))
def f16_p0_o0_y (l1 : List (List UInt8)) : f16_p0_o0.den := (((), ((), ((), ((), ((), ((), ((), ((), ((), ((), ((), ((), ((), ((), ((), ((), ((), ((), ((), ((), ((), ((), ((), ((), ((), ((), ((), ((), ((), ((), ((), ((), ((), ((), ((), ((), ((), ((), ((), ((), ((), ((), ((), ()))))))))))))))))))))))))))))))))))))))))))), (), (l1, ()))
def f16_p0_o0_l1 (z : f16_p0_o0.den) : List (List UInt8) := z.2.2.1
@[simp] theorem f16_p0_o0_l1_y l1 : f16_p0_o0_l1 (f16_p0_o0_y l1) = l1 := id rfl
theorem f16_p0_eq rec x29 x30 x31 l1 : f16_p0_st rec (f16_p0_y x29 x30 x31 l1) = (bif (decide (x31 < x30)) then ((nth x29 x31).bind fun y73 => (itoaF (y73, ())).bind fun r74 => appOk (l1.length + [r74.1].length) (rec (f16_p0_y x29 x30 (IntKind.i64.wrap (x31 + (1 : Int))) (l1 ++ [r74.1])))) else (some ((f16_p0_o0_y l1)))) := by kernel_rfl
def f16_p1_y (x15 : List (List UInt8)) (x16 : Int) (x17 : Int) (r0_0 : Int) (r0_1 : List (List UInt8)) (r0_2 : List Int) (l1 : List (List UInt8)) : f16_p1_sh.den := (((), ((), ((), ((), ((), ((), ((), ((), ((), ((), ((), ((), ((), ((), ((), (x15, (x16, (x17, ((), ((), ((), ((), ((), ((), ((), ((), ((), ((), ((), ((), ((), ((), ((), ((), ((), ((), ((), ((), ((), ((), ((), ((), ((), ()))))))))))))))))))))))))))))))))))))))))))), ((r0_0, (r0_1, (r0_2, ()))), ()), (l1, ()))
def f16_p1_o0_y (r0_0 : Int) (r0_1 : List (List UInt8)) (r0_2 : List Int) (l1 : List (List UInt8)) : f16_p1_o0.den := (((), ((), ((), ((), ((), ((), ((), ((), ((), ((), ((), ((), ((), ((), ((), ((), ((), ((), ((), ((), ((), ((), ((), ((), ((), ((), ((), ((), ((), ((), ((), ((), ((), ((), ((), ((), ((), ((), ((), ((), ((), ((), ((), ()))))))))))))))))))))))))))))))))))))))))))), ((r0_0, (r0_1, (r0_2, ()))), ()), (l1, ()))
def f16_p1_o0_r0_0 (z : f16_p1_o0.den) : Int := z.2.1.1.1
def f16_p1_o0_r0_1 (z : f16_p1_o0.den) : List (List UInt8) := z.2.1.1.2.1
def f16_p1_o0_r0_2 (z : f16_p1_o0.den) : List Int := z.2.1.1.2.2.1
def f16_p1_o0_l1 (z : f16_p1_o0.den) : List (List UInt8) := z.2.2.1
@[simp] theorem f16_p1_o0_r0_0_y r0_0 r0_1 r0_2 l1 : f16_p1_o0_r0_0 (f16_p1_o0_y r0_0 r0_1 r0_2 l1) = r0_0 := id rfl
@[simp] theorem f16_p1_o0_r0_1_y r0_0 r0_1 r0_2 l1 : f16_p1_o0_r0_1 (f16_p1_o0_y r0_0 r0_1 r0_2 l1) = r0_1 := id rfl
@[simp] theorem f16_p1_o0_r0_2_y r0_0 r0_1 r0_2 l1 : f16_p1_o0_r0_2 (f16_p1_o0_y r0_0 r0_1 r0_2 l1) = r0_2 := id rfl
@[simp] theorem f16_p1_o0_l1_y r0_0 r0_1 r0_2 l1 : f16_p1_o0_l1 (f16_p1_o0_y r0_0 r0_1 r0_2 l1) = l1 := id rfl
theorem f16_p1_eq rec x15 x16 x17 r0_0 r0_1 r0_2 l1 : f16_p1_st rec (f16_p1_y x15 x16 x17 r0_0 r0_1 r0_2 l1) = (bif (decide (x17 < x16)) then ((nth x15 x17).bind fun y75 => (f34_F (y75, ())).bind fun r76 => if ([120] : List UInt8).length + r76.1.length ≤ 4611686018427387904 then (appOk (l1.length + [(([120] : List UInt8) ++ r76.1)].length) (rec (f16_p1_y x15 x16 (IntKind.i64.wrap (x17 + (1 : Int))) r0_0 r0_1 r0_2 (l1 ++ [(([120] : List UInt8) ++ r76.1)])))) else none) else (some ((f16_p1_o0_y r0_0 r0_1 r0_2 l1)))) := by kernel_rfl
theorem f16_eq a0_0 a0_1 a0_2 : f16_F ((a0_0, (a0_1, (a0_2, ()))), ()) = ((h36_F h36_y).bind fun z77 => (go f16_p1_st (f16_p1_y a0_1 (a0_1.length : Int) (0 : Int) a0_0 a0_1 a0_2 ([((mget (.int .i64) (.prod .str (.prod (.int .i64) (.int .i64))) true (h36_o_l0 z77) a0_0).getD (([] : List UInt8), ((0 : Int), (0 : Int)))).1] : List (List UInt8)))).bind fun o78 => (go f16_p0_st (f16_p0_y (f16_p1_o0_r0_2 o78) ((f16_p1_o0_r0_2 o78).length : Int) (0 : Int) (f16_p1_o0_l1 o78))).bind fun o79 => (joinF ((f16_p0_o0_l1 o79), (([32] : List UInt8), ()))).bind fun r80 => some (r80.1, ())) := by kernel_rfl
def f6_p0_y (x4 : List UInt8) (x14 : List ((Int × (List (List UInt8) × List Int)))) (x15 : Int) (x16 : Int) : f6_p0_sh.den := (((), ((), ((), ((), (x4, ((), ((), ((), ((), ((), ((), ((), ((), ((), (x14, (x15, (x16, ((), ((), ((), ((), ((), ((), ((), ((), ((), ((), ()))))))))))))))))))))))))))), (), ())
def f6_p0_o0_y (x4 : List UInt8) : f6_p0_o0.den := (((), ((), ((), ((), (x4, ((), ((), ((), ((), ((), ((), ((), ((), ((), ((), ((), ((), ((), ((), ((), ((), ((), ((), ((), ((), ((), ((), ()))))))))))))))))))))))))))), (), ())
def f6_p0_o0_x4 (z : f6_p0_o0.den) : List UInt8 := z.1.2.2.2.2.1
@[simp] theorem f6_p0_o0_x4_y x4 : f6_p0_o0_x4 (f6_p0_o0_y x4) = x4 := id rfl
theorem f6_p0_eq rec x4 x14 x15 x16 : f6_p0_st rec (f6_p0_y x4 x14 x15 x16) = (bif (decide (x16 < x15)) then ((nth x14 x16).bind fun y81 => (f16_F ((y81.1, (y81.2.1, (y81.2.2, ()))), ())).bind fun r82 => if r82.1.length + ([10] : List UInt8).length ≤ 4611686018427387904 then (if x4.length + (r82.1 ++ ([10] : List UInt8)).length ≤ 4611686018427387904 then (rec (f6_p0_y (x4 ++ (r82.1 ++ ([10] : List UInt8))) x14 x15 (IntKind.i64.wrap (x16 + (1 : Int))))) else none) else none) else (some ((f6_p0_o0_y x4)))) := by kernel_rfl
theorem f6_eq a0_0 a0_1 a0_2 a0_3 a0_4 : f6_F ((a0_0, (a0_1, (a0_2, (a0_3, (a0_4, ()))))), ()) = ((f10_F ((a0_0, (a0_1, (a0_2, (a0_3, (a0_4, ()))))), ())).bind fun r83 => bif (!r83.1) then (some (([] : List UInt8), ((1 : Int), ()))) else ((f15_F ((a0_0, (a0_1, (a0_2, (a0_3, (a0_4, ()))))), ())).bind fun r84 => if r84.1.length + ([10] : List UInt8).length ≤ 4611686018427387904 then ((go f6_p0_st (f6_p0_y (r84.1 ++ ([10] : List UInt8)) a0_4 (a0_4.length : Int) (0 : Int))).bind fun o85 => some ((f6_p0_o0_x4 o85), ((0 : Int), ()))) else none)) := by kernel_rfl
def f57_p0_y (x0 : List UInt8) (x5 : Int) (x6 : Int) (l0 : List Int) : f57_p0_sh.den := ((x0, ((), ((), ((), ((), (x5, (x6, ((), ((), ((), ((), ((), ((), ((), ((), ((), ((), ((), ((), ((), ((), ((), ((), ((), ((), ((), ((), ((), ((), ((), ((), ((), ((), ((), ((), ((), ())))))))))))))))))))))))))))))))))))), (), (l0, ()))
def f57_p0_o0_y (x0 : List UInt8) (x5 : Int) (x6 : Int) (x23 : Bool) (l0 : List Int) : f57_p0_o0.den := ((x0, ((), ((), ((), ((), (x5, (x6, ((), ((), ((), ((), ((), ((), ((), ((), ((), ((), ((), ((), ((), ((), ((), ((), (x23, ((), ((), ((), ((), ((), ((), ((), ((), ((), ((), ((), ((), ())))))))))))))))))))))))))))))))))))), (), (l0, ()))
def f57_p0_o0_x0 (z : f57_p0_o0.den) : List UInt8 := z.1.1
def f57_p0_o0_x5 (z : f57_p0_o0.den) : Int := z.1.2.2.2.2.2.1
def f57_p0_o0_x6 (z : f57_p0_o0.den) : Int := z.1.2.2.2.2.2.2.1
def f57_p0_o0_x23 (z : f57_p0_o0.den) : Bool := z.1.2.2.2.2.2.2.2.2.2.2.2.2.2.2.2.2.2.2.2.2.2.2.2.1
def f57_p0_o0_l0 (z : f57_p0_o0.den) : List Int := z.2.2.1
@[simp] theorem f57_p0_o0_x0_y x0 x5 x6 x23 l0 : f57_p0_o0_x0 (f57_p0_o0_y x0 x5 x6 x23 l0) = x0 := id rfl
@[simp] theorem f57_p0_o0_x5_y x0 x5 x6 x23 l0 : f57_p0_o0_x5 (f57_p0_o0_y x0 x5 x6 x23 l0) = x5 := id rfl
@[simp] theorem f57_p0_o0_x6_y x0 x5 x6 x23 l0 : f57_p0_o0_x6 (f57_p0_o0_y x0 x5 x6 x23 l0) = x6 := id rfl
@[simp] theorem f57_p0_o0_x23_y x0 x5 x6 x23 l0 : f57_p0_o0_x23 (f57_p0_o0_y x0 x5 x6 x23 l0) = x23 := id rfl
@[simp] theorem f57_p0_o0_l0_y x0 x5 x6 x23 l0 : f57_p0_o0_l0 (f57_p0_o0_y x0 x5 x6 x23 l0) = l0 := id rfl
theorem f57_p0_eq x0 x5 x6 l0 : f57_p0_F (f57_p0_y x0 x5 x6 l0) = (bif (decide (x5 < (0 : Int))) then (some ((f57_p0_o0_y x0 x5 x6 true l0))) else (some ((f57_p0_o0_y x0 x5 x6 (decide (x6 < (0 : Int))) l0)))) := by kernel_rfl
def f57_p1_y (x0 : List UInt8) (l0 : List Int) : f57_p1_sh.den := ((x0, ((), ((), ((), ((), ((), ((), ((), ((), ((), ((), ((), ((), ((), ((), ((), ((), ((), ((), ((), ((), ((), ((), ((), ((), ((), ((), ((), ((), ((), ((), ((), ((), ((), ((), ((), ())))))))))))))))))))))))))))))))))))), (), (l0, ()))
def f57_p1_o0_y (x0 : List UInt8) (l0 : List Int) : f57_p1_o0.den := ((x0, ((), ((), ((), ((), ((), ((), ((), ((), ((), ((), ((), ((), ((), ((), ((), ((), ((), ((), ((), ((), ((), ((), ((), ((), ((), ((), ((), ((), ((), ((), ((), ((), ((), ((), ((), ())))))))))))))))))))))))))))))))))))), (), (l0, ()))
def f57_p1_o0_x0 (z : f57_p1_o0.den) : List UInt8 := z.1.1
def f57_p1_o0_l0 (z : f57_p1_o0.den) : List Int := z.2.2.1
@[simp] theorem f57_p1_o0_x0_y x0 l0 : f57_p1_o0_x0 (f57_p1_o0_y x0 l0) = x0 := id rfl
@[simp] theorem f57_p1_o0_l0_y x0 l0 : f57_p1_o0_l0 (f57_p1_o0_y x0 l0) = l0 := id rfl
def f57_p1_o1_y (x2 : List UInt8) (x3 : Int) : f57_p1_o1.den := (((), ((), (x2, (x3, ((), ((), ((), ((), ((), ((), ((), ((), ((), ((), ((), ((), ((), ((), ((), ((), ((), ((), ((), ((), ((), ((), ((), ((), ((), ((), ((), ((), ((), ((), ((), ((), ())))))))))))))))))))))))))))))))))))), (), ())
def f57_p1_o1_x2 (z : f57_p1_o1.den) : List UInt8 := z.1.2.2.1
def f57_p1_o1_x3 (z : f57_p1_o1.den) : Int := z.1.2.2.2.1
theorem f57_p1_eq rec x0 l0 : f57_p1_st rec (f57_p1_y x0 l0) = (bif (decide ((x0.length : Int) ≥ (2 : Int))) then ((nth x0 (0 : Int)).bind fun c86 => (indexF (([48, 49, 50, 51, 52, 53, 54, 55, 56, 57, 97, 98, 99, 100, 101, 102] : List UInt8), ((c86.toNat : Int), ()))).bind fun r87 => (nth x0 (1 : Int)).bind fun c88 => (indexF (([48, 49, 50, 51, 52, 53, 54, 55, 56, 57, 97, 98, 99, 100, 101, 102] : List UInt8), ((c88.toNat : Int), ()))).bind fun r89 => (f57_p0_F (f57_p0_y x0 r87.1 r89.1 l0)).bind fun o90 => bif (f57_p0_o0_x23 o90) then (some (.inr ((f57_p1_o1_y ([] : List UInt8) (4 : Int))))) else (appOk ((f57_p0_o0_l0 o90).length + [(IntKind.u8.wrap (IntKind.i64.wrap (((BitVec.ofInt 64 (IntKind.i64.wrap ((f57_p0_o0_x5 o90) * 2 ^ (min (Int.toNat (4 : Int)) 64))) ||| BitVec.ofInt 64 (f57_p0_o0_x6 o90)).toNat : Int))))].length) (cutLo (f57_p0_o0_x0 o90) (2 : Int) fun s91 => rec (f57_p1_y s91 ((f57_p0_o0_l0 o90) ++ [(IntKind.u8.wrap (IntKind.i64.wrap (((BitVec.ofInt 64 (IntKind.i64.wrap ((f57_p0_o0_x5 o90) * 2 ^ (min (Int.toNat (4 : Int)) 64))) ||| BitVec.ofInt 64 (f57_p0_o0_x6 o90)).toNat : Int))))]))))) else (some (.inl (f57_p1_o0_y x0 l0)))) := by kernel_rfl
theorem f57_eq a0 : f57_F (a0, ()) = ((go f57_p1_st (f57_p1_y a0 ([] : List (Int)))).bind fun o92 => (match o92 with | .inl z93 => bif ((f57_p1_o0_x0 z93) != ([] : List UInt8)) then (some (([] : List UInt8), ((4 : Int), ()))) else (some ((strOf (f57_p1_o0_l0 z93)), ((0 : Int), ()))) | .inr o94 => some ((f57_p1_o1_x2 o94), ((f57_p1_o1_x3 o94), ())))) := by kernel_rfl
theorem f38_eq a0 : f38_F (a0, ()) = ((f57_F (a0, ())).bind fun r95 => some (r95.1, ())) := by kernel_rfl
def h17_y (x0 : List UInt8) : h17_I.den := ((x0, ()), (), ())
def h17_o_y (x0_1 : List UInt8) (x0_2 : Int) (x0_3 : Int) (x1 : Bool) (l0 : List (List UInt8)) : h17_O.den := ((((), (x0_1, (x0_2, (x0_3, ((), ()))))), (x1, ())), (), (l0, ()))
def h17_o_x0_1 (z : h17_O.den) : List UInt8 := z.1.1.2.1
def h17_o_x0_2 (z : h17_O.den) : Int := z.1.1.2.2.1
def h17_o_x0_3 (z : h17_O.den) : Int := z.1.1.2.2.2.1
def h17_o_x1 (z : h17_O.den) : Bool := z.1.2.1
def h17_o_l0 (z : h17_O.den) : List (List UInt8) := z.2.2.1
@[simp] theorem h17_o_x0_1_y x0_1 x0_2 x0_3 x1 l0 : h17_o_x0_1 (h17_o_y x0_1 x0_2 x0_3 x1 l0) = x0_1 := id rfl
@[simp] theorem h17_o_x0_2_y x0_1 x0_2 x0_3 x1 l0 : h17_o_x0_2 (h17_o_y x0_1 x0_2 x0_3 x1 l0) = x0_2 := id rfl
@[simp] theorem h17_o_x0_3_y x0_1 x0_2 x0_3 x1 l0 : h17_o_x0_3 (h17_o_y x0_1 x0_2 x0_3 x1 l0) = x0_3 := id rfl
@[simp] theorem h17_o_x1_y x0_1 x0_2 x0_3 x1 l0 : h17_o_x1 (h17_o_y x0_1 x0_2 x0_3 x1 l0) = x1 := id rfl
@[simp] theorem h17_o_l0_y x0_1 x0_2 x0_3 x1 l0 : h17_o_l0 (h17_o_y x0_1 x0_2 x0_3 x1 l0) = l0 := id rfl
def h17_p0_y (x0 : List UInt8) (x28 : List (List UInt8)) (x29 : Int) (x30 : Int) (r0_1 : List UInt8) (r0_2 : Int) (r0_3 : Int) (r1_1 : List UInt8) (r1_2 : Int) (r1_3 : Int) (l0 : List (List UInt8)) : h17_p0_sh.den := ((x0, ((), ((), ((), ((), ((), ((), ((), ((), ((), ((), ((), ((), ((), ((), ((), ((), ((), ((), ((), ((), ((), ((), ((), ((), ((), ((), ((), (x28, (x29, (x30, ((), ((), ((), ((), ((), ((), ((), ((), ((), ((), ((), ((), ((), ((), ((), ((), ((), ((), ((), ((), ()))))))))))))))))))))))))))))))))))))))))))))))))))), (((), (r0_1, (r0_2, (r0_3, ((), ()))))), (((), (r1_1, (r1_2, (r1_3, ((), ()))))), ())), (l0, ()))
def h17_p0_o0_y (x0 : List UInt8) (r0_1 : List UInt8) (r0_2 : Int) (r0_3 : Int) (r1_1 : List UInt8) (r1_2 : Int) (r1_3 : Int) (l0 : List (List UInt8)) : h17_p0_o0.den := ((x0, ((), ((), ((), ((), ((), ((), ((), ((), ((), ((), ((), ((), ((), ((), ((), ((), ((), ((), ((), ((), ((), ((), ((), ((), ((), ((), ((), ((), ((), ((), ((), ((), ((), ((), ((), ((), ((), ((), ((), ((), ((), ((), ((), ((), ((), ((), ((), ((), ((), ((), ()))))))))))))))))))))))))))))))))))))))))))))))))))), (((), (r0_1, (r0_2, (r0_3, ((), ()))))), (((), (r1_1, (r1_2, (r1_3, ((), ()))))), ())), (l0, ()))
def h17_p0_o0_x0 (z : h17_p0_o0.den) : List UInt8 := z.1.1
def h17_p0_o0_r0_1 (z : h17_p0_o0.den) : List UInt8 := z.2.1.1.2.1
def h17_p0_o0_r0_2 (z : h17_p0_o0.den) : Int := z.2.1.1.2.2.1
def h17_p0_o0_r0_3 (z : h17_p0_o0.den) : Int := z.2.1.1.2.2.2.1
def h17_p0_o0_r1_1 (z : h17_p0_o0.den) : List UInt8 := z.2.1.2.1.2.1
def h17_p0_o0_r1_2 (z : h17_p0_o0.den) : Int := z.2.1.2.1.2.2.1
def h17_p0_o0_r1_3 (z : h17_p0_o0.den) : Int := z.2.1.2.1.2.2.2.1
def h17_p0_o0_l0 (z : h17_p0_o0.den) : List (List UInt8) := z.2.2.1
@[simp] theorem h17_p0_o0_x0_y x0 r0_1 r0_2 r0_3 r1_1 r1_2 r1_3 l0 : h17_p0_o0_x0 (h17_p0_o0_y x0 r0_1 r0_2 r0_3 r1_1 r1_2 r1_3 l0) = x0 := id rfl
@[simp] theorem h17_p0_o0_r0_1_y x0 r0_1 r0_2 r0_3 r1_1 r1_2 r1_3 l0 : h17_p0_o0_r0_1 (h17_p0_o0_y x0 r0_1 r0_2 r0_3 r1_1 r1_2 r1_3 l0) = r0_1 := id rfl
@[simp] theorem h17_p0_o0_r0_2_y x0 r0_1 r0_2 r0_3 r1_1 r1_2 r1_3 l0 : h17_p0_o0_r0_2 (h17_p0_o0_y x0 r0_1 r0_2 r0_3 r1_1 r1_2 r1_3 l0) = r0_2 := id rfl
@[simp] theorem h17_p0_o0_r0_3_y x0 r0_1 r0_2 r0_3 r1_1 r1_2 r1_3 l0 : h17_p0_o0_r0_3 (h17_p0_o0_y x0 r0_1 r0_2 r0_3 r1_1 r1_2 r1_3 l0) = r0_3 := id rfl
@[simp] theorem h17_p0_o0_r1_1_y x0 r0_1 r0_2 r0_3 r1_1 r1_2 r1_3 l0 : h17_p0_o0_r1_1 (h17_p0_o0_y x0 r0_1 r0_2 r0_3 r1_1 r1_2 r1_3 l0) = r1_1 := id rfl
@[simp] theorem h17_p0_o0_r1_2_y x0 r0_1 r0_2 r0_3 r1_1 r1_2 r1_3 l0 : h17_p0_o0_r1_2 (h17_p0_o0_y x0 r0_1 r0_2 r0_3 r1_1 r1_2 r1_3 l0) = r1_2 := id rfl
@[simp] theorem h17_p0_o0_r1_3_y x0 r0_1 r0_2 r0_3 r1_1 r1_2 r1_3 l0 : h17_p0_o0_r1_3 (h17_p0_o0_y x0 r0_1 r0_2 r0_3 r1_1 r1_2 r1_3 l0) = r1_3 := id rfl
@[simp] theorem h17_p0_o0_l0_y x0 r0_1 r0_2 r0_3 r1_1 r1_2 r1_3 l0 : h17_p0_o0_l0 (h17_p0_o0_y x0 r0_1 r0_2 r0_3 r1_1 r1_2 r1_3 l0) = l0 := id rfl
theorem h17_p0_eq rec x0 x28 x29 x30 r0_1 r0_2 r0_3 r1_1 r1_2 r1_3 l0 : h17_p0_st rec (h17_p0_y x0 x28 x29 x30 r0_1 r0_2 r0_3 r1_1 r1_2 r1_3 l0) = (bif (decide (x30 < x29)) then ((nth x28 x30).bind fun y96 => (f38_F (y96, ())).bind fun r97 => appOk (l0.length + [r97.1].length) (rec (h17_p0_y x0 x28 x29 (IntKind.i64.wrap (x30 + (1 : Int))) r0_1 r0_2 r0_3 r1_1 r1_2 r1_3 (l0 ++ [r97.1])))) else (some ((h17_p0_o0_y x0 r0_1 r0_2 r0_3 r1_1 r1_2 r1_3 l0)))) := by kernel_rfl
theorem h17_eq x0 : h17_F (h17_y x0) = ((splitF (x0, (([32] : List UInt8), ()))).bind fun r98 => bif ((r98.1.length : Int) != (8 : Int)) then (some (h17_o_y ([] : List UInt8) (0 : Int) (0 : Int) false ([] : List (List UInt8)))) else ((nth r98.1 (5 : Int)).bind fun y99 => (f38_F (y99, ())).bind fun r100 => (nth r98.1 (6 : Int)).bind fun y101 => (numberF (y101, ())).bind fun r102 => (nth r98.1 (7 : Int)).bind fun y103 => (numberF (y103, ())).bind fun r104 => cutMid r98.1 (1 : Int) (5 : Int) fun s105 => (go h17_p0_st (h17_p0_y x0 s105 (s105.length : Int) (0 : Int) ([] : List UInt8) (0 : Int) (0 : Int) r100.1 r102.1 r104.1 ([] : List (List UInt8)))).bind fun o106 => (f21_F (((h17_p0_o0_l0 o106), ((h17_p0_o0_r1_1 o106), ((h17_p0_o0_r1_2 o106), ((h17_p0_o0_r1_3 o106), (([] : List ((Int × (List (List UInt8) × List Int)))), ()))))), ())).bind fun r107 => bif r107.1 then ((f15_F (((h17_p0_o0_l0 o106), ((h17_p0_o0_r1_1 o106), ((h17_p0_o0_r1_2 o106), ((h17_p0_o0_r1_3 o106), (([] : List ((Int × (List (List UInt8) × List Int)))), ()))))), ())).bind fun r108 => some (h17_o_y (h17_p0_o0_r1_1 o106) (h17_p0_o0_r1_2 o106) (h17_p0_o0_r1_3 o106) (r108.1 == (h17_p0_o0_x0 o106)) (h17_p0_o0_l0 o106))) else (some (h17_o_y (h17_p0_o0_r1_1 o106) (h17_p0_o0_r1_2 o106) (h17_p0_o0_r1_3 o106) false (h17_p0_o0_l0 o106))))) := by kernel_rfl
def f18_p0_y (x0 : List UInt8) (x39 : List (List UInt8)) (x40 : Int) (x41 : Int) (r0_0 : Int) (r1_0 : List UInt8) (r1_1 : Int) (r1_2 : Int) (r2_0 : Int) (l0 : List (List UInt8)) (l1 : List Int) : f18_p0_sh.den := ((x0, ((), ((), ((), ((), ((), ((), ((), ((), ((), ((), ((), ((), ((), ((), ((), ((), ((), ((), ((), ((), ((), ((), ((), ((), ((), ((), ((), ((), ((), ((), ((), ((), ((), ((), ((), ((), ((), ((), (x39, (x40, (x41, ((), ((), ((), ((), ((), ((), ((), ((), ((), ((), ((), ((), ((), ((), ((), ((), ((), ((), ((), ((), ((), ((), ((), ((), ((), ((), ((), ((), ((), ((), ((), ((), ((), ((), ())))))))))))))))))))))))))))))))))))))))))))))))))))))))))))))))))))))))))))), ((r0_0, ((), ((), ()))), ((r1_0, (r1_1, (r1_2, ()))), ((r2_0, ((), ((), ()))), ()))), (l0, (l1, ())))
def f18_p0_o0_y (x0 : List UInt8) (x39 : List (List UInt8)) (x40 : Int) (x41 : Int) (r0_0 : Int) (r1_0 : List UInt8) (r1_1 : Int) (r1_2 : Int) (r2_0 : Int) (l0 : List (List UInt8)) (l1 : List Int) : f18_p0_o0.den := ((x0, ((), ((), ((), ((), ((), ((), ((), ((), ((), ((), ((), ((), ((), ((), ((), ((), ((), ((), ((), ((), ((), ((), ((), ((), ((), ((), ((), ((), ((), ((), ((), ((), ((), ((), ((), ((), ((), ((), (x39, (x40, (x41, ((), ((), ((), ((), ((), ((), ((), ((), ((), ((), ((), ((), ((), ((), ((), ((), ((), ((), ((), ((), ((), ((), ((), ((), ((), ((), ((), ((), ((), ((), ((), ((), ((), ((), ())))))))))))))))))))))))))))))))))))))))))))))))))))))))))))))))))))))))))))), ((r0_0, ((), ((), ()))), ((r1_0, (r1_1, (r1_2, ()))), ((r2_0, ((), ((), ()))), ()))), (l0, (l1, ())))
def f18_p0_o0_x0 (z : f18_p0_o0.den) : List UInt8 := z.1.1
def f18_p0_o0_x39 (z : f18_p0_o0.den) : List (List UInt8) := z.1.2.2.2.2.2.2.2.2.2.2.2.2.2.2.2.2.2.2.2.2.2.2.2.2.2.2.2.2.2.2.2.2.2.2.2.2.2.2.2.1
def f18_p0_o0_x40 (z : f18_p0_o0.den) : Int := z.1.2.2.2.2.2.2.2.2.2.2.2.2.2.2.2.2.2.2.2.2.2.2.2.2.2.2.2.2.2.2.2.2.2.2.2.2.2.2.2.2.1
def f18_p0_o0_x41 (z : f18_p0_o0.den) : Int := z.1.2.2.2.2.2.2.2.2.2.2.2.2.2.2.2.2.2.2.2.2.2.2.2.2.2.2.2.2.2.2.2.2.2.2.2.2.2.2.2.2.2.1
def f18_p0_o0_r0_0 (z : f18_p0_o0.den) : Int := z.2.1.1.1
def f18_p0_o0_r1_0 (z : f18_p0_o0.den) : List UInt8 := z.2.1.2.1.1
def f18_p0_o0_r1_1 (z : f18_p0_o0.den) : Int := z.2.1.2.1.2.1
def f18_p0_o0_r1_2 (z : f18_p0_o0.den) : Int := z.2.1.2.1.2.2.1
def f18_p0_o0_r2_0 (z : f18_p0_o0.den) : Int := z.2.1.2.2.1.1
def f18_p0_o0_l0 (z : f18_p0_o0.den) : List (List UInt8) := z.2.2.1
def f18_p0_o0_l1 (z : f18_p0_o0.den) : List Int := z.2.2.2.1
@[simp] theorem f18_p0_o0_x0_y x0 x39 x40 x41 r0_0 r1_0 r1_1 r1_2 r2_0 l0 l1 : f18_p0_o0_x0 (f18_p0_o0_y x0 x39 x40 x41 r0_0 r1_0 r1_1 r1_2 r2_0 l0 l1) = x0 := id rfl
@[simp] theorem f18_p0_o0_x39_y x0 x39 x40 x41 r0_0 r1_0 r1_1 r1_2 r2_0 l0 l1 : f18_p0_o0_x39 (f18_p0_o0_y x0 x39 x40 x41 r0_0 r1_0 r1_1 r1_2 r2_0 l0 l1) = x39 := id rfl
@[simp] theorem f18_p0_o0_x40_y x0 x39 x40 x41 r0_0 r1_0 r1_1 r1_2 r2_0 l0 l1 : f18_p0_o0_x40 (f18_p0_o0_y x0 x39 x40 x41 r0_0 r1_0 r1_1 r1_2 r2_0 l0 l1) = x40 := id rfl
@[simp] theorem f18_p0_o0_x41_y x0 x39 x40 x41 r0_0 r1_0 r1_1 r1_2 r2_0 l0 l1 : f18_p0_o0_x41 (f18_p0_o0_y x0 x39 x40 x41 r0_0 r1_0 r1_1 r1_2 r2_0 l0 l1) = x41 := id rfl
@[simp] theorem f18_p0_o0_r0_0_y x0 x39 x40 x41 r0_0 r1_0 r1_1 r1_2 r2_0 l0 l1 : f18_p0_o0_r0_0 (f18_p0_o0_y x0 x39 x40 x41 r0_0 r1_0 r1_1 r1_2 r2_0 l0 l1) = r0_0 := id rfl
@[simp] theorem f18_p0_o0_r1_0_y x0 x39 x40 x41 r0_0 r1_0 r1_1 r1_2 r2_0 l0 l1 : f18_p0_o0_r1_0 (f18_p0_o0_y x0 x39 x40 x41 r0_0 r1_0 r1_1 r1_2 r2_0 l0 l1) = r1_0 := id rfl
@[simp] theorem f18_p0_o0_r1_1_y x0 x39 x40 x41 r0_0 r1_0 r1_1 r1_2 r2_0 l0 l1 : f18_p0_o0_r1_1 (f18_p0_o0_y x0 x39 x40 x41 r0_0 r1_0 r1_1 r1_2 r2_0 l0 l1) = r1_1 := id rfl
@[simp] theorem f18_p0_o0_r1_2_y x0 x39 x40 x41 r0_0 r1_0 r1_1 r1_2 r2_0 l0 l1 : f18_p0_o0_r1_2 (f18_p0_o0_y x0 x39 x40 x41 r0_0 r1_0 r1_1 r1_2 r2_0 l0 l1) = r1_2 := id rfl
@[simp] theorem f18_p0_o0_r2_0_y x0 x39 x40 x41 r0_0 r1_0 r1_1 r1_2 r2_0 l0 l1 : f18_p0_o0_r2_0 (f18_p0_o0_y x0 x39 x40 x41 r0_0 r1_0 r1_1 r1_2 r2_0 l0 l1) = r2_0 := id rfl
@[simp] theorem f18_p0_o0_l0_y x0 x39 x40 x41 r0_0 r1_0 r1_1 r1_2 r2_0 l0 l1 : f18_p0_o0_l0 (f18_p0_o0_y x0 x39 x40 x41 r0_0 r1_0 r1_1 r1_2 r2_0 l0 l1) = l0 := id rfl
@[simp] theorem f18_p0_o0_l1_y x0 x39 x40 x41 r0_0 r1_0 r1_1 r1_2 r2_0 l0 l1 : f18_p0_o0_l1 (f18_p0_o0_y x0 x39 x40 x41 r0_0 r1_0 r1_1 r1_2 r2_0 l0 l1) = l1 := id rfl
theorem f18_p0_eq x0 x39 x40 x41 r0_0 r1_0 r1_1 r1_2 r2_0 l0 l1 : f18_p0_F (f18_p0_y x0 x39 x40 x41 r0_0 r1_0 r1_1 r1_2 r2_0 l0 l1) = ((nth x39 x41).bind fun y109 => bif (decide (x41 < r1_1)) then ((trimF (y109, (([120] : List UInt8), ()))).bind fun r110 => (f38_F (r110.1, ())).bind fun r111 => appOk (l0.length + [r111.1].length) (some ((f18_p0_o0_y x0 x39 x40 x41 r0_0 r1_0 r1_1 r1_2 r2_0 (l0 ++ [r111.1]) l1)))) else ((numberF (y109, ())).bind fun r112 => appOk (l1.length + [r112.1].length) (some ((f18_p0_o0_y x0 x39 x40 x41 r0_0 r1_0 r1_1 r1_2 r2_0 l0 (l1 ++ [r112.1])))))) := by kernel_rfl
def f18_p1_y (x0 : List UInt8) (x39 : List (List UInt8)) (x40 : Int) (x41 : Int) (r0_0 : Int) (r1_0 : List UInt8) (r1_1 : Int) (r1_2 : Int) (r2_0 : Int) (l0 : List (List UInt8)) (l1 : List Int) : f18_p1_sh.den := ((x0, ((), ((), ((), ((), ((), ((), ((), ((), ((), ((), ((), ((), ((), ((), ((), ((), ((), ((), ((), ((), ((), ((), ((), ((), ((), ((), ((), ((), ((), ((), ((), ((), ((), ((), ((), ((), ((), ((), (x39, (x40, (x41, ((), ((), ((), ((), ((), ((), ((), ((), ((), ((), ((), ((), ((), ((), ((), ((), ((), ((), ((), ((), ((), ((), ((), ((), ((), ((), ((), ((), ((), ((), ((), ((), ((), ((), ())))))))))))))))))))))))))))))))))))))))))))))))))))))))))))))))))))))))))))), ((r0_0, ((), ((), ()))), ((r1_0, (r1_1, (r1_2, ()))), ((r2_0, ((), ((), ()))), ()))), (l0, (l1, ())))
def f18_p1_o0_y (x0 : List UInt8) (r0_0 : Int) (r2_0 : Int) (l0 : List (List UInt8)) (l1 : List Int) : f18_p1_o0.den := ((x0, ((), ((), ((), ((), ((), ((), ((), ((), ((), ((), ((), ((), ((), ((), ((), ((), ((), ((), ((), ((), ((), ((), ((), ((), ((), ((), ((), ((), ((), ((), ((), ((), ((), ((), ((), ((), ((), ((), ((), ((), ((), ((), ((), ((), ((), ((), ((), ((), ((), ((), ((), ((), ((), ((), ((), ((), ((), ((), ((), ((), ((), ((), ((), ((), ((), ((), ((), ((), ((), ((), ((), ((), ((), ((), ((), ())))))))))))))))))))))))))))))))))))))))))))))))))))))))))))))))))))))))))))), ((r0_0, ((), ((), ()))), ((r2_0, ((), ((), ()))), ())), (l0, (l1, ())))
def f18_p1_o0_x0 (z : f18_p1_o0.den) : List UInt8 := z.1.1
def f18_p1_o0_r0_0 (z : f18_p1_o0.den) : Int := z.2.1.1.1
def f18_p1_o0_r2_0 (z : f18_p1_o0.den) : Int := z.2.1.2.1.1
def f18_p1_o0_l0 (z : f18_p1_o0.den) : List (List UInt8) := z.2.2.1
def f18_p1_o0_l1 (z : f18_p1_o0.den) : List Int := z.2.2.2.1
@[simp] theorem f18_p1_o0_x0_y x0 r0_0 r2_0 l0 l1 : f18_p1_o0_x0 (f18_p1_o0_y x0 r0_0 r2_0 l0 l1) = x0 := id rfl
@[simp] theorem f18_p1_o0_r0_0_y x0 r0_0 r2_0 l0 l1 : f18_p1_o0_r0_0 (f18_p1_o0_y x0 r0_0 r2_0 l0 l1) = r0_0 := id rfl
@[simp] theorem f18_p1_o0_r2_0_y x0 r0_0 r2_0 l0 l1 : f18_p1_o0_r2_0 (f18_p1_o0_y x0 r0_0 r2_0 l0 l1) = r2_0 := id rfl
@[simp] theorem f18_p1_o0_l0_y x0 r0_0 r2_0 l0 l1 : f18_p1_o0_l0 (f18_p1_o0_y x0 r0_0 r2_0 l0 l1) = l0 := id rfl
@[simp] theorem f18_p1_o0_l1_y x0 r0_0 r2_0 l0 l1 : f18_p1_o0_l1 (f18_p1_o0_y x0 r0_0 r2_0 l0 l1) = l1 := id rfl
theorem f18_p1_eq rec x0 x39 x40 x41 r0_0 r1_0 r1_1 r1_2 r2_0 l0 l1 : f18_p1_st rec (f18_p1_y x0 x39 x40 x41 r0_0 r1_0 r1_1 r1_2 r2_0 l0 l1) = (bif (decide (x41 < x40)) then ((f18_p0_F (f18_p0_y x0 x39 x40 x41 r0_0 r1_0 r1_1 r1_2 r2_0 l0 l1)).bind fun o113 => rec (f18_p1_y (f18_p0_o0_x0 o113) (f18_p0_o0_x39 o113) (f18_p0_o0_x40 o113) (IntKind.i64.wrap ((f18_p0_o0_x41 o113) + (1 : Int))) (f18_p0_o0_r0_0 o113) (f18_p0_o0_r1_0 o113) (f18_p0_o0_r1_1 o113) (f18_p0_o0_r1_2 o113) (f18_p0_o0_r2_0 o113) (f18_p0_o0_l0 o113) (f18_p0_o0_l1 o113))) else (some ((f18_p1_o0_y x0 r0_0 r2_0 l0 l1)))) := by kernel_rfl
def f18_p2_y (x0 : List UInt8) (x4 : List (List UInt8)) (r0_0 : Int) : f18_p2_sh.den := ((x0, ((), ((), ((), (x4, ((), ((), ((), ((), ((), ((), ((), ((), ((), ((), ((), ((), ((), ((), ((), ((), ((), ((), ((), ((), ((), ((), ((), ((), ((), ((), ((), ((), ((), ((), ((), ((), ((), ((), ((), ((), ((), ((), ((), ((), ((), ((), ((), ((), ((), ((), ((), ((), ((), ((), ((), ((), ((), ((), ((), ((), ((), ((), ((), ((), ((), ((), ((), ((), ((), ((), ((), ((), ((), ((), ((), ())))))))))))))))))))))))))))))))))))))))))))))))))))))))))))))))))))))))))))), ((r0_0, ((), ((), ()))), ()), ())
def f18_p2_o0_y (r0_0 : Int) : f18_p2_o0.den := (((), ((), ((), ((), ((), ((), ((), ((), ((), ((), ((), ((), ((), ((), ((), ((), ((), ((), ((), ((), ((), ((), ((), ((), ((), ((), ((), ((), ((), ((), ((), ((), ((), ((), ((), ((), ((), ((), ((), ((), ((), ((), ((), ((), ((), ((), ((), ((), ((), ((), ((), ((), ((), ((), ((), ((), ((), ((), ((), ((), ((), ((), ((), ((), ((), ((), ((), ((), ((), ((), ((), ((), ((), ((), ((), ((), ())))))))))))))))))))))))))))))))))))))))))))))))))))))))))))))))))))))))))))), ((r0_0, ((), ((), ()))), ()), ())
def f18_p2_o1_y (x3 : Bool) (r0_0 : Int) (l0 : List (List UInt8)) (l1 : List Int) : f18_p2_o1.den := (((), ((), ((), (x3, ((), ((), ((), ((), ((), ((), ((), ((), ((), ((), ((), ((), ((), ((), ((), ((), ((), ((), ((), ((), ((), ((), ((), ((), ((), ((), ((), ((), ((), ((), ((), ((), ((), ((), ((), ((), ((), ((), ((), ((), ((), ((), ((), ((), ((), ((), ((), ((), ((), ((), ((), ((), ((), ((), ((), ((), ((), ((), ((), ((), ((), ((), ((), ((), ((), ((), ((), ((), ((), ((), ((), ((), ())))))))))))))))))))))))))))))))))))))))))))))))))))))))))))))))))))))))))))), ((r0_0, ((), ((), ()))), ()), (l0, (l1, ())))
def f18_p2_o1_x3 (z : f18_p2_o1.den) : Bool := z.1.2.2.2.1
def f18_p2_o1_r0_0 (z : f18_p2_o1.den) : Int := z.2.1.1.1
def f18_p2_o1_l0 (z : f18_p2_o1.den) : List (List UInt8) := z.2.2.1
def f18_p2_o1_l1 (z : f18_p2_o1.den) : List Int := z.2.2.2.1
@[simp] theorem f18_p2_o1_x3_y x3 r0_0 l0 l1 : f18_p2_o1_x3 (f18_p2_o1_y x3 r0_0 l0 l1) = x3 := id rfl
@[simp] theorem f18_p2_o1_r0_0_y x3 r0_0 l0 l1 : f18_p2_o1_r0_0 (f18_p2_o1_y x3 r0_0 l0 l1) = r0_0 := id rfl
@[simp] theorem f18_p2_o1_l0_y x3 r0_0 l0 l1 : f18_p2_o1_l0 (f18_p2_o1_y x3 r0_0 l0 l1) = l0 := id rfl
@[simp] theorem f18_p2_o1_l1_y x3 r0_0 l0 l1 : f18_p2_o1_l1 (f18_p2_o1_y x3 r0_0 l0 l1) = l1 := id rfl
def f18_p2_h_y (x0 : List UInt8) (x4 : List (List UInt8)) (r0_0 : Int) : f18_p2_hd.den := ((x0, ((), ((), ((), (x4, ((), ((), ((), ((), ((), ((), ((), ((), ((), ((), ((), ((), ((), ((), ((), ((), ((), ((), ((), ((), ((), ((), ((), ((), ((), ((), ((), ((), ((), ((), ((), ((), ((), ((), ((), ((), ((), ((), ((), ((), ((), ((), ((), ((), ((), ((), ((), ((), ((), ((), ((), ((), ((), ((), ((), ((), ((), ((), ((), ((), ((), ((), ((), ((), ((), ((), ((), ((), ((), ((), ((), ())))))))))))))))))))))))))))))))))))))))))))))))))))))))))))))))))))))))))))), ((r0_0, ((), ((), ()))), ()), ())
theorem f18_p2_eq x0 x4 r0_0 : f18_p2_F (f18_p2_y x0 x4 r0_0) = ((h36_F h36_y).bind fun z114 => mr (f18_p2_st (f18_p2_h_y x0 x4 r0_0)) (f18_p2_fin (f18_p2_h_y x0 x4 r0_0)) (mpairs (.int .i64) (.prod .str (.prod (.int .i64) (.int .i64))) true (h36_o_l0 z114)) (f18_p2_h_y x0 x4 r0_0)) := by kernel_rfl
theorem f18_p2_fin_eq x0 x4 r0_0 : f18_p2_fin (f18_p2_h_y x0 x4 r0_0) = (some (.inl (f18_p2_o0_y r0_0))) := by kernel_rfl
theorem f18_p2_st_eq x0 x4 r0_0 w : f18_p2_st (f18_p2_h_y x0 x4 r0_0) w = ((nth x4 (0 : Int)).bind fun y115 => bif (w.2.1 != y115) then (some (.inl (f18_p2_h_y x0 x4 r0_0))) else (bif ((x4.length : Int) != (IntKind.i64.wrap ((IntKind.i64.wrap ((1 : Int) + w.2.2.1)) + w.2.2.2))) then (some (.inl (f18_p2_h_y x0 x4 r0_0))) else (cutLo x4 (1 : Int) fun s116 => (go f18_p1_st (f18_p1_y x0 s116 (s116.length : Int) (0 : Int) r0_0 w.2.1 w.2.2.1 w.2.2.2 w.1 ([] : List (List UInt8)) ([] : List (Int)))).bind fun o117 => (f24_F (((f18_p1_o0_r2_0 o117), ((f18_p1_o0_l0 o117), ((f18_p1_o0_l1 o117), ()))), ())).bind fun r118 => bif r118.1 then ((f16_F (((f18_p1_o0_r2_0 o117), ((f18_p1_o0_l0 o117), ((f18_p1_o0_l1 o117), ()))), ())).bind fun r119 => some (.inr ((.inr ((f18_p2_o1_y (r119.1 == (f18_p1_o0_x0 o117)) (f18_p1_o0_r2_0 o117) (f18_p1_o0_l0 o117) (f18_p1_o0_l1 o117))))))) else (some (.inr ((.inr ((f18_p2_o1_y false (f18_p1_o0_r2_0 o117) (f18_p1_o0_l0 o117) (f18_p1_o0_l1 o117)))))))))) := by kernel_rfl
theorem f18_eq a0 : f18_F (a0, ()) = ((splitF (a0, (([32] : List UInt8), ()))).bind fun r120 => (f18_p2_F (f18_p2_y a0 r120.1 (0 : Int))).bind fun o121 => (match o121 with | .inl z122 => some (((0 : Int), (([] : List (List UInt8)), (([] : List Int), ()))), (false, ())) | .inr o123 => some (((f18_p2_o1_r0_0 o123), ((f18_p2_o1_l0 o123), ((f18_p2_o1_l1 o123), ()))), ((f18_p2_o1_x3 o123), ())))) := by kernel_rfl
def f7_p0_y (x6 : List UInt8) (x7 : Bool) (x10 : Int) (x12 : Bool) (r0_1 : List UInt8) (r0_2 : Int) (r0_3 : Int) (r1_1 : List UInt8) (r1_2 : Int) (r1_3 : Int) (r2_0 : Int) (r2_1 : List (List UInt8)) (r2_2 : List Int) (l0 : List (List UInt8)) (l1 : List ((Int × (List (List UInt8) × List Int)))) : f7_p0_sh.den := (((), ((), ((), ((), ((), ((), (x6, (x7, ((), ((), (x10, ((), (x12, ((), ((), ((), ((), ((), ((), ((), ((), ((), ((), ((), ((), ((), ((), ((), ((), ((), ((), ((), ((), ((), ((), ((), ((), ((), ((), ((), ((), ((), ((), ((), ((), ((), ((), ((), ((), ((), ((), ((), ((), ((), ((), ((), ((), ((), ((), ((), ((), ((), ((), ((), ((), ((), ((), ()))))))))))))))))))))))))))))))))))))))))))))))))))))))))))))))))))), (((), (r0_1, (r0_2, (r0_3, ((), ()))))), (((), (r1_1, (r1_2, (r1_3, ((), ()))))), ((r2_0, (r2_1, (r2_2, ()))), ()))), (l0, (l1, ())))
def f7_p0_o0_y (x6 : List UInt8) (x10 : Int) (x57 : Bool) (r0_1 : List UInt8) (r0_2 : Int) (r0_3 : Int) (r1_1 : List UInt8) (r1_2 : Int) (r1_3 : Int) (r2_0 : Int) (r2_1 : List (List UInt8)) (r2_2 : List Int) (l0 : List (List UInt8)) (l1 : List ((Int × (List (List UInt8) × List Int)))) : f7_p0_o0.den := (((), ((), ((), ((), ((), ((), (x6, ((), ((), ((), (x10, ((), ((), ((), ((), ((), ((), ((), ((), ((), ((), ((), ((), ((), ((), ((), ((), ((), ((), ((), ((), ((), ((), ((), ((), ((), ((), ((), ((), ((), ((), ((), ((), ((), ((), ((), ((), ((), ((), ((), ((), ((), ((), ((), ((), ((), ((), (x57, ((), ((), ((), ((), ((), ((), ((), ((), ((), ()))))))))))))))))))))))))))))))))))))))))))))))))))))))))))))))))))), (((), (r0_1, (r0_2, (r0_3, ((), ()))))), (((), (r1_1, (r1_2, (r1_3, ((), ()))))), ((r2_0, (r2_1, (r2_2, ()))), ()))), (l0, (l1, ())))
def f7_p0_o0_x6 (z : f7_p0_o0.den) : List UInt8 := z.1.2.2.2.2.2.2.1
def f7_p0_o0_x10 (z : f7_p0_o0.den) : Int := z.1.2.2.2.2.2.2.2.2.2.2.1
def f7_p0_o0_x57 (z : f7_p0_o0.den) : Bool := z.1.2.2.2.2.2.2.2.2.2.2.2.2.2.2.2.2.2.2.2.2.2.2.2.2.2.2.2.2.2.2.2.2.2.2.2.2.2.2.2.2.2.2.2.2.2.2.2.2.2.2.2.2.2.2.2.2.2.1
def f7_p0_o0_r0_1 (z : f7_p0_o0.den) : List UInt8 := z.2.1.1.2.1
def f7_p0_o0_r0_2 (z : f7_p0_o0.den) : Int := z.2.1.1.2.2.1
def f7_p0_o0_r0_3 (z : f7_p0_o0.den) : Int := z.2.1.1.2.2.2.1
def f7_p0_o0_r1_1 (z : f7_p0_o0.den) : List UInt8 := z.2.1.2.1.2.1
def f7_p0_o0_r1_2 (z : f7_p0_o0.den) : Int := z.2.1.2.1.2.2.1
def f7_p0_o0_r1_3 (z : f7_p0_o0.den) : Int := z.2.1.2.1.2.2.2.1
def f7_p0_o0_r2_0 (z : f7_p0_o0.den) : Int := z.2.1.2.2.1.1
def f7_p0_o0_r2_1 (z : f7_p0_o0.den) : List (List UInt8) := z.2.1.2.2.1.2.1
def f7_p0_o0_r2_2 (z : f7_p0_o0.den) : List Int := z.2.1.2.2.1.2.2.1
def f7_p0_o0_l0 (z : f7_p0_o0.den) : List (List UInt8) := z.2.2.1
def f7_p0_o0_l1 (z : f7_p0_o0.den) : List ((Int × (List (List UInt8) × List Int))) := z.2.2.2.1
@[simp] theorem f7_p0_o0_x6_y x6 x10 x57 r0_1 r0_2 r0_3 r1_1 r1_2 r1_3 r2_0 r2_1 r2_2 l0 l1 : f7_p0_o0_x6 (f7_p0_o0_y x6 x10 x57 r0_1 r0_2 r0_3 r1_1 r1_2 r1_3 r2_0 r2_1 r2_2 l0 l1) = x6 := id rfl
@[simp] theorem f7_p0_o0_x10_y x6 x10 x57 r0_1 r0_2 r0_3 r1_1 r1_2 r1_3 r2_0 r2_1 r2_2 l0 l1 : f7_p0_o0_x10 (f7_p0_o0_y x6 x10 x57 r0_1 r0_2 r0_3 r1_1 r1_2 r1_3 r2_0 r2_1 r2_2 l0 l1) = x10 := id rfl
@[simp] theorem f7_p0_o0_x57_y x6 x10 x57 r0_1 r0_2 r0_3 r1_1 r1_2 r1_3 r2_0 r2_1 r2_2 l0 l1 : f7_p0_o0_x57 (f7_p0_o0_y x6 x10 x57 r0_1 r0_2 r0_3 r1_1 r1_2 r1_3 r2_0 r2_1 r2_2 l0 l1) = x57 := id rfl
@[simp] theorem f7_p0_o0_r0_1_y x6 x10 x57 r0_1 r0_2 r0_3 r1_1 r1_2 r1_3 r2_0 r2_1 r2_2 l0 l1 : f7_p0_o0_r0_1 (f7_p0_o0_y x6 x10 x57 r0_1 r0_2 r0_3 r1_1 r1_2 r1_3 r2_0 r2_1 r2_2 l0 l1) = r0_1 := id rfl
@[simp] theorem f7_p0_o0_r0_2_y x6 x10 x57 r0_1 r0_2 r0_3 r1_1 r1_2 r1_3 r2_0 r2_1 r2_2 l0 l1 : f7_p0_o0_r0_2 (f7_p0_o0_y x6 x10 x57 r0_1 r0_2 r0_3 r1_1 r1_2 r1_3 r2_0 r2_1 r2_2 l0 l1) = r0_2 := id rfl
@[simp] theorem f7_p0_o0_r0_3_y x6 x10 x57 r0_1 r0_2 r0_3 r1_1 r1_2 r1_3 r2_0 r2_1 r2_2 l0 l1 : f7_p0_o0_r0_3 (f7_p0_o0_y x6 x10 x57 r0_1 r0_2 r0_3 r1_1 r1_2 r1_3 r2_0 r2_1 r2_2 l0 l1) = r0_3 := id rfl
@[simp] theorem f7_p0_o0_r1_1_y x6 x10 x57 r0_1 r0_2 r0_3 r1_1 r1_2 r1_3 r2_0 r2_1 r2_2 l0 l1 : f7_p0_o0_r1_1 (f7_p0_o0_y x6 x10 x57 r0_1 r0_2 r0_3 r1_1 r1_2 r1_3 r2_0 r2_1 r2_2 l0 l1) = r1_1 := id rfl
@[simp] theorem f7_p0_o0_r1_2_y x6 x10 x57 r0_1 r0_2 r0_3 r1_1 r1_2 r1_3 r2_0 r2_1 r2_2 l0 l1 : f7_p0_o0_r1_2 (f7_p0_o0_y x6 x10 x57 r0_1 r0_2 r0_3 r1_1 r1_2 r1_3 r2_0 r2_1 r2_2 l0 l1) = r1_2 := id rfl
@[simp] theorem f7_p0_o0_r1_3_y x6 x10 x57 r0_1 r0_2 r0_3 r1_1 r1_2 r1_3 r2_0 r2_1 r2_2 l0 l1 : f7_p0_o0_r1_3 (f7_p0_o0_y x6 x10 x57 r0_1 r0_2 r0_3 r1_1 r1_2 r1_3 r2_0 r2_1 r2_2 l0 l1) = r1_3 := id rfl
@[simp] theorem f7_p0_o0_r2_0_y x6 x10 x57 r0_1 r0_2 r0_3 r1_1 r1_2 r1_3 r2_0 r2_1 r2_2 l0 l1 : f7_p0_o0_r2_0 (f7_p0_o0_y x6 x10 x57 r0_1 r0_2 r0_3 r1_1 r1_2 r1_3 r2_0 r2_1 r2_2 l0 l1) = r2_0 := id rfl
@[simp] theorem f7_p0_o0_r2_1_y x6 x10 x57 r0_1 r0_2 r0_3 r1_1 r1_2 r1_3 r2_0 r2_1 r2_2 l0 l1 : f7_p0_o0_r2_1 (f7_p0_o0_y x6 x10 x57 r0_1 r0_2 r0_3 r1_1 r1_2 r1_3 r2_0 r2_1 r2_2 l0 l1) = r2_1 := id rfl
@[simp] theorem f7_p0_o0_r2_2_y x6 x10 x57 r0_1 r0_2 r0_3 r1_1 r1_2 r1_3 r2_0 r2_1 r2_2 l0 l1 : f7_p0_o0_r2_2 (f7_p0_o0_y x6 x10 x57 r0_1 r0_2 r0_3 r1_1 r1_2 r1_3 r2_0 r2_1 r2_2 l0 l1) = r2_2 := id rfl
@[simp] theorem f7_p0_o0_l0_y x6 x10 x57 r0_1 r0_2 r0_3 r1_1 r1_2 r1_3 r2_0 r2_1 r2_2 l0 l1 : f7_p0_o0_l0 (f7_p0_o0_y x6 x10 x57 r0_1 r0_2 r0_3 r1_1 r1_2 r1_3 r2_0 r2_1 r2_2 l0 l1) = l0 := id rfl
@[simp] theorem f7_p0_o0_l1_y x6 x10 x57 r0_1 r0_2 r0_3 r1_1 r1_2 r1_3 r2_0 r2_1 r2_2 l0 l1 : f7_p0_o0_l1 (f7_p0_o0_y x6 x10 x57 r0_1 r0_2 r0_3 r1_1 r1_2 r1_3 r2_0 r2_1 r2_2 l0 l1) = l1 := id rfl
theorem f7_p0_eq x6 x7 x10 x12 r0_1 r0_2 r0_3 r1_1 r1_2 r1_3 r2_0 r2_1 r2_2 l0 l1 : f7_p0_F (f7_p0_y x6 x7 x10 x12 r0_1 r0_2 r0_3 r1_1 r1_2 r1_3 r2_0 r2_1 r2_2 l0 l1) = (bif (!x7) then (some ((f7_p0_o0_y x6 x10 true r0_1 r0_2 r0_3 r1_1 r1_2 r1_3 r2_0 r2_1 r2_2 l0 l1))) else (bif (!x12) then (some ((f7_p0_o0_y x6 x10 true r0_1 r0_2 r0_3 r1_1 r1_2 r1_3 r2_0 r2_1 r2_2 l0 l1))) else (some ((f7_p0_o0_y x6 x10 ((l1.length : Int) == (200 : Int)) r0_1 r0_2 r0_3 r1_1 r1_2 r1_3 r2_0 r2_1 r2_2 l0 l1))))) := by kernel_rfl
def f7_p1_y (x6 : List UInt8) (x10 : Int) (r0_1 : List UInt8) (r0_2 : Int) (r0_3 : Int) (r1_1 : List UInt8) (r1_2 : Int) (r1_3 : Int) (l0 : List (List UInt8)) (l1 : List ((Int × (List (List UInt8) × List Int)))) : f7_p1_sh.den := (((), ((), ((), ((), ((), ((), (x6, ((), ((), ((), (x10, ((), ((), ((), ((), ((), ((), ((), ((), ((), ((), ((), ((), ((), ((), ((), ((), ((), ((), ((), ((), ((), ((), ((), ((), ((), ((), ((), ((), ((), ((), ((), ((), ((), ((), ((), ((), ((), ((), ((), ((), ((), ((), ((), ((), ((), ((), ((), ((), ((), ((), ((), ((), ((), ((), ((), ((), ()))))))))))))))))))))))))))))))))))))))))))))))))))))))))))))))))))), (((), (r0_1, (r0_2, (r0_3, ((), ()))))), (((), (r1_1, (r1_2, (r1_3, ((), ()))))), ())), (l0, (l1, ())))
def f7_p1_o0_y (r0_1 : List UInt8) (r0_2 : Int) (r0_3 : Int) (r1_1 : List UInt8) (r1_2 : Int) (r1_3 : Int) (l0 : List (List UInt8)) (l1 : List ((Int × (List (List UInt8) × List Int)))) : f7_p1_o0.den := (((), ((), ((), ((), ((), ((), ((), ((), ((), ((), ((), ((), ((), ((), ((), ((), ((), ((), ((), ((), ((), ((), ((), ((), ((), ((), ((), ((), ((), ((), ((), ((), ((), ((), ((), ((), ((), ((), ((), ((), ((), ((), ((), ((), ((), ((), ((), ((), ((), ((), ((), ((), ((), ((), ((), ((), ((), ((), ((), ((), ((), ((), ((), ((), ((), ((), ((), ()))))))))))))))))))))))))))))))))))))))))))))))))))))))))))))))))))), (((), (r0_1, (r0_2, (r0_3, ((), ()))))), (((), (r1_1, (r1_2, (r1_3, ((), ()))))), ())), (l0, (l1, ())))
def f7_p1_o0_r0_1 (z : f7_p1_o0.den) : List UInt8 := z.2.1.1.2.1
def f7_p1_o0_r0_2 (z : f7_p1_o0.den) : Int := z.2.1.1.2.2.1
def f7_p1_o0_r0_3 (z : f7_p1_o0.den) : Int := z.2.1.1.2.2.2.1
def f7_p1_o0_r1_1 (z : f7_p1_o0.den) : List UInt8 := z.2.1.2.1.2.1
def f7_p1_o0_r1_2 (z : f7_p1_o0.den) : Int := z.2.1.2.1.2.2.1
def f7_p1_o0_r1_3 (z : f7_p1_o0.den) : Int := z.2.1.2.1.2.2.2.1
def f7_p1_o0_l0 (z : f7_p1_o0.den) : List (List UInt8) := z.2.2.1
def f7_p1_o0_l1 (z : f7_p1_o0.den) : List ((Int × (List (List UInt8) × List Int))) := z.2.2.2.1
@[simp] theorem f7_p1_o0_r0_1_y r0_1 r0_2 r0_3 r1_1 r1_2 r1_3 l0 l1 : f7_p1_o0_r0_1 (f7_p1_o0_y r0_1 r0_2 r0_3 r1_1 r1_2 r1_3 l0 l1) = r0_1 := id rfl
@[simp] theorem f7_p1_o0_r0_2_y r0_1 r0_2 r0_3 r1_1 r1_2 r1_3 l0 l1 : f7_p1_o0_r0_2 (f7_p1_o0_y r0_1 r0_2 r0_3 r1_1 r1_2 r1_3 l0 l1) = r0_2 := id rfl
@[simp] theorem f7_p1_o0_r0_3_y r0_1 r0_2 r0_3 r1_1 r1_2 r1_3 l0 l1 : f7_p1_o0_r0_3 (f7_p1_o0_y r0_1 r0_2 r0_3 r1_1 r1_2 r1_3 l0 l1) = r0_3 := id rfl
@[simp] theorem f7_p1_o0_r1_1_y r0_1 r0_2 r0_3 r1_1 r1_2 r1_3 l0 l1 : f7_p1_o0_r1_1 (f7_p1_o0_y r0_1 r0_2 r0_3 r1_1 r1_2 r1_3 l0 l1) = r1_1 := id rfl
@[simp] theorem f7_p1_o0_r1_2_y r0_1 r0_2 r0_3 r1_1 r1_2 r1_3 l0 l1 : f7_p1_o0_r1_2 (f7_p1_o0_y r0_1 r0_2 r0_3 r1_1 r1_2 r1_3 l0 l1) = r1_2 := id rfl
@[simp] theorem f7_p1_o0_r1_3_y r0_1 r0_2 r0_3 r1_1 r1_2 r1_3 l0 l1 : f7_p1_o0_r1_3 (f7_p1_o0_y r0_1 r0_2 r0_3 r1_1 r1_2 r1_3 l0 l1) = r1_3 := id rfl
@[simp] theorem f7_p1_o0_l0_y r0_1 r0_2 r0_3 r1_1 r1_2 r1_3 l0 l1 : f7_p1_o0_l0 (f7_p1_o0_y r0_1 r0_2 r0_3 r1_1 r1_2 r1_3 l0 l1) = l0 := id rfl
@[simp] theorem f7_p1_o0_l1_y r0_1 r0_2 r0_3 r1_1 r1_2 r1_3 l0 l1 : f7_p1_o0_l1 (f7_p1_o0_y r0_1 r0_2 r0_3 r1_1 r1_2 r1_3 l0 l1) = l1 := id rfl
def f7_p1_o1_y (x3 : Int) (x4 : Int) (r0_1 : List UInt8) (r0_2 : Int) (r0_3 : Int) : f7_p1_o1.den := (((), ((), ((), (x3, (x4, ((), ((), ((), ((), ((), ((), ((), ((), ((), ((), ((), ((), ((), ((), ((), ((), ((), ((), ((), ((), ((), ((), ((), ((), ((), ((), ((), ((), ((), ((), ((), ((), ((), ((), ((), ((), ((), ((), ((), ((), ((), ((), ((), ((), ((), ((), ((), ((), ((), ((), ((), ((), ((), ((), ((), ((), ((), ((), ((), ((), ((), ((), ()))))))))))))))))))))))))))))))))))))))))))))))))))))))))))))))))))), (((), (r0_1, (r0_2, (r0_3, ((), ()))))), ()), ())
def f7_p1_o1_x3 (z : f7_p1_o1.den) : Int := z.1.2.2.2.1
def f7_p1_o1_x4 (z : f7_p1_o1.den) : Int := z.1.2.2.2.2.1
def f7_p1_o1_r0_1 (z : f7_p1_o1.den) : List UInt8 := z.2.1.1.2.1
def f7_p1_o1_r0_2 (z : f7_p1_o1.den) : Int := z.2.1.1.2.2.1
def f7_p1_o1_r0_3 (z : f7_p1_o1.den) : Int := z.2.1.1.2.2.2.1
@[simp] theorem f7_p1_o1_x3_y x3 x4 r0_1 r0_2 r0_3 : f7_p1_o1_x3 (f7_p1_o1_y x3 x4 r0_1 r0_2 r0_3) = x3 := id rfl
@[simp] theorem f7_p1_o1_x4_y x3 x4 r0_1 r0_2 r0_3 : f7_p1_o1_x4 (f7_p1_o1_y x3 x4 r0_1 r0_2 r0_3) = x4 := id rfl
@[simp] theorem f7_p1_o1_r0_1_y x3 x4 r0_1 r0_2 r0_3 : f7_p1_o1_r0_1 (f7_p1_o1_y x3 x4 r0_1 r0_2 r0_3) = r0_1 := id rfl
@[simp] theorem f7_p1_o1_r0_2_y x3 x4 r0_1 r0_2 r0_3 : f7_p1_o1_r0_2 (f7_p1_o1_y x3 x4 r0_1 r0_2 r0_3) = r0_2 := id rfl
@[simp] theorem f7_p1_o1_r0_3_y x3 x4 r0_1 r0_2 r0_3 : f7_p1_o1_r0_3 (f7_p1_o1_y x3 x4 r0_1 r0_2 r0_3) = r0_3 := id rfl
theorem f7_p1_eq rec x6 x10 r0_1 r0_2 r0_3 r1_1 r1_2 r1_3 l0 l1 : f7_p1_st rec (f7_p1_y x6 x10 r0_1 r0_2 r0_3 r1_1 r1_2 r1_3 l0 l1) = (bif (x6 != ([] : List UInt8)) then ((cutF (x6, (([10] : List UInt8), ()))).bind fun r124 => (f18_F (r124.1, ())).bind fun r125 => (f7_p0_F (f7_p0_y r124.2.1 r124.2.2.1 x10 r125.2.1 r0_1 r0_2 r0_3 r1_1 r1_2 r1_3 r125.1.1 r125.1.2.1 r125.1.2.2.1 l0 l1)).bind fun o126 => bif (f7_p0_o0_x57 o126) then (some (.inr ((f7_p1_o1_y (250 : Int) (f7_p0_o0_x10 o126) ([] : List UInt8) (0 : Int) (0 : Int))))) else (appOk ((f7_p0_o0_l1 o126).length + [((f7_p0_o0_r2_0 o126), ((f7_p0_o0_r2_1 o126), (f7_p0_o0_r2_2 o126)))].length) (rec (f7_p1_y (f7_p0_o0_x6 o126) (IntKind.i64.wrap ((f7_p0_o0_x10 o126) + (1 : Int))) (f7_p0_o0_r0_1 o126) (f7_p0_o0_r0_2 o126) (f7_p0_o0_r0_3 o126) (f7_p0_o0_r1_1 o126) (f7_p0_o0_r1_2 o126) (f7_p0_o0_r1_3 o126) (f7_p0_o0_l0 o126) ((f7_p0_o0_l1 o126) ++ [((f7_p0_o0_r2_0 o126), ((f7_p0_o0_r2_1 o126), (f7_p0_o0_r2_2 o126)))]))))) else (some (.inl (f7_p1_o0_y r0_1 r0_2 r0_3 r1_1 r1_2 r1_3 l0 l1)))) := by kernel_rfl
def f7_p2_y (x6 : List UInt8) (x7 : Bool) (x9 : Bool) (r0_1 : List UInt8) (r0_2 : Int) (r0_3 : Int) (r1_1 : List UInt8) (r1_2 : Int) (r1_3 : Int) (l0 : List (List UInt8)) : f7_p2_sh.den := (((), ((), ((), ((), ((), ((), (x6, (x7, ((), (x9, ((), ((), ((), ((), ((), ((), ((), ((), ((), ((), ((), ((), ((), ((), ((), ((), ((), ((), ((), ((), ((), ((), ((), ((), ((), ((), ((), ((), ((), ((), ((), ((), ((), ((), ((), ((), ((), ((), ((), ((), ((), ((), ((), ((), ((), ((), ((), ((), ((), ((), ((), ((), ((), ((), ((), ((), ((), ()))))))))))))))))))))))))))))))))))))))))))))))))))))))))))))))))))), (((), (r0_1, (r0_2, (r0_3, ((), ()))))), (((), (r1_1, (r1_2, (r1_3, ((), ()))))), ())), (l0, ()))
def f7_p2_o0_y (x6 : List UInt8) (x29 : Bool) (r0_1 : List UInt8) (r0_2 : Int) (r0_3 : Int) (r1_1 : List UInt8) (r1_2 : Int) (r1_3 : Int) (l0 : List (List UInt8)) : f7_p2_o0.den := (((), ((), ((), ((), ((), ((), (x6, ((), ((), ((), ((), ((), ((), ((), ((), ((), ((), ((), ((), ((), ((), ((), ((), ((), ((), ((), ((), ((), ((), (x29, ((), ((), ((), ((), ((), ((), ((), ((), ((), ((), ((), ((), ((), ((), ((), ((), ((), ((), ((), ((), ((), ((), ((), ((), ((), ((), ((), ((), ((), ((), ((), ((), ((), ((), ((), ((), ((), ()))))))))))))))))))))))))))))))))))))))))))))))))))))))))))))))))))), (((), (r0_1, (r0_2, (r0_3, ((), ()))))), (((), (r1_1, (r1_2, (r1_3, ((), ()))))), ())), (l0, ()))
def f7_p2_o0_x6 (z : f7_p2_o0.den) : List UInt8 := z.1.2.2.2.2.2.2.1
def f7_p2_o0_x29 (z : f7_p2_o0.den) : Bool := z.1.2.2.2.2.2.2.2.2.2.2.2.2.2.2.2.2.2.2.2.2.2.2.2.2.2.2.2.2.2.1
def f7_p2_o0_r0_1 (z : f7_p2_o0.den) : List UInt8 := z.2.1.1.2.1
def f7_p2_o0_r0_2 (z : f7_p2_o0.den) : Int := z.2.1.1.2.2.1
def f7_p2_o0_r0_3 (z : f7_p2_o0.den) : Int := z.2.1.1.2.2.2.1
def f7_p2_o0_r1_1 (z : f7_p2_o0.den) : List UInt8 := z.2.1.2.1.2.1
def f7_p2_o0_r1_2 (z : f7_p2_o0.den) : Int := z.2.1.2.1.2.2.1
def f7_p2_o0_r1_3 (z : f7_p2_o0.den) : Int := z.2.1.2.1.2.2.2.1
def f7_p2_o0_l0 (z : f7_p2_o0.den) : List (List UInt8) := z.2.2.1
@[simp] theorem f7_p2_o0_x6_y x6 x29 r0_1 r0_2 r0_3 r1_1 r1_2 r1_3 l0 : f7_p2_o0_x6 (f7_p2_o0_y x6 x29 r0_1 r0_2 r0_3 r1_1 r1_2 r1_3 l0) = x6 := id rfl
@[simp] theorem f7_p2_o0_x29_y x6 x29 r0_1 r0_2 r0_3 r1_1 r1_2 r1_3 l0 : f7_p2_o0_x29 (f7_p2_o0_y x6 x29 r0_1 r0_2 r0_3 r1_1 r1_2 r1_3 l0) = x29 := id rfl
@[simp] theorem f7_p2_o0_r0_1_y x6 x29 r0_1 r0_2 r0_3 r1_1 r1_2 r1_3 l0 : f7_p2_o0_r0_1 (f7_p2_o0_y x6 x29 r0_1 r0_2 r0_3 r1_1 r1_2 r1_3 l0) = r0_1 := id rfl
@[simp] theorem f7_p2_o0_r0_2_y x6 x29 r0_1 r0_2 r0_3 r1_1 r1_2 r1_3 l0 : f7_p2_o0_r0_2 (f7_p2_o0_y x6 x29 r0_1 r0_2 r0_3 r1_1 r1_2 r1_3 l0) = r0_2 := id rfl
@[simp] theorem f7_p2_o0_r0_3_y x6 x29 r0_1 r0_2 r0_3 r1_1 r1_2 r1_3 l0 : f7_p2_o0_r0_3 (f7_p2_o0_y x6 x29 r0_1 r0_2 r0_3 r1_1 r1_2 r1_3 l0) = r0_3 := id rfl
@[simp] theorem f7_p2_o0_r1_1_y x6 x29 r0_1 r0_2 r0_3 r1_1 r1_2 r1_3 l0 : f7_p2_o0_r1_1 (f7_p2_o0_y x6 x29 r0_1 r0_2 r0_3 r1_1 r1_2 r1_3 l0) = r1_1 := id rfl
@[simp] theorem f7_p2_o0_r1_2_y x6 x29 r0_1 r0_2 r0_3 r1_1 r1_2 r1_3 l0 : f7_p2_o0_r1_2 (f7_p2_o0_y x6 x29 r0_1 r0_2 r0_3 r1_1 r1_2 r1_3 l0) = r1_2 := id rfl
@[simp] theorem f7_p2_o0_r1_3_y x6 x29 r0_1 r0_2 r0_3 r1_1 r1_2 r1_3 l0 : f7_p2_o0_r1_3 (f7_p2_o0_y x6 x29 r0_1 r0_2 r0_3 r1_1 r1_2 r1_3 l0) = r1_3 := id rfl
@[simp] theorem f7_p2_o0_l0_y x6 x29 r0_1 r0_2 r0_3 r1_1 r1_2 r1_3 l0 : f7_p2_o0_l0 (f7_p2_o0_y x6 x29 r0_1 r0_2 r0_3 r1_1 r1_2 r1_3 l0) = l0 := id rfl
theorem f7_p2_eq x6 x7 x9 r0_1 r0_2 r0_3 r1_1 r1_2 r1_3 l0 : f7_p2_F (f7_p2_y x6 x7 x9 r0_1 r0_2 r0_3 r1_1 r1_2 r1_3 l0) = (bif (!x7) then (some ((f7_p2_o0_y x6 true r0_1 r0_2 r0_3 r1_1 r1_2 r1_3 l0))) else (some ((f7_p2_o0_y x6 (!x9) r0_1 r0_2 r0_3 r1_1 r1_2 r1_3 l0)))) := by kernel_rfl
theorem f7_eq a0 : f7_F (a0, ()) = ((cutF (a0, (([10] : List UInt8), ()))).bind fun r127 => (h17_F (h17_y r127.1)).bind fun z128 => (f7_p2_F (f7_p2_y r127.2.1 r127.2.2.1 (h17_o_x1 z128) ([] : List UInt8) (0 : Int) (0 : Int) (h17_o_x0_1 z128) (h17_o_x0_2 z128) (h17_o_x0_3 z128) (h17_o_l0 z128))).bind fun o129 => bif (f7_p2_o0_x29 o129) then (some ((([] : List (List UInt8)), (([] : List UInt8), ((0 : Int), ((0 : Int), (([] : List ((Int × (List (List UInt8) × List Int)))), ()))))), ((250 : Int), ((1 : Int), ())))) else ((go f7_p1_st (f7_p1_y (f7_p2_o0_x6 o129) (2 : Int) (f7_p2_o0_r0_1 o129) (f7_p2_o0_r0_2 o129) (f7_p2_o0_r0_3 o129) (f7_p2_o0_r1_1 o129) (f7_p2_o0_r1_2 o129) (f7_p2_o0_r1_3 o129) (f7_p2_o0_l0 o129) ([] : List ((Int × (List (List UInt8) × List Int)))))).bind fun o130 => (match o130 with | .inl z131 => some (((f7_p1_o0_l0 z131), ((f7_p1_o0_r1_1 z131), ((f7_p1_o0_r1_2 z131), ((f7_p1_o0_r1_3 z131), ((f7_p1_o0_l1 z131), ()))))), ((0 : Int), ((0 : Int), ()))) | .inr o132 => some ((([] : List (List UInt8)), ((f7_p1_o1_r0_1 o132), ((f7_p1_o1_r0_2 o132), ((f7_p1_o1_r0_3 o132), (([] : List ((Int × (List (List UInt8) × List Int)))), ()))))), ((f7_p1_o1_x3 o132), ((f7_p1_o1_x4 o132), ())))))) := by kernel_rfl
def f19_p0_y (x0 : List (List UInt8)) (x1 : List (List UInt8)) (x12 : Int) (x13 : Int) : f19_p0_sh.den := ((x0, (x1, ((), ((), ((), ((), ((), ((), ((), ((), ((), ((), (x12, (x13, ((), ((), ((), ((), ((), ((), ((), ((), ((), ((), ((), ((), ())))))))))))))))))))))))))), (), ())
def f19_p0_o0_y : f19_p0_o0.den := (((), ((), ((), ((), ((), ((), ((), ((), ((), ((), ((), ((), ((), ((), ((), ((), ((), ((), ((), ((), ((), ((), ((), ((), ((), ((), ())))))))))))))))))))))))))), (), ())
def f19_p0_o1_y (x4 : Bool) : f19_p0_o1.den := (((), ((), ((), ((), (x4, ((), ((), ((), ((), ((), ((), ((), ((), ((), ((), ((), ((), ((), ((), ((), ((), ((), ((), ((), ((), ((), ())))))))))))))))))))))))))), (), ())
def f19_p0_o1_x4 (z : f19_p0_o1.den) : Bool := z.1.2.2.2.2.1
theorem f19_p0_eq rec x0 x1 x12 x13 : f19_p0_st rec (f19_p0_y x0 x1 x12 x13) = (bif (decide (x13 < x12)) then ((nth x0 x13).bind fun y133 => (nth x1 x13).bind fun y134 => bif (y133 != y134) then (some (.inr ((f19_p0_o1_y false)))) else (rec (f19_p0_y x0 x1 x12 (IntKind.i64.wrap (x13 + (1 : Int)))))) else (some (.inl f19_p0_o0_y))) := by kernel_rfl
theorem f19_eq a0 a1 : f19_F (a0, (a1, ())) = (bif ((a0.length : Int) != (a1.length : Int)) then (some (false, ())) else ((go f19_p0_st (f19_p0_y a0 a1 (a0.length : Int) (0 : Int))).bind fun o135 => (match o135 with | .inl z136 => some (true, ()) | .inr o137 => some ((f19_p0_o1_x4 o137), ())))) := by kernel_rfl
def f8_p0_y (x47 : Int) (x48 : Int) (x85 : Int) (x86 : Int) (r0_0 : List (List UInt8)) (r0_1 : List UInt8) (r0_2 : Int) (r0_3 : Int) (r0_4 : List ((Int × (List (List UInt8) × List Int)))) (r1_0 : List (List UInt8)) (r1_1 : List UInt8) (r1_2 : Int) (r1_3 : Int) (r1_4 : List ((Int × (List (List UInt8) × List Int)))) (r2_0 : Int) (r2_1 : List (List UInt8)) (r2_2 : List Int) (r3_0 : Int) (r3_1 : List (List UInt8)) (r3_2 : List Int) : f8_p0_sh.den := (((), ((), ((), ((), ((), ((), ((), ((), ((), ((), ((), ((), ((), ((), ((), ((), ((), ((), ((), ((), ((), ((), ((), ((), ((), ((), ((), ((), ((), ((), ((), ((), ((), ((), ((), ((), ((), ((), ((), ((), ((), ((), ((), ((), ((), ((), ((), (x47, (x48, ((), ((), ((), ((), ((), ((), ((), ((), ((), ((), ((), ((), ((), ((), ((), ((), ((), ((), ((), ((), ((), ((), ((), ((), ((), ((), ((), ((), ((), ((), ((), ((), ((), ((), ((), ((), (x85, (x86, ((), ((), ((), ((), ((), ((), ((), ((), ((), ((), ((), ((), ((), ((), ((), ())))))))))))))))))))))))))))))))))))))))))))))))))))))))))))))))))))))))))))))))))))))))))))))))))))))), ((r0_0, (r0_1, (r0_2, (r0_3, (r0_4, ()))))), ((r1_0, (r1_1, (r1_2, (r1_3, (r1_4, ()))))), ((r2_0, (r2_1, (r2_2, ()))), ((r3_0, (r3_1, (r3_2, ()))), ())))), ())
def f8_p0_o0_y (x47 : Int) (x48 : Int) (r0_0 : List (List UInt8)) (r0_1 : List UInt8) (r0_2 : Int) (r0_3 : Int) (r0_4 : List ((Int × (List (List UInt8) × List Int)))) (r1_0 : List (List UInt8)) (r1_1 : List UInt8) (r1_2 : Int) (r1_3 : Int) (r1_4 : List ((Int × (List (List UInt8) × List Int)))) : f8_p0_o0.den := (((), ((), ((), ((), ((), ((), ((), ((), ((), ((), ((), ((), ((), ((), ((), ((), ((), ((), ((), ((), ((), ((), ((), ((), ((), ((), ((), ((), ((), ((), ((), ((), ((), ((), ((), ((), ((), ((), ((), ((), ((), ((), ((), ((), ((), ((), ((), (x47, (x48, ((), ((), ((), ((), ((), ((), ((), ((), ((), ((), ((), ((), ((), ((), ((), ((), ((), ((), ((), ((), ((), ((), ((), ((), ((), ((), ((), ((), ((), ((), ((), ((), ((), ((), ((), ((), ((), ((), ((), ((), ((), ((), ((), ((), ((), ((), ((), ((), ((), ((), ((), ((), ((), ())))))))))))))))))))))))))))))))))))))))))))))))))))))))))))))))))))))))))))))))))))))))))))))))))))))), ((r0_0, (r0_1, (r0_2, (r0_3, (r0_4, ()))))), ((r1_0, (r1_1, (r1_2, (r1_3, (r1_4, ()))))), ())), ())
def f8_p0_o0_x47 (z : f8_p0_o0.den) : Int := z.1.2.2.2.2.2.2.2.2.2.2.2.2.2.2.2.2.2.2.2.2.2.2.2.2.2.2.2.2.2.2.2.2.2.2.2.2.2.2.2.2.2.2.2.2.2.2.2.1
def f8_p0_o0_x48 (z : f8_p0_o0.den) : Int := z.1.2.2.2.2.2.2.2.2.2.2.2.2.2.2.2.2.2.2.2.2.2.2.2.2.2.2.2.2.2.2.2.2.2.2.2.2.2.2.2.2.2.2.2.2.2.2.2.2.1
def f8_p0_o0_r0_0 (z : f8_p0_o0.den) : List (List UInt8) := z.2.1.1.1
def f8_p0_o0_r0_1 (z : f8_p0_o0.den) : List UInt8 := z.2.1.1.2.1
def f8_p0_o0_r0_2 (z : f8_p0_o0.den) : Int := z.2.1.1.2.2.1
def f8_p0_o0_r0_3 (z : f8_p0_o0.den) : Int := z.2.1.1.2.2.2.1
def f8_p0_o0_r0_4 (z : f8_p0_o0.den) : List ((Int × (List (List UInt8) × List Int))) := z.2.1.1.2.2.2.2.1
def f8_p0_o0_r1_0 (z : f8_p0_o0.den) : List (List UInt8) := z.2.1.2.1.1
def f8_p0_o0_r1_1 (z : f8_p0_o0.den) : List UInt8 := z.2.1.2.1.2.1
def f8_p0_o0_r1_2 (z : f8_p0_o0.den) : Int := z.2.1.2.1.2.2.1
def f8_p0_o0_r1_3 (z : f8_p0_o0.den) : Int := z.2.1.2.1.2.2.2.1
def f8_p0_o0_r1_4 (z : f8_p0_o0.den) : List ((Int × (List (List UInt8) × List Int))) := z.2.1.2.1.2.2.2.2.1
@[simp] theorem f8_p0_o0_x47_y x47 x48 r0_0 r0_1 r0_2 r0_3 r0_4 r1_0 r1_1 r1_2 r1_3 r1_4 : f8_p0_o0_x47 (f8_p0_o0_y x47 x48 r0_0 r0_1 r0_2 r0_3 r0_4 r1_0 r1_1 r1_2 r1_3 r1_4) = x47 := id rfl
@[simp] theorem f8_p0_o0_x48_y x47 x48 r0_0 r0_1 r0_2 r0_3 r0_4 r1_0 r1_1 r1_2 r1_3 r1_4 : f8_p0_o0_x48 (f8_p0_o0_y x47 x48 r0_0 r0_1 r0_2 r0_3 r0_4 r1_0 r1_1 r1_2 r1_3 r1_4) = x48 := id rfl
@[simp] theorem f8_p0_o0_r0_0_y x47 x48 r0_0 r0_1 r0_2 r0_3 r0_4 r1_0 r1_1 r1_2 r1_3 r1_4 : f8_p0_o0_r0_0 (f8_p0_o0_y x47 x48 r0_0 r0_1 r0_2 r0_3 r0_4 r1_0 r1_1 r1_2 r1_3 r1_4) = r0_0 := id rfl
@[simp] theorem f8_p0_o0_r0_1_y x47 x48 r0_0 r0_1 r0_2 r0_3 r0_4 r1_0 r1_1 r1_2 r1_3 r1_4 : f8_p0_o0_r0_1 (f8_p0_o0_y x47 x48 r0_0 r0_1 r0_2 r0_3 r0_4 r1_0 r1_1 r1_2 r1_3 r1_4) = r0_1 := id rfl
@[simp] theorem f8_p0_o0_r0_2_y x47 x48 r0_0 r0_1 r0_2 r0_3 r0_4 r1_0 r1_1 r1_2 r1_3 r1_4 : f8_p0_o0_r0_2 (f8_p0_o0_y x47 x48 r0_0 r0_1 r0_2 r0_3 r0_4 r1_0 r1_1 r1_2 r1_3 r1_4) = r0_2 := id rfl
@[simp] theorem f8_p0_o0_r0_3_y x47 x48 r0_0 r0_1 r0_2 r0_3 r0_4 r1_0 r1_1 r1_2 r1_3 r1_4 : f8_p0_o0_r0_3 (f8_p0_o0_y x47 x48 r0_0 r0_1 r0_2 r0_3 r0_4 r1_0 r1_1 r1_2 r1_3 r1_4) = r0_3 := id rfl
@[simp] theorem f8_p0_o0_r0_4_y x47 x48 r0_0 r0_1 r0_2 r0_3 r0_4 r1_0 r1_1 r1_2 r1_3 r1_4 : f8_p0_o0_r0_4 (f8_p0_o0_y x47 x48 r0_0 r0_1 r0_2 r0_3 r0_4 r1_0 r1_1 r1_2 r1_3 r1_4) = r0_4 := id rfl
@[simp] theorem f8_p0_o0_r1_0_y x47 x48 r0_0 r0_1 r0_2 r0_3 r0_4 r1_0 r1_1 r1_2 r1_3 r1_4 : f8_p0_o0_r1_0 (f8_p0_o0_y x47 x48 r0_0 r0_1 r0_2 r0_3 r0_4 r1_0 r1_1 r1_2 r1_3 r1_4) = r1_0 := id rfl
@[simp] theorem f8_p0_o0_r1_1_y x47 x48 r0_0 r0_1 r0_2 r0_3 r0_4 r1_0 r1_1 r1_2 r1_3 r1_4 : f8_p0_o0_r1_1 (f8_p0_o0_y x47 x48 r0_0 r0_1 r0_2 r0_3 r0_4 r1_0 r1_1 r1_2 r1_3 r1_4) = r1_1 := id rfl
@[simp] theorem f8_p0_o0_r1_2_y x47 x48 r0_0 r0_1 r0_2 r0_3 r0_4 r1_0 r1_1 r1_2 r1_3 r1_4 : f8_p0_o0_r1_2 (f8_p0_o0_y x47 x48 r0_0 r0_1 r0_2 r0_3 r0_4 r1_0 r1_1 r1_2 r1_3 r1_4) = r1_2 := id rfl
@[simp] theorem f8_p0_o0_r1_3_y x47 x48 r0_0 r0_1 r0_2 r0_3 r0_4 r1_0 r1_1 r1_2 r1_3 r1_4 : f8_p0_o0_r1_3 (f8_p0_o0_y x47 x48 r0_0 r0_1 r0_2 r0_3 r0_4 r1_0 r1_1 r1_2 r1_3 r1_4) = r1_3 := id rfl
@[simp] theorem f8_p0_o0_r1_4_y x47 x48 r0_0 r0_1 r0_2 r0_3 r0_4 r1_0 r1_1 r1_2 r1_3 r1_4 : f8_p0_o0_r1_4 (f8_p0_o0_y x47 x48 r0_0 r0_1 r0_2 r0_3 r0_4 r1_0 r1_1 r1_2 r1_3 r1_4) = r1_4 := id rfl
def f8_p0_o1_y (x4 : Bool) : f8_p0_o1.den := (((), ((), ((), ((), (x4, ((), ((), ((), ((), ((), ((), ((), ((), ((), ((), ((), ((), ((), ((), ((), ((), ((), ((), ((), ((), ((), ((), ((), ((), ((), ((), ((), ((), ((), ((), ((), ((), ((), ((), ((), ((), ((), ((), ((), ((), ((), ((), ((), ((), ((), ((), ((), ((), ((), ((), ((), ((), ((), ((), ((), ((), ((), ((), ((), ((), ((), ((), ((), ((), ((), ((), ((), ((), ((), ((), ((), ((), ((), ((), ((), ((), ((), ((), ((), ((), ((), ((), ((), ((), ((), ((), ((), ((), ((), ((), ((), ((), ((), ((), ((), ((), ((), ())))))))))))))))))))))))))))))))))))))))))))))))))))))))))))))))))))))))))))))))))))))))))))))))))))))), (), ())
def f8_p0_o1_x4 (z : f8_p0_o1.den) : Bool := z.1.2.2.2.2.1
theorem f8_p0_eq rec x47 x48 x85 x86 r0_0 r0_1 r0_2 r0_3 r0_4 r1_0 r1_1 r1_2 r1_3 r1_4 r2_0 r2_1 r2_2 r3_0 r3_1 r3_2 : f8_p0_st rec (f8_p0_y x47 x48 x85 x86 r0_0 r0_1 r0_2 r0_3 r0_4 r1_0 r1_1 r1_2 r1_3 r1_4 r2_0 r2_1 r2_2 r3_0 r3_1 r3_2) = (bif (decide (x86 < x85)) then ((nth r2_2 x86).bind fun y138 => (nth r3_2 x86).bind fun y139 => bif (y138 != y139) then (some (.inr ((f8_p0_o1_y false)))) else (rec (f8_p0_y x47 x48 x85 (IntKind.i64.wrap (x86 + (1 : Int))) r0_0 r0_1 r0_2 r0_3 r0_4 r1_0 r1_1 r1_2 r1_3 r1_4 r2_0 r2_1 r2_2 r3_0 r3_1 r3_2))) else (some (.inl (f8_p0_o0_y x47 x48 r0_0 r0_1 r0_2 r0_3 r0_4 r1_0 r1_1 r1_2 r1_3 r1_4)))) := by kernel_rfl
def f8_p1_y (x47 : Int) (x48 : Int) (r0_0 : List (List UInt8)) (r0_1 : List UInt8) (r0_2 : Int) (r0_3 : Int) (r0_4 : List ((Int × (List (List UInt8) × List Int)))) (r1_0 : List (List UInt8)) (r1_1 : List UInt8) (r1_2 : Int) (r1_3 : Int) (r1_4 : List ((Int × (List (List UInt8) × List Int)))) (r2_0 : Int) (r2_1 : List (List UInt8)) (r2_2 : List Int) (r3_0 : Int) (r3_1 : List (List UInt8)) (r3_2 : List Int) : f8_p1_sh.den := (((), ((), ((), ((), ((), ((), ((), ((), ((), ((), ((), ((), ((), ((), ((), ((), ((), ((), ((), ((), ((), ((), ((), ((), ((), ((), ((), ((), ((), ((), ((), ((), ((), ((), ((), ((), ((), ((), ((), ((), ((), ((), ((), ((), ((), ((), ((), (x47, (x48, ((), ((), ((), ((), ((), ((), ((), ((), ((), ((), ((), ((), ((), ((), ((), ((), ((), ((), ((), ((), ((), ((), ((), ((), ((), ((), ((), ((), ((), ((), ((), ((), ((), ((), ((), ((), ((), ((), ((), ((), ((), ((), ((), ((), ((), ((), ((), ((), ((), ((), ((), ((), ((), ())))))))))))))))))))))))))))))))))))))))))))))))))))))))))))))))))))))))))))))))))))))))))))))))))))))), ((r0_0, (r0_1, (r0_2, (r0_3, (r0_4, ()))))), ((r1_0, (r1_1, (r1_2, (r1_3, (r1_4, ()))))), ((r2_0, (r2_1, (r2_2, ()))), ((r3_0, (r3_1, (r3_2, ()))), ())))), ())
def f8_p1_o0_y (x47 : Int) (x48 : Int) (x82 : Bool) (r0_0 : List (List UInt8)) (r0_1 : List UInt8) (r0_2 : Int) (r0_3 : Int) (r0_4 : List ((Int × (List (List UInt8) × List Int)))) (r1_0 : List (List UInt8)) (r1_1 : List UInt8) (r1_2 : Int) (r1_3 : Int) (r1_4 : List ((Int × (List (List UInt8) × List Int)))) (r2_0 : Int) (r2_1 : List (List UInt8)) (r2_2 : List Int) (r3_0 : Int) (r3_1 : List (List UInt8)) (r3_2 : List Int) : f8_p1_o0.den := (((), ((), ((), ((), ((), ((), ((), ((), ((), ((), ((), ((), ((), ((), ((), ((), ((), ((), ((), ((), ((), ((), ((), ((), ((), ((), ((), ((), ((), ((), ((), ((), ((), ((), ((), ((), ((), ((), ((), ((), ((), ((), ((), ((), ((), ((), ((), (x47, (x48, ((), ((), ((), ((), ((), ((), ((), ((), ((), ((), ((), ((), ((), ((), ((), ((), ((), ((), ((), ((), ((), ((), ((), ((), ((), ((), ((), ((), ((), ((), ((), ((), ((), (x82, ((), ((), ((), ((), ((), ((), ((), ((), ((), ((), ((), ((), ((), ((), ((), ((), ((), ((), ((), ())))))))))))))))))))))))))))))))))))))))))))))))))))))))))))))))))))))))))))))))))))))))))))))))))))))), ((r0_0, (r0_1, (r0_2, (r0_3, (r0_4, ()))))), ((r1_0, (r1_1, (r1_2, (r1_3, (r1_4, ()))))), ((r2_0, (r2_1, (r2_2, ()))), ((r3_0, (r3_1, (r3_2, ()))), ())))), ())
def f8_p1_o0_x47 (z : f8_p1_o0.den) : Int := z.1.2.2.2.2.2.2.2.2.2.2.2.2.2.2.2.2.2.2.2.2.2.2.2.2.2.2.2.2.2.2.2.2.2.2.2.2.2.2.2.2.2.2.2.2.2.2.2.1
def f8_p1_o0_x48 (z : f8_p1_o0.den) : Int := z.1.2.2.2.2.2.2.2.2.2.2.2.2.2.2.2.2.2.2.2.2.2.2.2.2.2.2.2.2.2.2.2.2.2.2.2.2.2.2.2.2.2.2.2.2.2.2.2.2.1
def f8_p1_o0_x82 (z : f8_p1_o0.den) : Bool := z.1.2.2.2.2.2.2.2.2.2.2.2.2.2.2.2.2.2.2.2.2.2.2.2.2.2.2.2.2.2.2.2.2.2.2.2.2.2.2.2.2.2.2.2.2.2.2.2.2.2.2.2.2.2.2.2.2.2.2.2.2.2.2.2.2.2.2.2.2.2.2.2.2.2.2.2.2.2.2.2.2.2.2.1
def f8_p1_o0_r0_0 (z : f8_p1_o0.den) : List (List UInt8) := z.2.1.1.1
def f8_p1_o0_r0_1 (z : f8_p1_o0.den) : List UInt8 := z.2.1.1.2.1
def f8_p1_o0_r0_2 (z : f8_p1_o0.den) : Int := z.2.1.1.2.2.1
def f8_p1_o0_r0_3 (z : f8_p1_o0.den) : Int := z.2.1.1.2.2.2.1
def f8_p1_o0_r0_4 (z : f8_p1_o0.den) : List ((Int × (List (List UInt8) × List Int))) := z.2.1.1.2.2.2.2.1
def f8_p1_o0_r1_0 (z : f8_p1_o0.den) : List (List UInt8) := z.2.1.2.1.1
def f8_p1_o0_r1_1 (z : f8_p1_o0.den) : List UInt8 := z.2.1.2.1.2.1
def f8_p1_o0_r1_2 (z : f8_p1_o0.den) : Int := z.2.1.2.1.2.2.1
def f8_p1_o0_r1_3 (z : f8_p1_o0.den) : Int := z.2.1.2.1.2.2.2.1
def f8_p1_o0_r1_4 (z : f8_p1_o0.den) : List ((Int × (List (List UInt8) × List Int))) := z.2.1.2.1.2.2.2.2.1
def f8_p1_o0_r2_0 (z : f8_p1_o0.den) : Int := z.2.1.2.2.1.1
def f8_p1_o0_r2_1 (z : f8_p1_o0.den) : List (List UInt8) := z.2.1.2.2.1.2.1
def f8_p1_o0_r2_2 (z : f8_p1_o0.den) : List Int := z.2.1.2.2.1.2.2.1
def f8_p1_o0_r3_0 (z : f8_p1_o0.den) : Int := z.2.1.2.2.2.1.1
def f8_p1_o0_r3_1 (z : f8_p1_o0.den) : List (List UInt8) := z.2.1.2.2.2.1.2.1
def f8_p1_o0_r3_2 (z : f8_p1_o0.den) : List Int := z.2.1.2.2.2.1.2.2.1
@[simp] theorem f8_p1_o0_x47_y x47 x48 x82 r0_0 r0_1 r0_2 r0_3 r0_4 r1_0 r1_1 r1_2 r1_3 r1_4 r2_0 r2_1 r2_2 r3_0 r3_1 r3_2 : f8_p1_o0_x47 (f8_p1_o0_y x47 x48 x82 r0_0 r0_1 r0_2 r0_3 r0_4 r1_0 r1_1 r1_2 r1_3 r1_4 r2_0 r2_1 r2_2 r3_0 r3_1 r3_2) = x47 := id rfl
@[simp] theorem f8_p1_o0_x48_y x47 x48 x82 r0_0 r0_1 r0_2 r0_3 r0_4 r1_0 r1_1 r1_2 r1_3 r1_4 r2_0 r2_1 r2_2 r3_0 r3_1 r3_2 : f8_p1_o0_x48 (f8_p1_o0_y x47 x48 x82 r0_0 r0_1 r0_2 r0_3 r0_4 r1_0 r1_1 r1_2 r1_3 r1_4 r2_0 r2_1 r2_2 r3_0 r3_1 r3_2) = x48 := id rfl
@[simp] theorem f8_p1_o0_x82_y x47 x48 x82 r0_0 r0_1 r0_2 r0_3 r0_4 r1_0 r1_1 r1_2 r1_3 r1_4 r2_0 r2_1 r2_2 r3_0 r3_1 r3_2 : f8_p1_o0_x82 (f8_p1_o0_y x47 x48 x82 r0_0 r0_1 r0_2 r0_3 r0_4 r1_0 r1_1 r1_2 r1_3 r1_4 r2_0 r2_1 r2_2 r3_0 r3_1 r3_2) = x82 := id rfl
@[simp] theorem f8_p1_o0_r0_0_y x47 x48 x82 r0_0 r0_1 r0_2 r0_3 r0_4 r1_0 r1_1 r1_2 r1_3 r1_4 r2_0 r2_1 r2_2 r3_0 r3_1 r3_2 : f8_p1_o0_r0_0 (f8_p1_o0_y x47 x48 x82 r0_0 r0_1 r0_2 r0_3 r0_4 r1_0 r1_1 r1_2 r1_3 r1_4 r2_0 r2_1 r2_2 r3_0 r3_1 r3_2) = r0_0 := id rfl
@[simp] theorem f8_p1_o0_r0_1_y x47 x48 x82 r0_0 r0_1 r0_2 r0_3 r0_4 r1_0 r1_1 r1_2 r1_3 r1_4 r2_0 r2_1 r2_2 r3_0 r3_1 r3_2 : f8_p1_o0_r0_1 (f8_p1_o0_y x47 x48 x82 r0_0 r0_1 r0_2 r0_3 r0_4 r1_0 r1_1 r1_2 r1_3 r1_4 r2_0 r2_1 r2_2 r3_0 r3_1 r3_2) = r0_1 := id rfl
@[simp] theorem f8_p1_o0_r0_2_y x47 x48 x82 r0_0 r0_1 r0_2 r0_3 r0_4 r1_0 r1_1 r1_2 r1_3 r1_4 r2_0 r2_1 r2_2 r3_0 r3_1 r3_2 : f8_p1_o0_r0_2 (f8_p1_o0_y x47 x48 x82 r0_0 r0_1 r0_2 r0_3 r0_4 r1_0 r1_1 r1_2 r1_3 r1_4 r2_0 r2_1 r2_2 r3_0 r3_1 r3_2) = r0_2 := id rfl
@[simp] theorem f8_p1_o0_r0_3_y x47 x48 x82 r0_0 r0_1 r0_2 r0_3 r0_4 r1_0 r1_1 r1_2 r1_3 r1_4 r2_0 r2_1 r2_2 r3_0 r3_1 r3_2 : f8_p1_o0_r0_3 (f8_p1_o0_y x47 x48 x82 r0_0 r0_1 r0_2 r0_3 r0_4 r1_0 r1_1 r1_2 r1_3 r1_4 r2_0 r2_1 r2_2 r3_0 r3_1 r3_2) = r0_3 := id rfl
@[simp] theorem f8_p1_o0_r0_4_y x47 x48 x82 r0_0 r0_1 r0_2 r0_3 r0_4 r1_0 r1_1 r1_2 r1_3 r1_4 r2_0 r2_1 r2_2 r3_0 r3_1 r3_2 : f8_p1_o0_r0_4 (f8_p1_o0_y x47 x48 x82 r0_0 r0_1 r0_2 r0_3 r0_4 r1_0 r1_1 r1_2 r1_3 r1_4 r2_0 r2_1 r2_2 r3_0 r3_1 r3_2) = r0_4 := id rfl
@[simp] theorem f8_p1_o0_r1_0_y x47 x48 x82 r0_0 r0_1 r0_2 r0_3 r0_4 r1_0 r1_1 r1_2 r1_3 r1_4 r2_0 r2_1 r2_2 r3_0 r3_1 r3_2 : f8_p1_o0_r1_0 (f8_p1_o0_y x47 x48 x82 r0_0 r0_1 r0_2 r0_3 r0_4 r1_0 r1_1 r1_2 r1_3 r1_4 r2_0 r2_1 r2_2 r3_0 r3_1 r3_2) = r1_0 := id rfl
@[simp] theorem f8_p1_o0_r1_1_y x47 x48 x82 r0_0 r0_1 r0_2 r0_3 r0_4 r1_0 r1_1 r1_2 r1_3 r1_4 r2_0 r2_1 r2_2 r3_0 r3_1 r3_2 : f8_p1_o0_r1_1 (f8_p1_o0_y x47 x48 x82 r0_0 r0_1 r0_2 r0_3 r0_4 r1_0 r1_1 r1_2 r1_3 r1_4 r2_0 r2_1 r2_2 r3_0 r3_1 r3_2) = r1_1 := id rfl
@[simp] theorem f8_p1_o0_r1_2_y x47 x48 x82 r0_0 r0_1 r0_2 r0_3 r0_4 r1_0 r1_1 r1_2 r1_3 r1_4 r2_0 r2_1 r2_2 r3_0 r3_1 r3_2 : f8_p1_o0_r1_2 (f8_p1_o0_y x47 x48 x82 r0_0 r0_1 r0_2 r0_3 r0_4 r1_0 r1_1 r1_2 r1_3 r1_4 r2_0 r2_1 r2_2 r3_0 r3_1 r3_2) = r1_2 := id rfl
@[simp] theorem f8_p1_o0_r1_3_y x47 x48 x82 r0_0 r0_1 r0_2 r0_3 r0_4 r1_0 r1_1 r1_2 r1_3 r1_4 r2_0 r2_1 r2_2 r3_0 r3_1 r3_2 : f8_p1_o0_r1_3 (f8_p1_o0_y x47 x48 x82 r0_0 r0_1 r0_2 r0_3 r0_4 r1_0 r1_1 r1_2 r1_3 r1_4 r2_0 r2_1 r2_2 r3_0 r3_1 r3_2) = r1_3 := id rfl
@[simp] theorem f8_p1_o0_r1_4_y x47 x48 x82 r0_0 r0_1 r0_2 r0_3 r0_4 r1_0 r1_1 r1_2 r1_3 r1_4 r2_0 r2_1 r2_2 r3_0 r3_1 r3_2 : f8_p1_o0_r1_4 (f8_p1_o0_y x47 x48 x82 r0_0 r0_1 r0_2 r0_3 r0_4 r1_0 r1_1 r1_2 r1_3 r1_4 r2_0 r2_1 r2_2 r3_0 r3_1 r3_2) = r1_4 := id rfl
@[simp] theorem f8_p1_o0_r2_0_y x47 x48 x82 r0_0 r0_1 r0_2 r0_3 r0_4 r1_0 r1_1 r1_2 r1_3 r1_4 r2_0 r2_1 r2_2 r3_0 r3_1 r3_2 : f8_p1_o0_r2_0 (f8_p1_o0_y x47 x48 x82 r0_0 r0_1 r0_2 r0_3 r0_4 r1_0 r1_1 r1_2 r1_3 r1_4 r2_0 r2_1 r2_2 r3_0 r3_1 r3_2) = r2_0 := id rfl
@[simp] theorem f8_p1_o0_r2_1_y x47 x48 x82 r0_0 r0_1 r0_2 r0_3 r0_4 r1_0 r1_1 r1_2 r1_3 r1_4 r2_0 r2_1 r2_2 r3_0 r3_1 r3_2 : f8_p1_o0_r2_1 (f8_p1_o0_y x47 x48 x82 r0_0 r0_1 r0_2 r0_3 r0_4 r1_0 r1_1 r1_2 r1_3 r1_4 r2_0 r2_1 r2_2 r3_0 r3_1 r3_2) = r2_1 := id rfl
@[simp] theorem f8_p1_o0_r2_2_y x47 x48 x82 r0_0 r0_1 r0_2 r0_3 r0_4 r1_0 r1_1 r1_2 r1_3 r1_4 r2_0 r2_1 r2_2 r3_0 r3_1 r3_2 : f8_p1_o0_r2_2 (f8_p1_o0_y x47 x48 x82 r0_0 r0_1 r0_2 r0_3 r0_4 r1_0 r1_1 r1_2 r1_3 r1_4 r2_0 r2_1 r2_2 r3_0 r3_1 r3_2) = r2_2 := id rfl
@[simp] theorem f8_p1_o0_r3_0_y x47 x48 x82 r0_0 r0_1 r0_2 r0_3 r0_4 r1_0 r1_1 r1_2 r1_3 r1_4 r2_0 r2_1 r2_2 r3_0 r3_1 r3_2 : f8_p1_o0_r3_0 (f8_p1_o0_y x47 x48 x82 r0_0 r0_1 r0_2 r0_3 r0_4 r1_0 r1_1 r1_2 r1_3 r1_4 r2_0 r2_1 r2_2 r3_0 r3_1 r3_2) = r3_0 := id rfl
@[simp] theorem f8_p1_o0_r3_1_y x47 x48 x82 r0_0 r0_1 r0_2 r0_3 r0_4 r1_0 r1_1 r1_2 r1_3 r1_4 r2_0 r2_1 r2_2 r3_0 r3_1 r3_2 : f8_p1_o0_r3_1 (f8_p1_o0_y x47 x48 x82 r0_0 r0_1 r0_2 r0_3 r0_4 r1_0 r1_1 r1_2 r1_3 r1_4 r2_0 r2_1 r2_2 r3_0 r3_1 r3_2) = r3_1 := id rfl
@[simp] theorem f8_p1_o0_r3_2_y x47 x48 x82 r0_0 r0_1 r0_2 r0_3 r0_4 r1_0 r1_1 r1_2 r1_3 r1_4 r2_0 r2_1 r2_2 r3_0 r3_1 r3_2 : f8_p1_o0_r3_2 (f8_p1_o0_y x47 x48 x82 r0_0 r0_1 r0_2 r0_3 r0_4 r1_0 r1_1 r1_2 r1_3 r1_4 r2_0 r2_1 r2_2 r3_0 r3_1 r3_2) = r3_2 := id rfl
theorem f8_p1_eq x47 x48 r0_0 r0_1 r0_2 r0_3 r0_4 r1_0 r1_1 r1_2 r1_3 r1_4 r2_0 r2_1 r2_2 r3_0 r3_1 r3_2 : f8_p1_F (f8_p1_y x47 x48 r0_0 r0_1 r0_2 r0_3 r0_4 r1_0 r1_1 r1_2 r1_3 r1_4 r2_0 r2_1 r2_2 r3_0 r3_1 r3_2) = (bif (r2_0 != r3_0) then (some ((f8_p1_o0_y x47 x48 true r0_0 r0_1 r0_2 r0_3 r0_4 r1_0 r1_1 r1_2 r1_3 r1_4 r2_0 r2_1 r2_2 r3_0 r3_1 r3_2))) else ((f19_F (r2_1, (r3_1, ()))).bind fun r140 => bif (!r140.1) then (some ((f8_p1_o0_y x47 x48 true r0_0 r0_1 r0_2 r0_3 r0_4 r1_0 r1_1 r1_2 r1_3 r1_4 r2_0 r2_1 r2_2 r3_0 r3_1 r3_2))) else (some ((f8_p1_o0_y x47 x48 ((r2_2.length : Int) != (r3_2.length : Int)) r0_0 r0_1 r0_2 r0_3 r0_4 r1_0 r1_1 r1_2 r1_3 r1_4 r2_0 r2_1 r2_2 r3_0 r3_1 r3_2))))) := by kernel_rfl
def f8_p2_y (x47 : Int) (x48 : Int) (r0_0 : List (List UInt8)) (r0_1 : List UInt8) (r0_2 : Int) (r0_3 : Int) (r0_4 : List ((Int × (List (List UInt8) × List Int)))) (r1_0 : List (List UInt8)) (r1_1 : List UInt8) (r1_2 : Int) (r1_3 : Int) (r1_4 : List ((Int × (List (List UInt8) × List Int)))) : f8_p2_sh.den := (((), ((), ((), ((), ((), ((), ((), ((), ((), ((), ((), ((), ((), ((), ((), ((), ((), ((), ((), ((), ((), ((), ((), ((), ((), ((), ((), ((), ((), ((), ((), ((), ((), ((), ((), ((), ((), ((), ((), ((), ((), ((), ((), ((), ((), ((), ((), (x47, (x48, ((), ((), ((), ((), ((), ((), ((), ((), ((), ((), ((), ((), ((), ((), ((), ((), ((), ((), ((), ((), ((), ((), ((), ((), ((), ((), ((), ((), ((), ((), ((), ((), ((), ((), ((), ((), ((), ((), ((), ((), ((), ((), ((), ((), ((), ((), ((), ((), ((), ((), ((), ((), ((), ())))))))))))))))))))))))))))))))))))))))))))))))))))))))))))))))))))))))))))))))))))))))))))))))))))))), ((r0_0, (r0_1, (r0_2, (r0_3, (r0_4, ()))))), ((r1_0, (r1_1, (r1_2, (r1_3, (r1_4, ()))))), ())), ())
def f8_p2_o0_y : f8_p2_o0.den := (((), ((), ((), ((), ((), ((), ((), ((), ((), ((), ((), ((), ((), ((), ((), ((), ((), ((), ((), ((), ((), ((), ((), ((), ((), ((), ((), ((), ((), ((), ((), ((), ((), ((), ((), ((), ((), ((), ((), ((), ((), ((), ((), ((), ((), ((), ((), ((), ((), ((), ((), ((), ((), ((), ((), ((), ((), ((), ((), ((), ((), ((), ((), ((), ((), ((), ((), ((), ((), ((), ((), ((), ((), ((), ((), ((), ((), ((), ((), ((), ((), ((), ((), ((), ((), ((), ((), ((), ((), ((), ((), ((), ((), ((), ((), ((), ((), ((), ((), ((), ((), ((), ())))))))))))))))))))))))))))))))))))))))))))))))))))))))))))))))))))))))))))))))))))))))))))))))))))))), (), ())
def f8_p2_o1_y (x4 : Bool) : f8_p2_o1.den := (((), ((), ((), ((), (x4, ((), ((), ((), ((), ((), ((), ((), ((), ((), ((), ((), ((), ((), ((), ((), ((), ((), ((), ((), ((), ((), ((), ((), ((), ((), ((), ((), ((), ((), ((), ((), ((), ((), ((), ((), ((), ((), ((), ((), ((), ((), ((), ((), ((), ((), ((), ((), ((), ((), ((), ((), ((), ((), ((), ((), ((), ((), ((), ((), ((), ((), ((), ((), ((), ((), ((), ((), ((), ((), ((), ((), ((), ((), ((), ((), ((), ((), ((), ((), ((), ((), ((), ((), ((), ((), ((), ((), ((), ((), ((), ((), ((), ((), ((), ((), ((), ((), ())))))))))))))))))))))))))))))))))))))))))))))))))))))))))))))))))))))))))))))))))))))))))))))))))))))), (), ())
def f8_p2_o1_x4 (z : f8_p2_o1.den) : Bool := z.1.2.2.2.2.1
theorem f8_p2_eq rec x47 x48 r0_0 r0_1 r0_2 r0_3 r0_4 r1_0 r1_1 r1_2 r1_3 r1_4 : f8_p2_st rec (f8_p2_y x47 x48 r0_0 r0_1 r0_2 r0_3 r0_4 r1_0 r1_1 r1_2 r1_3 r1_4) = (bif (decide (x48 < x47)) then ((nth r0_4 x48).bind fun y141 => (nth r1_4 x48).bind fun y142 => (f8_p1_F (f8_p1_y x47 x48 r0_0 r0_1 r0_2 r0_3 r0_4 r1_0 r1_1 r1_2 r1_3 r1_4 y141.1 y141.2.1 y141.2.2 y142.1 y142.2.1 y142.2.2)).bind fun o143 => bif (f8_p1_o0_x82 o143) then (some (.inr ((f8_p2_o1_y false)))) else ((go f8_p0_st (f8_p0_y (f8_p1_o0_x47 o143) (f8_p1_o0_x48 o143) ((f8_p1_o0_r2_2 o143).length : Int) (0 : Int) (f8_p1_o0_r0_0 o143) (f8_p1_o0_r0_1 o143) (f8_p1_o0_r0_2 o143) (f8_p1_o0_r0_3 o143) (f8_p1_o0_r0_4 o143) (f8_p1_o0_r1_0 o143) (f8_p1_o0_r1_1 o143) (f8_p1_o0_r1_2 o143) (f8_p1_o0_r1_3 o143) (f8_p1_o0_r1_4 o143) (f8_p1_o0_r2_0 o143) (f8_p1_o0_r2_1 o143) (f8_p1_o0_r2_2 o143) (f8_p1_o0_r3_0 o143) (f8_p1_o0_r3_1 o143) (f8_p1_o0_r3_2 o143))).bind fun o144 => (match o144 with | .inl z145 => rec (f8_p2_y (f8_p0_o0_x47 z145) (IntKind.i64.wrap ((f8_p0_o0_x48 z145) + (1 : Int))) (f8_p0_o0_r0_0 z145) (f8_p0_o0_r0_1 z145) (f8_p0_o0_r0_2 z145) (f8_p0_o0_r0_3 z145) (f8_p0_o0_r0_4 z145) (f8_p0_o0_r1_0 z145) (f8_p0_o0_r1_1 z145) (f8_p0_o0_r1_2 z145) (f8_p0_o0_r1_3 z145) (f8_p0_o0_r1_4 z145)) | .inr o146 => some (.inr ((f8_p2_o1_y (f8_p0_o1_x4 o146))))))) else (some (.inl f8_p2_o0_y))) := by kernel_rfl
def f8_p3_y (r0_0 : List (List UInt8)) (r0_1 : List UInt8) (r0_2 : Int) (r0_3 : Int) (r0_4 : List ((Int × (List (List UInt8) × List Int)))) (r1_0 : List (List UInt8)) (r1_1 : List UInt8) (r1_2 : Int) (r1_3 : Int) (r1_4 : List ((Int × (List (List UInt8) × List Int)))) : f8_p3_sh.den := (((), ((), ((), ((), ((), ((), ((), ((), ((), ((), ((), ((), ((), ((), ((), ((), ((), ((), ((), ((), ((), ((), ((), ((), ((), ((), ((), ((), ((), ((), ((), ((), ((), ((), ((), ((), ((), ((), ((), ((), ((), ((), ((), ((), ((), ((), ((), ((), ((), ((), ((), ((), ((), ((), ((), ((), ((), ((), ((), ((), ((), ((), ((), ((), ((), ((), ((), ((), ((), ((), ((), ((), ((), ((), ((), ((), ((), ((), ((), ((), ((), ((), ((), ((), ((), ((), ((), ((), ((), ((), ((), ((), ((), ((), ((), ((), ((), ((), ((), ((), ((), ((), ())))))))))))))))))))))))))))))))))))))))))))))))))))))))))))))))))))))))))))))))))))))))))))))))))))))), ((r0_0, (r0_1, (r0_2, (r0_3, (r0_4, ()))))), ((r1_0, (r1_1, (r1_2, (r1_3, (r1_4, ()))))), ())), ())
def f8_p3_o0_y (x44 : Bool) (r0_0 : List (List UInt8)) (r0_1 : List UInt8) (r0_2 : Int) (r0_3 : Int) (r0_4 : List ((Int × (List (List UInt8) × List Int)))) (r1_0 : List (List UInt8)) (r1_1 : List UInt8) (r1_2 : Int) (r1_3 : Int) (r1_4 : List ((Int × (List (List UInt8) × List Int)))) : f8_p3_o0.den := (((), ((), ((), ((), ((), ((), ((), ((), ((), ((), ((), ((), ((), ((), ((), ((), ((), ((), ((), ((), ((), ((), ((), ((), ((), ((), ((), ((), ((), ((), ((), ((), ((), ((), ((), ((), ((), ((), ((), ((), ((), ((), ((), ((), (x44, ((), ((), ((), ((), ((), ((), ((), ((), ((), ((), ((), ((), ((), ((), ((), ((), ((), ((), ((), ((), ((), ((), ((), ((), ((), ((), ((), ((), ((), ((), ((), ((), ((), ((), ((), ((), ((), ((), ((), ((), ((), ((), ((), ((), ((), ((), ((), ((), ((), ((), ((), ((), ((), ((), ((), ((), ((), ())))))))))))))))))))))))))))))))))))))))))))))))))))))))))))))))))))))))))))))))))))))))))))))))))))))), ((r0_0, (r0_1, (r0_2, (r0_3, (r0_4, ()))))), ((r1_0, (r1_1, (r1_2, (r1_3, (r1_4, ()))))), ())), ())
def f8_p3_o0_x44 (z : f8_p3_o0.den) : Bool := z.1.2.2.2.2.2.2.2.2.2.2.2.2.2.2.2.2.2.2.2.2.2.2.2.2.2.2.2.2.2.2.2.2.2.2.2.2.2.2.2.2.2.2.2.2.1
def f8_p3_o0_r0_0 (z : f8_p3_o0.den) : List (List UInt8) := z.2.1.1.1
def f8_p3_o0_r0_1 (z : f8_p3_o0.den) : List UInt8 := z.2.1.1.2.1
def f8_p3_o0_r0_2 (z : f8_p3_o0.den) : Int := z.2.1.1.2.2.1
def f8_p3_o0_r0_3 (z : f8_p3_o0.den) : Int := z.2.1.1.2.2.2.1
def f8_p3_o0_r0_4 (z : f8_p3_o0.den) : List ((Int × (List (List UInt8) × List Int))) := z.2.1.1.2.2.2.2.1
def f8_p3_o0_r1_0 (z : f8_p3_o0.den) : List (List UInt8) := z.2.1.2.1.1
def f8_p3_o0_r1_1 (z : f8_p3_o0.den) : List UInt8 := z.2.1.2.1.2.1
def f8_p3_o0_r1_2 (z : f8_p3_o0.den) : Int := z.2.1.2.1.2.2.1
def f8_p3_o0_r1_3 (z : f8_p3_o0.den) : Int := z.2.1.2.1.2.2.2.1
def f8_p3_o0_r1_4 (z : f8_p3_o0.den) : List ((Int × (List (List UInt8) × List Int))) := z.2.1.2.1.2.2.2.2.1
@[simp] theorem f8_p3_o0_x44_y x44 r0_0 r0_1 r0_2 r0_3 r0_4 r1_0 r1_1 r1_2 r1_3 r1_4 : f8_p3_o0_x44 (f8_p3_o0_y x44 r0_0 r0_1 r0_2 r0_3 r0_4 r1_0 r1_1 r1_2 r1_3 r1_4) = x44 := id rfl
@[simp] theorem f8_p3_o0_r0_0_y x44 r0_0 r0_1 r0_2 r0_3 r0_4 r1_0 r1_1 r1_2 r1_3 r1_4 : f8_p3_o0_r0_0 (f8_p3_o0_y x44 r0_0 r0_1 r0_2 r0_3 r0_4 r1_0 r1_1 r1_2 r1_3 r1_4) = r0_0 := id rfl
@[simp] theorem f8_p3_o0_r0_1_y x44 r0_0 r0_1 r0_2 r0_3 r0_4 r1_0 r1_1 r1_2 r1_3 r1_4 : f8_p3_o0_r0_1 (f8_p3_o0_y x44 r0_0 r0_1 r0_2 r0_3 r0_4 r1_0 r1_1 r1_2 r1_3 r1_4) = r0_1 := id rfl
@[simp] theorem f8_p3_o0_r0_2_y x44 r0_0 r0_1 r0_2 r0_3 r0_4 r1_0 r1_1 r1_2 r1_3 r1_4 : f8_p3_o0_r0_2 (f8_p3_o0_y x44 r0_0 r0_1 r0_2 r0_3 r0_4 r1_0 r1_1 r1_2 r1_3 r1_4) = r0_2 := id rfl
@[simp] theorem f8_p3_o0_r0_3_y x44 r0_0 r0_1 r0_2 r0_3 r0_4 r1_0 r1_1 r1_2 r1_3 r1_4 : f8_p3_o0_r0_3 (f8_p3_o0_y x44 r0_0 r0_1 r0_2 r0_3 r0_4 r1_0 r1_1 r1_2 r1_3 r1_4) = r0_3 := id rfl
@[simp] theorem f8_p3_o0_r0_4_y x44 r0_0 r0_1 r0_2 r0_3 r0_4 r1_0 r1_1 r1_2 r1_3 r1_4 : f8_p3_o0_r0_4 (f8_p3_o0_y x44 r0_0 r0_1 r0_2 r0_3 r0_4 r1_0 r1_1 r1_2 r1_3 r1_4) = r0_4 := id rfl
@[simp] theorem f8_p3_o0_r1_0_y x44 r0_0 r0_1 r0_2 r0_3 r0_4 r1_0 r1_1 r1_2 r1_3 r1_4 : f8_p3_o0_r1_0 (f8_p3_o0_y x44 r0_0 r0_1 r0_2 r0_3 r0_4 r1_0 r1_1 r1_2 r1_3 r1_4) = r1_0 := id rfl
@[simp] theorem f8_p3_o0_r1_1_y x44 r0_0 r0_1 r0_2 r0_3 r0_4 r1_0 r1_1 r1_2 r1_3 r1_4 : f8_p3_o0_r1_1 (f8_p3_o0_y x44 r0_0 r0_1 r0_2 r0_3 r0_4 r1_0 r1_1 r1_2 r1_3 r1_4) = r1_1 := id rfl
@[simp] theorem f8_p3_o0_r1_2_y x44 r0_0 r0_1 r0_2 r0_3 r0_4 r1_0 r1_1 r1_2 r1_3 r1_4 : f8_p3_o0_r1_2 (f8_p3_o0_y x44 r0_0 r0_1 r0_2 r0_3 r0_4 r1_0 r1_1 r1_2 r1_3 r1_4) = r1_2 := id rfl
@[simp] theorem f8_p3_o0_r1_3_y x44 r0_0 r0_1 r0_2 r0_3 r0_4 r1_0 r1_1 r1_2 r1_3 r1_4 : f8_p3_o0_r1_3 (f8_p3_o0_y x44 r0_0 r0_1 r0_2 r0_3 r0_4 r1_0 r1_1 r1_2 r1_3 r1_4) = r1_3 := id rfl
@[simp] theorem f8_p3_o0_r1_4_y x44 r0_0 r0_1 r0_2 r0_3 r0_4 r1_0 r1_1 r1_2 r1_3 r1_4 : f8_p3_o0_r1_4 (f8_p3_o0_y x44 r0_0 r0_1 r0_2 r0_3 r0_4 r1_0 r1_1 r1_2 r1_3 r1_4) = r1_4 := id rfl
theorem f8_p3_eq r0_0 r0_1 r0_2 r0_3 r0_4 r1_0 r1_1 r1_2 r1_3 r1_4 : f8_p3_F (f8_p3_y r0_0 r0_1 r0_2 r0_3 r0_4 r1_0 r1_1 r1_2 r1_3 r1_4) = ((f19_F (r0_0, (r1_0, ()))).bind fun r147 => bif (!r147.1) then (some ((f8_p3_o0_y true r0_0 r0_1 r0_2 r0_3 r0_4 r1_0 r1_1 r1_2 r1_3 r1_4))) else (bif (r0_1 != r1_1) then (some ((f8_p3_o0_y true r0_0 r0_1 r0_2 r0_3 r0_4 r1_0 r1_1 r1_2 r1_3 r1_4))) else (bif (r0_2 != r1_2) then (some ((f8_p3_o0_y true r0_0 r0_1 r0_2 r0_3 r0_4 r1_0 r1_1 r1_2 r1_3 r1_4))) else (bif (r0_3 != r1_3) then (some ((f8_p3_o0_y true r0_0 r0_1 r0_2 r0_3 r0_4 r1_0 r1_1 r1_2 r1_3 r1_4))) else (some ((f8_p3_o0_y ((r0_4.length : Int) != (r1_4.length : Int)) r0_0 r0_1 r0_2 r0_3 r0_4 r1_0 r1_1 r1_2 r1_3 r1_4))))))) := by kernel_rfl
theorem f8_eq a0_0 a0_1 a0_2 a0_3 a0_4 a1_0 a1_1 a1_2 a1_3 a1_4 : f8_F ((a0_0, (a0_1, (a0_2, (a0_3, (a0_4, ()))))), ((a1_0, (a1_1, (a1_2, (a1_3, (a1_4, ()))))), ())) = ((f8_p3_F (f8_p3_y a0_0 a0_1 a0_2 a0_3 a0_4 a1_0 a1_1 a1_2 a1_3 a1_4)).bind fun o148 => bif (f8_p3_o0_x44 o148) then (some (false, ())) else ((go f8_p2_st (f8_p2_y ((f8_p3_o0_r0_4 o148).length : Int) (0 : Int) (f8_p3_o0_r0_0 o148) (f8_p3_o0_r0_1 o148) (f8_p3_o0_r0_2 o148) (f8_p3_o0_r0_3 o148) (f8_p3_o0_r0_4 o148) (f8_p3_o0_r1_0 o148) (f8_p3_o0_r1_1 o148) (f8_p3_o0_r1_2 o148) (f8_p3_o0_r1_3 o148) (f8_p3_o0_r1_4 o148))).bind fun o149 => (match o149 with | .inl z150 => some (true, ()) | .inr o151 => some ((f8_p2_o1_x4 o151), ())))) := by kernel_rfl
theorem f41_eq a0 : f41_F (a0, ()) = (if (strOf [(IntKind.u8.wrap a0)]).length + ([48, 49, 50, 51, 52, 53, 54, 55, 56, 57, 97, 98, 99, 100, 101, 102, 48, 49, 50, 51, 52, 53, 54, 55, 56, 57, 97, 98, 99, 100, 101] : List UInt8).length ≤ 4611686018427387904 then (some (((strOf [(IntKind.u8.wrap a0)]) ++ ([48, 49, 50, 51, 52, 53, 54, 55, 56, 57, 97, 98, 99, 100, 101, 102, 48, 49, 50, 51, 52, 53, 54, 55, 56, 57, 97, 98, 99, 100, 101] : List UInt8)), ())) else none) := by kernel_rfl
theorem f20_eq : f20_F () = ((f41_L ((1 : Int), ())).bind fun r152 => (f41_L ((2 : Int), ())).bind fun r153 => (f41_L ((3 : Int), ())).bind fun r154 => (f41_L ((4 : Int), ())).bind fun r155 => (f41_L ((5 : Int), ())).bind fun r156 => some (([r152.1, r153.1, r154.1, r155.1], (r156.1, ((30 : Int), ((2 : Int), (([] : List ((Int × (List (List UInt8) × List Int)))), ()))))), ())) := by rw [f20_Fe]; kernel_rfl
theorem f9_eq : f9_F () = ((f20_F ()).bind fun r157 => (f6_L ((r157.1.1, (r157.1.2.1, (r157.1.2.2.1, (r157.1.2.2.2.1, (r157.1.2.2.2.2.1, ()))))), ())).bind fun r158 => (f7_L (r158.1, ())).bind fun r159 => bif (r158.2.1 == (0 : Int)) then (bif (r159.2.1 == (0 : Int)) then (bif ((r159.1.1.length : Int) == (4 : Int)) then (bif (r159.1.2.2.2.1 == (2 : Int)) then ((f10_L ((r159.1.1, (r159.1.2.1, (r159.1.2.2.1, (r159.1.2.2.2.1, (r159.1.2.2.2.2.1, ()))))), ())).bind fun r160 => some (r160.1, ())) else (some (false, ()))) else (some (false, ()))) else (some (false, ()))) else (some (false, ()))) := by rw [f9_Fe]; kernel_rfl
def f3_p0_y (x1 : List UInt8) (x8 : Int) (x9 : Int) (r0_0 : List (List UInt8)) (r0_1 : List UInt8) (r0_2 : Int) (r0_3 : Int) (r0_4 : List ((Int × (List (List UInt8) × List Int)))) (r1_0 : List (List UInt8)) (r1_1 : List UInt8) (r1_2 : Int) (r1_3 : Int) (r1_4 : List ((Int × (List (List UInt8) × List Int)))) : f3_p0_sh.den := (((), (x1, ((), ((), ((), ((), ((), ((), (x8, (x9, ((), ((), ((), ((), ((), ((), ((), ((), ((), ((), ((), ((), ((), ((), ((), ((), ((), ((), ((), ((), ((), ((), ((), ((), ((), ((), ((), ((), ((), ((), ((), ((), ((), ((), ((), ((), ((), ((), ((), ((), ((), ((), ((), ((), ((), ((), ((), ((), ((), ((), ((), ((), ((), ((), ((), ((), ((), ((), ((), ((), ((), ((), ((), ((), ((), ((), ((), ((), ((), ((), ())))))))))))))))))))))))))))))))))))))))))))))))))))))))))))))))))))))))))))))))), ((r0_0, (r0_1, (r0_2, (r0_3, (r0_4, ()))))), ((r1_0, (r1_1, (r1_2, (r1_3, (r1_4, ()))))), ())), ())
def f3_p0_o0_y (x1 : List UInt8) (x46 : Bool) : f3_p0_o0.den := (((), (x1, ((), ((), ((), ((), ((), ((), ((), ((), ((), ((), ((), ((), ((), ((), ((), ((), ((), ((), ((), ((), ((), ((), ((), ((), ((), ((), ((), ((), ((), ((), ((), ((), ((), ((), ((), ((), ((), ((), ((), ((), ((), ((), ((), ((), (x46, ((), ((), ((), ((), ((), ((), ((), ((), ((), ((), ((), ((), ((), ((), ((), ((), ((), ((), ((), ((), ((), ((), ((), ((), ((), ((), ((), ((), ((), ((), ((), ((), ((), ())))))))))))))))))))))))))))))))))))))))))))))))))))))))))))))))))))))))))))))))), (), ())
def f3_p0_o0_x1 (z : f3_p0_o0.den) : List UInt8 := z.1.2.1
def f3_p0_o0_x46 (z : f3_p0_o0.den) : Bool := z.1.2.2.2.2.2.2.2.2.2.2.2.2.2.2.2.2.2.2.2.2.2.2.2.2.2.2.2.2.2.2.2.2.2.2.2.2.2.2.2.2.2.2.2.2.2.2.1
@[simp] theorem f3_p0_o0_x1_y x1 x46 : f3_p0_o0_x1 (f3_p0_o0_y x1 x46) = x1 := id rfl
@[simp] theorem f3_p0_o0_x46_y x1 x46 : f3_p0_o0_x46 (f3_p0_o0_y x1 x46) = x46 := id rfl
theorem f3_p0_eq x1 x8 x9 r0_0 r0_1 r0_2 r0_3 r0_4 r1_0 r1_1 r1_2 r1_3 r1_4 : f3_p0_F (f3_p0_y x1 x8 x9 r0_0 r0_1 r0_2 r0_3 r0_4 r1_0 r1_1 r1_2 r1_3 r1_4) = (bif (x8 != (0 : Int)) then (some ((f3_p0_o0_y x1 true))) else (bif (x9 != (0 : Int)) then (some ((f3_p0_o0_y x1 true))) else ((f8_F ((r0_0, (r0_1, (r0_2, (r0_3, (r0_4, ()))))), ((r1_0, (r1_1, (r1_2, (r1_3, (r1_4, ()))))), ()))).bind fun r161 => some ((f3_p0_o0_y x1 (!r161.1)))))) := by kernel_rfl
def f3_p1_y (x1 : List UInt8) (r0_0 : List (List UInt8)) (r0_1 : List UInt8) (r0_2 : Int) (r0_3 : Int) (r0_4 : List ((Int × (List (List UInt8) × List Int)))) : f3_p1_sh.den := (((), (x1, ((), ((), ((), ((), ((), ((), ((), ((), ((), ((), ((), ((), ((), ((), ((), ((), ((), ((), ((), ((), ((), ((), ((), ((), ((), ((), ((), ((), ((), ((), ((), ((), ((), ((), ((), ((), ((), ((), ((), ((), ((), ((), ((), ((), ((), ((), ((), ((), ((), ((), ((), ((), ((), ((), ((), ((), ((), ((), ((), ((), ((), ((), ((), ((), ((), ((), ((), ((), ((), ((), ((), ((), ((), ((), ((), ((), ((), ((), ())))))))))))))))))))))))))))))))))))))))))))))))))))))))))))))))))))))))))))))))), ((r0_0, (r0_1, (r0_2, (r0_3, (r0_4, ()))))), ()), ())
def f3_p1_o0_y (x4 : Bool) : f3_p1_o0.den := (((), ((), ((), ((), (x4, ((), ((), ((), ((), ((), ((), ((), ((), ((), ((), ((), ((), ((), ((), ((), ((), ((), ((), ((), ((), ((), ((), ((), ((), ((), ((), ((), ((), ((), ((), ((), ((), ((), ((), ((), ((), ((), ((), ((), ((), ((), ((), ((), ((), ((), ((), ((), ((), ((), ((), ((), ((), ((), ((), ((), ((), ((), ((), ((), ((), ((), ((), ((), ((), ((), ((), ((), ((), ((), ((), ((), ((), ((), ((), ((), ())))))))))))))))))))))))))))))))))))))))))))))))))))))))))))))))))))))))))))))))), (), ())
def f3_p1_o0_x4 (z : f3_p1_o0.den) : Bool := z.1.2.2.2.2.1
def f3_p1_o1_y (x1 : List UInt8) : f3_p1_o1.den := (((), (x1, ((), ((), ((), ((), ((), ((), ((), ((), ((), ((), ((), ((), ((), ((), ((), ((), ((), ((), ((), ((), ((), ((), ((), ((), ((), ((), ((), ((), ((), ((), ((), ((), ((), ((), ((), ((), ((), ((), ((), ((), ((), ((), ((), ((), ((), ((), ((), ((), ((), ((), ((), ((), ((), ((), ((), ((), ((), ((), ((), ((), ((), ((), ((), ((), ((), ((), ((), ((), ((), ((), ((), ((), ((), ((), ((), ((), ((), ((), ())))))))))))))))))))))))))))))))))))))))))))))))))))))))))))))))))))))))))))))))), (), ())
def f3_p1_o1_x1 (z : f3_p1_o1.den) : List UInt8 := z.1.2.1
@[simp] theorem f3_p1_o1_x1_y x1 : f3_p1_o1_x1 (f3_p1_o1_y x1) = x1 := id rfl
theorem f3_p1_eq x1 r0_0 r0_1 r0_2 r0_3 r0_4 : f3_p1_F (f3_p1_y x1 r0_0 r0_1 r0_2 r0_3 r0_4) = ((f6_F ((r0_0, (r0_1, (r0_2, (r0_3, (r0_4, ()))))), ())).bind fun r162 => bif (r162.2.1 == (0 : Int)) then ((f7_F (r162.1, ())).bind fun r163 => (f3_p0_F (f3_p0_y x1 r163.2.1 r163.2.2.1 r0_0 r0_1 r0_2 r0_3 r0_4 r163.1.1 r163.1.2.1 r163.1.2.2.1 r163.1.2.2.2.1 r163.1.2.2.2.2.1)).bind fun o164 => bif (f3_p0_o0_x46 o164) then (some (.inl (f3_p1_o0_y false))) else (some (.inr ((f3_p1_o1_y (f3_p0_o0_x1 o164)))))) else (some (.inr ((f3_p1_o1_y x1))))) := by kernel_rfl
theorem f3_eq a0_0 a0_1 a0_2 a0_3 a0_4 a1 : f3_F ((a0_0, (a0_1, (a0_2, (a0_3, (a0_4, ()))))), (a1, ())) = ((f5_F ((a0_0, (a0_1, (a0_2, (a0_3, (a0_4, ()))))), ((205 : Int), ()))).bind fun r165 => cutHi a1 (minI (a1.length : Int) (12000 : Int)) fun s166 => (f3_p1_F (f3_p1_y s166 r165.1.1 r165.1.2.1 r165.1.2.2.1 r165.1.2.2.2.1 r165.1.2.2.2.2.1)).bind fun o167 => (match o167 with | .inl z168 => some ((f3_p1_o0_x4 z168), ()) | .inr o169 => (f7_F ((f3_p1_o1_x1 o169), ())).bind fun r170 => bif (r170.2.1 != (0 : Int)) then ((f9_F ()).bind fun r171 => bif r171.1 then ((f8_F ((r170.1.1, (r170.1.2.1, (r170.1.2.2.1, (r170.1.2.2.2.1, (r170.1.2.2.2.2.1, ()))))), ((([] : List (List UInt8)), (([] : List UInt8), ((0 : Int), ((0 : Int), (([] : List ((Int × (List (List UInt8) × List Int)))), ()))))), ()))).bind fun r172 => some (r172.1, ())) else (some (false, ()))) else ((f6_F ((r170.1.1, (r170.1.2.1, (r170.1.2.2.1, (r170.1.2.2.2.1, (r170.1.2.2.2.2.1, ()))))), ())).bind fun r173 => (f9_F ()).bind fun r174 => bif r174.1 then (bif (r173.2.1 == (0 : Int)) then (bif (r173.1 == (f3_p1_o1_x1 o169)) then ((f10_F ((r170.1.1, (r170.1.2.1, (r170.1.2.2.1, (r170.1.2.2.2.1, (r170.1.2.2.2.2.1, ()))))), ())).bind fun r175 => some (r175.1, ())) else (some (false, ()))) else (some (false, ()))) else (some (false, ()))))) := by kernel_rfl
end Go.Pe.Tryd
end
section
namespace Go.Pe
open Go.RowKit
set_option linter.unusedSectionVars false
variable [GI]
theorem go_seq {sh : Shape} {β : Type} {step : (sh.den → Option β) → sh.den → Option β} {y : Nat → sh.den} {n : Nat} {r : Option β}
    (hs : ∀ i, i < n → ∀ rec, step rec (y i) = rec (y (i + 1))) (he : ∀ rec, step rec (y n) = r) (hm : n + 1 ≤ fuelOf sh (y 0)) : go step (y 0) = r := by
  have key : ∀ d i, i + d = n → ∀ m, d + 1 ≤ m → iter step m (y i) = r := by
    intro d
    induction d with
    | zero =>
      intro i hi m hm
      obtain ⟨m, rfl⟩ : ∃ k, m = k + 1 := ⟨m - 1, by omega⟩
      have : i = n := by omega
      subst this
      rw [iter, he]
    | succ d ih =>
      intro i hi m hm
      obtain ⟨m, rfl⟩ : ∃ k, m = k + 1 := ⟨m - 1, by omega⟩
      rw [iter, hs i (by omega), ih (i + 1) (by omega) m (by omega)]
  exact key n 0 (by omega) _ hm
theorem wrap64 {x : Int} (h0 : -9223372036854775808 ≤ x) (h1 : x < 9223372036854775808) : IntKind.i64.wrap x = x := by
  simp only [IntKind.wrap, IntKind.bits, IntKind.signed]
  simp
  omega
theorem fuel_def (sh : Shape) (z : sh.den) : fuelOf sh z = 1000000 + (fuelL sh.slots z.1 + fuelR sh.recs z.2.1 + fuelT sh.lsts z.2.2) := rfl
end Go.Pe
end
section
namespace Go.Pe
open Go.RowKit
set_option linter.unusedSectionVars false
variable [GI]
theorem go_scan {sh : Shape} {α β : Type} {step : (sh.den → Option β) → sh.den → Option β} {l : List α} (y : Nat → sh.den) (p : α → Bool) (out : Nat → Option β) (fin : Option β)
    (h1 : ∀ i (h : i < l.length) rec, step rec (y i) = bif p l[i] then out i else rec (y (i + 1))) (h2 : ∀ rec, step rec (y l.length) = fin) (hm : l.length + 1 ≤ fuelOf sh (y 0)) :
    go step (y 0) = match l.findIdx? p with | some k => out k | none => fin := by
  cases hf : l.findIdx? p with
  | none =>
    rw [List.findIdx?_eq_none_iff] at hf
    refine go_seq (y := y) (n := l.length) (fun i hi rec => ?_) h2 hm
    rw [h1 i hi, hf _ (List.getElem_mem hi)]; rfl
  | some k =>
    rw [List.findIdx?_eq_some_iff_getElem] at hf
    obtain ⟨hk, hp, hlt⟩ := hf
    refine go_seq (y := y) (n := k) (fun i hi rec => ?_) (fun rec => ?_) (by omega)
    · rw [h1 i (by omega)]
      have := hlt i hi
      simp only [Bool.not_eq_true] at this
      rw [this]; rfl
    · rw [h1 k hk, hp]; rfl
def foldi {σ α : Type} (f : Nat → σ → α → σ) : Nat → σ → List α → σ
  | _, s, [] => s
  | k, s, x :: l => foldi f (k + 1) (f k s x) l
theorem go_foldi {sh : Shape} {σ α β : Type} {step : (sh.den → Option β) → sh.den → Option β} {l : List α} (y : Nat → σ → sh.den) (f : Nat → σ → α → σ) (Inv : Nat → σ → Prop) {s0 : σ} {fin : σ → Option β} (h0 : Inv 0 s0)
    (h1 : ∀ i s (h : i < l.length), Inv i s → Inv (i + 1) (f i s l[i]) ∧ ∀ rec, step rec (y i s) = rec (y (i + 1) (f i s l[i]))) (h2 : ∀ s, Inv l.length s → ∀ rec, step rec (y l.length s) = fin s) (hm : l.length + 1 ≤ fuelOf sh (y 0 s0)) :
    go step (y 0 s0) = fin (foldi f 0 s0 l) ∧ Inv l.length (foldi f 0 s0 l) := by
  have key : ∀ (l' : List α) (i : Nat) (s : σ) (m : Nat), l.drop i = l' → i + l'.length = l.length → Inv i s → l'.length + 1 ≤ m → iter step m (y i s) = fin (foldi f i s l') ∧ Inv l.length (foldi f i s l') := by
    intro l'
    induction l' with
    | nil =>
      intro i s m hd hi hI hm
      obtain ⟨m, rfl⟩ : ∃ k, m = k + 1 := ⟨m - 1, by simp at hm; omega⟩
      have : i = l.length := by simpa using hi
      subst this
      exact ⟨by rw [iter, h2 s hI]; rfl, hI⟩
    | cons x l' ih =>
      intro i s m hd hi hI hm
      obtain ⟨m, rfl⟩ : ∃ k, m = k + 1 := ⟨m - 1, by simp at hm; omega⟩
      have hlt : i < l.length := by simp at hi; omega
      have hx : l[i] = x := by
        rw [List.drop_eq_getElem_cons hlt] at hd
        exact (List.cons.inj hd).1
      obtain ⟨hI', hs⟩ := h1 i s hlt hI
      rw [hx] at hI' hs
      have hd' : l.drop (i + 1) = l' := by
        rw [List.drop_eq_getElem_cons hlt] at hd
        exact (List.cons.inj hd).2
      rw [iter, hs]
      exact ih (i + 1) _ m hd' (by simp at hi; omega) hI' (by simp at hm; omega)
  exact key l 0 s0 _ rfl (by simp) h0 hm
end Go.Pe
end
