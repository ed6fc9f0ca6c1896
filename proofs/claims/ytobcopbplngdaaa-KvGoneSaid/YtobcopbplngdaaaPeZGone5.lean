/- Texts of the proof, what is used of them: GK, GKq, GKqA, GKqB, GKqC, Tac. -/
import Derived.Test.YtobcopbplngdaaaProg
import Derived.Test.YtobcopbplngdaaaPeZGone4
section
namespace Go.Pe.Try
open Go.Proofs Go.RowKit
set_option maxRecDepth 100000
noncomputable section
theorem mixed : Try.prog.follows .mixedOrders = true := by kernel_rfl
@[reducible] noncomputable def f22_c : Code := codeOf Try.f22
@[reducible] noncomputable def h22_E : Env := envOf Try.prog 9999 [rowOf true repeat_ok] [⟨51, _, repsH_ok⟩]
theorem h22_E_okE : EnvOk Try.prog h22_E := envOf_ok _ _ _ mixed
@[reducible] noncomputable def h22_p0_sh : Shape := ⟨[.hole (.int .i64), .dead, .ptr 0 0, .dead, .dead, .dead, .dead, .dead, .dead, .dead, .dead, .dead, .dead, .dead, .dead, .dead, .dead, .dead], [some [.nilS, .nilS]], []⟩
@[reducible] noncomputable def h22_p0_o0 : Shape := ⟨[.hole (.int .i64), .dead, .ptr 0 0, .dead, .dead, .dead, .dead, .dead, .dead, .dead, .hole .bool, .dead, .dead, .dead, .dead, .dead, .dead, .dead], [some [.nilS, .nilS]], []⟩
@[reducible] noncomputable def h22_p0_outs : List (Ex × Shape) := [(.normal, h22_p0_o0)]
@[reducible] noncomputable def h22_p0_a : Ann Try.prog 0 true (f22_c.cr.cl.cl) := (.leaf _)
noncomputable def h22_p0_F (y : h22_p0_sh.den) : Option (OutDen h22_p0_outs) := evA h22_E h22_p0_a (fill h22_p0_sh y) (packOut h22_p0_outs)
theorem h22_p0_ok : PieceSound Try.prog 0 true (f22_c.cr.cl.cl) h22_p0_sh h22_p0_outs h22_p0_F := piece_of (h22_E_okE) h22_p0_a rfl rfl fun _ => rfl
@[reducible] noncomputable def h22_I : Shape := ⟨[.hole (.int .i64)], [], []⟩
@[reducible] noncomputable def h22_O : Shape := ⟨[.agg [.whole 0, .nilS], .hole (.int .i64)], [], [some .str]⟩
@[reducible] noncomputable def h22_a : Ann Try.prog 0 true f22_c := (.seq (.leaf _) (.seq (.seq (.piece _ _ _ h22_p0_ok) (.leaf _)) (.leaf _)))
noncomputable def h22_F (y : h22_I.den) : Option h22_O.den := evFunH h22_E Try.f22 h22_a h22_I h22_O y
theorem h22_ok : SoundH Try.prog 22 ⟨h22_I, h22_O, h22_F⟩ := sound_ofH (I := h22_I) (O := h22_O) (c := f22_c) (h22_E_okE) (by kernel_rfl) (by kernel_rfl) (by kernel_rfl) h22_a rfl rfl (fun _ => rfl)
@[reducible] noncomputable def f52_c : Code := codeOf Try.f52
@[reducible] noncomputable def f52_E : Env := envOf Try.prog 9999 [] []
theorem f52_E_okE : EnvOk Try.prog f52_E := envOf_ok _ _ _ mixed
@[reducible] noncomputable def f52_p0_sh : Shape := ⟨[.hole (.int .u64), .hole (.int .i64), .dead, .dead, .dead, .dead, .whole 0, .dead, .dead, .dead, .dead, .dead, .dead, .dead, .dead, .dead, .dead, .dead, .dead, .dead, .dead, .dead, .dead, .dead, .dead, .dead, .dead, .dead, .hole (.int .i64), .hole (.int .i64), .dead, .dead, .dead, .dead, .dead, .dead, .dead, .dead, .dead, .dead, .dead, .dead, .dead, .dead, .dead, .dead], [], [some (.int .u8)]⟩
@[reducible] noncomputable def f52_p0_o0 : Shape := ⟨[.dead, .dead, .dead, .dead, .dead, .dead, .whole 0, .dead, .dead, .dead, .dead, .dead, .dead, .dead, .dead, .dead, .dead, .dead, .dead, .dead, .dead, .dead, .dead, .dead, .dead, .dead, .dead, .dead, .dead, .dead, .dead, .dead, .dead, .dead, .dead, .dead, .dead, .dead, .dead, .dead, .dead, .dead, .dead, .dead, .dead, .dead], [], [some (.int .u8)]⟩
@[reducible] noncomputable def f52_p0_outs : List (Ex × Shape) := [(.exit 0, f52_p0_o0)]
@[reducible] noncomputable def f52_p0_a : Ann Try.prog 0 true (f52_c.cr.cr.cr.cl.cr.cb.cb) := (.leaf _)
noncomputable def f52_p0_st (rec : f52_p0_sh.den → Option (OutDen f52_p0_outs)) (y : f52_p0_sh.den) : Option (OutDen f52_p0_outs) := evA f52_E f52_p0_a (fill f52_p0_sh y) fun ex st => match ex with | .normal => (abs f52_p0_sh st).bind rec | e => packOut f52_p0_outs e st
theorem f52_p0_ok : PieceSound Try.prog 0 true (.loop (f52_c.cr.cr.cr.cl.cr.cb.cb)) f52_p0_sh f52_p0_outs (go f52_p0_st) := go_of (f52_E_okE) f52_p0_a rfl rfl fun _ _ => rfl
@[reducible] noncomputable def f52_p1_sh : Shape := ⟨[.hole (.int .u64), .hole (.int .i64), .dead, .dead, .dead, .dead, .dead, .dead, .dead, .dead, .dead, .dead, .dead, .dead, .dead, .dead, .dead, .dead, .dead, .dead, .dead, .dead, .dead, .dead, .dead, .dead, .dead, .dead, .dead, .dead, .dead, .dead, .dead, .dead, .dead, .dead, .dead, .dead, .dead, .dead, .dead, .dead, .dead, .dead, .dead, .dead], [], []⟩
@[reducible] noncomputable def f52_p1_o0 : Shape := ⟨[.hole (.int .u64), .hole (.int .i64), .dead, .dead, .dead, .dead, .dead, .dead, .dead, .dead, .dead, .dead, .dead, .dead, .dead, .dead, .dead, .dead, .dead, .dead, .dead, .dead, .dead, .dead, .hole .bool, .dead, .dead, .dead, .dead, .dead, .dead, .dead, .dead, .dead, .dead, .dead, .dead, .dead, .dead, .dead, .dead, .dead, .dead, .dead, .dead, .dead], [], []⟩
@[reducible] noncomputable def f52_p1_outs : List (Ex × Shape) := [(.normal, f52_p1_o0)]
@[reducible] noncomputable def f52_p1_a : Ann Try.prog 0 true (f52_c.cr.cl.cl) := (.leaf _)
noncomputable def f52_p1_F (y : f52_p1_sh.den) : Option (OutDen f52_p1_outs) := evA f52_E f52_p1_a (fill f52_p1_sh y) (packOut f52_p1_outs)
theorem f52_p1_ok : PieceSound Try.prog 0 true (f52_c.cr.cl.cl) f52_p1_sh f52_p1_outs f52_p1_F := piece_of (f52_E_okE) f52_p1_a rfl rfl fun _ => rfl
@[reducible] noncomputable def f52_ps : List KD := [.one (.int .u64), .one (.int .i64)]
@[reducible] noncomputable def f52_rs : List KD := [.one .str, .one (.int .i64)]
@[reducible] noncomputable def f52_a : Ann Try.prog 0 true f52_c := (.seq (.leaf _) (.seq (.seq (.piece _ _ _ f52_p1_ok) (.leaf _)) (.seq (.leaf _) (.seq (.seq (.leaf _) (.block (.piece _ _ _ f52_p0_ok))) (.leaf _)))))
noncomputable def f52_F (y : argsDen f52_ps) : Option (argsDen f52_rs) := evFunA f52_E Try.f52 f52_a (encArgs f52_ps y) (decRes f52_rs)
theorem f52_ok : Sound Try.prog 52 (pfun f52_F) := sound_of (c := f52_c) (f52_E_okE) (by kernel_rfl) (by kernel_rfl) (by kernel_rfl) f52_a (fun _ => rfl)
@[reducible] noncomputable def f38_c : Code := codeOf Try.f38
@[reducible] noncomputable def h38_E : Env := envOf Try.prog 9999 [] []
theorem h38_E_okE : EnvOk Try.prog h38_E := envOf_ok _ _ _ mixed
@[reducible] noncomputable def h38_I : Shape := ⟨[.ptr 0 0], [some [.bld 0, .nilS]], []⟩
@[reducible] noncomputable def h38_O : Shape := ⟨[.hole (.int .i64)], [some [.bld 0, .nilS]], []⟩
@[reducible] noncomputable def h38_a : Ann Try.prog 1 true f38_c := (.leaf _)
noncomputable def h38_F (y : h38_I.den) : Option h38_O.den := evFunH h38_E Try.f38 h38_a h38_I h38_O y
theorem h38_ok : SoundH Try.prog 38 ⟨h38_I, h38_O, h38_F⟩ := sound_ofH (I := h38_I) (O := h38_O) (c := f38_c) (h38_E_okE) (by kernel_rfl) (by kernel_rfl) (by kernel_rfl) h38_a rfl rfl (fun _ => rfl)
@[reducible] noncomputable def f37_c : Code := codeOf Try.f37
@[reducible] noncomputable def h37_E : Env := envOf Try.prog 9999 [] [⟨71, _, copy_ok⟩]
theorem h37_E_okE : EnvOk Try.prog h37_E := envOf_ok _ _ _ mixed
@[reducible] noncomputable def h37_I : Shape := ⟨[.ptr 0 0, .hole .str], [some [.bld 0, .nilS]], []⟩
@[reducible] noncomputable def h37_O : Shape := ⟨[.hole (.int .i64), .dead], [some [.bld 0, .whole 0]], [some (.int .u8)]⟩
@[reducible] noncomputable def h37_a : Ann Try.prog 1 true f37_c := (.leaf _)
noncomputable def h37_F (y : h37_I.den) : Option h37_O.den := evFunH h37_E Try.f37 h37_a h37_I h37_O y
theorem h37_ok : SoundH Try.prog 37 ⟨h37_I, h37_O, h37_F⟩ := sound_ofH (I := h37_I) (O := h37_O) (c := f37_c) (h37_E_okE) (by kernel_rfl) (by kernel_rfl) (by kernel_rfl) h37_a rfl rfl (fun _ => rfl)
@[reducible] noncomputable def h37a_E : Env := envOf Try.prog 9999 [] [⟨71, _, copy_ok⟩]
theorem h37a_E_okE : EnvOk Try.prog h37a_E := envOf_ok _ _ _ mixed
@[reducible] noncomputable def h37a_I : Shape := ⟨[.ptr 0 0, .hole .str], [some [.bld 0, .whole 0]], [some (.int .u8)]⟩
@[reducible] noncomputable def h37a_O : Shape := ⟨[.hole (.int .i64), .dead], [some [.bld 0, .whole 0]], [some (.int .u8)]⟩
@[reducible] noncomputable def h37a_a : Ann Try.prog 65 true f37_c := (.leaf _)
noncomputable def h37a_F (y : h37a_I.den) : Option h37a_O.den := evFunH h37a_E Try.f37 h37a_a h37a_I h37a_O y
theorem h37a_ok : SoundH Try.prog 37 ⟨h37a_I, h37a_O, h37a_F⟩ := sound_ofH (I := h37a_I) (O := h37a_O) (c := f37_c) (h37a_E_okE) (by kernel_rfl) (by kernel_rfl) (by kernel_rfl) h37a_a rfl rfl (fun _ => rfl)
@[reducible] noncomputable def h38a_E : Env := envOf Try.prog 9999 [] []
theorem h38a_E_okE : EnvOk Try.prog h38a_E := envOf_ok _ _ _ mixed
@[reducible] noncomputable def h38a_I : Shape := ⟨[.ptr 0 0], [some [.bld 0, .whole 0]], [some (.int .u8)]⟩
@[reducible] noncomputable def h38a_O : Shape := ⟨[.hole (.int .i64)], [some [.bld 0, .whole 0]], [some (.int .u8)]⟩
@[reducible] noncomputable def h38a_a : Ann Try.prog 65 true f38_c := (.leaf _)
noncomputable def h38a_F (y : h38a_I.den) : Option h38a_O.den := evFunH h38a_E Try.f38 h38a_a h38a_I h38a_O y
theorem h38a_ok : SoundH Try.prog 38 ⟨h38a_I, h38a_O, h38a_F⟩ := sound_ofH (I := h38a_I) (O := h38a_O) (c := f38_c) (h38a_E_okE) (by kernel_rfl) (by kernel_rfl) (by kernel_rfl) h38a_a rfl rfl (fun _ => rfl)
@[reducible] noncomputable def f42_c : Code := codeOf Try.f42
@[reducible] noncomputable def f42_E : Env := envOf Try.prog 9999 [rowOf true f52_ok] [⟨38, _, h38_ok⟩, ⟨37, _, h37_ok⟩, ⟨37, _, h37a_ok⟩, ⟨38, _, h38a_ok⟩, ⟨39, _, str_ok⟩]
theorem f42_E_okE : EnvOk Try.prog f42_E := envOf_ok _ _ _ mixed
@[reducible] noncomputable def f42_p0_sh : Shape := ⟨[.dead, .dead, .dead, .dead, .ptr 0 0, .dead, .hole .str, .dead, .dead, .dead, .dead, .dead, .hole (.list .str), .hole (.int .i64), .hole (.int .i64), .dead, .dead, .dead, .dead, .dead, .dead, .dead, .dead, .dead, .dead, .dead, .dead, .dead, .dead, .dead, .dead, .dead, .dead, .dead, .dead, .dead, .dead, .dead, .dead, .dead, .dead, .dead], [some [.bld 0, .whole 0]], [some (.int .u8)]⟩
@[reducible] noncomputable def f42_p0_o0 : Shape := ⟨[.dead, .dead, .dead, .dead, .ptr 0 0, .dead, .hole .str, .dead, .dead, .dead, .dead, .dead, .hole (.list .str), .hole (.int .i64), .hole (.int .i64), .dead, .dead, .dead, .dead, .dead, .dead, .dead, .dead, .dead, .dead, .dead, .dead, .dead, .hole .bool, .dead, .dead, .dead, .dead, .dead, .dead, .dead, .dead, .dead, .dead, .dead, .dead, .dead], [some [.bld 0, .whole 0]], [some (.int .u8)]⟩
@[reducible] noncomputable def f42_p0_outs : List (Ex × Shape) := [(.normal, f42_p0_o0)]
@[reducible] noncomputable def f42_p0_a : Ann Try.prog 0 true (f42_c.cr.cr.cr.cl.cr.cb.cb.cr.cr.cl.cb.cr.cl.cl) := (.leaf _)
noncomputable def f42_p0_F (y : f42_p0_sh.den) : Option (OutDen f42_p0_outs) := evA f42_E f42_p0_a (fill f42_p0_sh y) (packOut f42_p0_outs)
theorem f42_p0_ok : PieceSound Try.prog 0 true (f42_c.cr.cr.cr.cl.cr.cb.cb.cr.cr.cl.cb.cr.cl.cl) f42_p0_sh f42_p0_outs f42_p0_F := piece_of (f42_E_okE) f42_p0_a rfl rfl fun _ => rfl
@[reducible] noncomputable def f42_p1_sh : Shape := ⟨[.dead, .dead, .dead, .dead, .ptr 0 0, .dead, .dead, .dead, .dead, .dead, .dead, .dead, .hole (.list .str), .hole (.int .i64), .hole (.int .i64), .dead, .dead, .dead, .dead, .dead, .dead, .dead, .dead, .dead, .dead, .dead, .dead, .dead, .dead, .dead, .dead, .dead, .dead, .dead, .dead, .dead, .dead, .dead, .dead, .dead, .dead, .dead], [some [.bld 0, .whole 0]], [some (.int .u8)]⟩
@[reducible] noncomputable def f42_p1_o0 : Shape := ⟨[.dead, .dead, .dead, .dead, .ptr 0 0, .dead, .dead, .dead, .dead, .dead, .dead, .dead, .dead, .dead, .dead, .dead, .dead, .dead, .dead, .dead, .dead, .dead, .dead, .dead, .dead, .dead, .dead, .dead, .dead, .dead, .dead, .dead, .dead, .dead, .dead, .dead, .dead, .dead, .dead, .dead, .dead, .dead], [some [.bld 0, .whole 0]], [some (.int .u8)]⟩
@[reducible] noncomputable def f42_p1_o1 : Shape := ⟨[.dead, .dead, .hole .str, .hole (.int .i64), .dead, .dead, .dead, .dead, .dead, .dead, .dead, .dead, .dead, .dead, .dead, .dead, .dead, .dead, .dead, .dead, .dead, .dead, .dead, .dead, .dead, .dead, .dead, .dead, .dead, .dead, .dead, .dead, .dead, .dead, .dead, .dead, .dead, .dead, .dead, .dead, .dead, .dead], [], []⟩
@[reducible] noncomputable def f42_p1_outs : List (Ex × Shape) := [(.exit 0, f42_p1_o0), (.ret, f42_p1_o1)]
@[reducible] noncomputable def f42_p1_a : Ann Try.prog 0 true (f42_c.cr.cr.cr.cl.cr.cb.cb) := (.seq (.leaf _) (.seq (.leaf _) (.seq (.block (.seq (.leaf _) (.seq (.seq (.piece _ _ _ f42_p0_ok) (.leaf _)) (.leaf _)))) (.leaf _))))
noncomputable def f42_p1_st (rec : f42_p1_sh.den → Option (OutDen f42_p1_outs)) (y : f42_p1_sh.den) : Option (OutDen f42_p1_outs) := evA f42_E f42_p1_a (fill f42_p1_sh y) fun ex st => match ex with | .normal => (abs f42_p1_sh st).bind rec | e => packOut f42_p1_outs e st
theorem f42_p1_ok : PieceSound Try.prog 0 true (.loop (f42_c.cr.cr.cr.cl.cr.cb.cb)) f42_p1_sh f42_p1_outs (go f42_p1_st) := go_of (f42_E_okE) f42_p1_a rfl rfl fun _ _ => rfl
@[reducible] noncomputable def f42_ps : List KD := [.one (.list .str)]
@[reducible] noncomputable def f42_rs : List KD := [.one .str, .one (.int .i64)]
@[reducible] noncomputable def f42_a : Ann Try.prog 0 true f42_c := (.seq (.leaf _) (.seq (.leaf _) (.seq (.leaf _) (.seq (.seq (.leaf _) (.block (.piece _ _ _ f42_p1_ok))) (.leaf _)))))
noncomputable def f42_F (y : argsDen f42_ps) : Option (argsDen f42_rs) := evFunA f42_E Try.f42 f42_a (encArgs f42_ps y) (decRes f42_rs)
theorem f42_ok : Sound Try.prog 42 (pfun f42_F) := sound_of (c := f42_c) (f42_E_okE) (by kernel_rfl) (by kernel_rfl) (by kernel_rfl) f42_a (fun _ => rfl)
@[reducible] noncomputable def f23_c : Code := codeOf Try.f23
@[reducible] noncomputable def f23_E : Env := envOf Try.prog 9999 [rowOf true f52_ok, rowOf true f42_ok, rowOf true repeat_ok] []
theorem f23_E_okE : EnvOk Try.prog f23_E := envOf_ok _ _ _ mixed
@[reducible] noncomputable def f23_ps : List KD := [.one (.int .i64), .one (.int .i64)]
@[reducible] noncomputable def f23_rs : List KD := [.one .str]
@[reducible] noncomputable def f23_a : Ann Try.prog 0 true f23_c := (.leaf _)
noncomputable def f23_F (y : argsDen f23_ps) : Option (argsDen f23_rs) := evFunA f23_E Try.f23 f23_a (encArgs f23_ps y) (decRes f23_rs)
theorem f23_ok : Sound Try.prog 23 (pfun f23_F) := sound_of (c := f23_c) (f23_E_okE) (by kernel_rfl) (by kernel_rfl) (by kernel_rfl) f23_a (fun _ => rfl)
@[reducible] noncomputable def f54_c : Code := codeOf Try.f54
@[reducible] noncomputable def f54_E : Env := envOf Try.prog 9999 [] []
theorem f54_E_okE : EnvOk Try.prog f54_E := envOf_ok _ _ _ mixed
@[reducible] noncomputable def f54_ps : List KD := [.one .str]
@[reducible] noncomputable def f54_rs : List KD := [.one .bool]
@[reducible] noncomputable def f54_a : Ann Try.prog 0 true f54_c := (.leaf _)
noncomputable def f54_F (y : argsDen f54_ps) : Option (argsDen f54_rs) := evFunA f54_E Try.f54 f54_a (encArgs f54_ps y) (decRes f54_rs)
theorem f54_ok : Sound Try.prog 54 (pfun f54_F) := sound_of (c := f54_c) (f54_E_okE) (by kernel_rfl) (by kernel_rfl) (by kernel_rfl) f54_a (fun _ => rfl)
@[reducible] noncomputable def f74_c : Code := codeOf Try.f74
@[reducible] noncomputable def h74_E : Env := envOf Try.prog 9999 [rowOf true f54_ok] []
theorem h74_E_okE : EnvOk Try.prog h74_E := envOf_ok _ _ _ mixed
@[reducible] noncomputable def h74_p0_sh : Shape := ⟨[.hole (.list .str), .fn (.func 54) [] [], .dead, .dead, .dead, .dead, .dead, .hole (.int .i64), .hole (.int .i64), .dead, .dead, .dead, .dead, .dead, .dead, .dead, .dead, .dead, .dead], [], []⟩
@[reducible] noncomputable def h74_p0_o0 : Shape := ⟨[.dead, .dead, .dead, .dead, .dead, .dead, .dead, .dead, .dead, .dead, .dead, .dead, .dead, .dead, .dead, .dead, .dead, .dead, .dead], [], []⟩
@[reducible] noncomputable def h74_p0_o1 : Shape := ⟨[.dead, .dead, .dead, .dead, .hole (.int .i64), .dead, .dead, .dead, .dead, .dead, .dead, .dead, .dead, .dead, .dead, .dead, .dead, .dead, .dead], [], []⟩
@[reducible] noncomputable def h74_p0_outs : List (Ex × Shape) := [(.exit 0, h74_p0_o0), (.ret, h74_p0_o1)]
@[reducible] noncomputable def h74_p0_a : Ann Try.prog 0 true (f74_c.cr.cl.cr.cb.cb) := (.leaf _)
noncomputable def h74_p0_st (rec : h74_p0_sh.den → Option (OutDen h74_p0_outs)) (y : h74_p0_sh.den) : Option (OutDen h74_p0_outs) := evA h74_E h74_p0_a (fill h74_p0_sh y) fun ex st => match ex with | .normal => (abs h74_p0_sh st).bind rec | e => packOut h74_p0_outs e st
theorem h74_p0_ok : PieceSound Try.prog 0 true (.loop (f74_c.cr.cl.cr.cb.cb)) h74_p0_sh h74_p0_outs (go h74_p0_st) := go_of (h74_E_okE) h74_p0_a rfl rfl fun _ _ => rfl
@[reducible] noncomputable def h74_I : Shape := ⟨[.hole (.list .str), .fn (.func 54) [] []], [], []⟩
@[reducible] noncomputable def h74_O : Shape := ⟨[.hole (.int .i64)], [], []⟩
@[reducible] noncomputable def h74_a : Ann Try.prog 0 true f74_c := (.seq (.leaf _) (.seq (.seq (.leaf _) (.block (.piece _ _ _ h74_p0_ok))) (.leaf _)))
noncomputable def h74_F (y : h74_I.den) : Option h74_O.den := evFunH h74_E Try.f74 h74_a h74_I h74_O y
theorem h74_ok : SoundH Try.prog 74 ⟨h74_I, h74_O, h74_F⟩ := sound_ofH (I := h74_I) (O := h74_O) (c := f74_c) (h74_E_okE) (by kernel_rfl) (by kernel_rfl) (by kernel_rfl) h74_a rfl rfl (fun _ => rfl)
@[reducible] noncomputable def f56_c : Code := codeOf Try.f56
@[reducible] noncomputable def h56_E : Env := envOf Try.prog 9999 [] [⟨74, _, h74_ok⟩]
theorem h56_E_okE : EnvOk Try.prog h56_E := envOf_ok _ _ _ mixed
@[reducible] noncomputable def h56_I : Shape := ⟨[.hole (.list .str), .fn (.func 54) [] []], [], []⟩
@[reducible] noncomputable def h56_O : Shape := ⟨[.hole .bool], [], []⟩
@[reducible] noncomputable def h56_a : Ann Try.prog 0 true f56_c := (.leaf _)
noncomputable def h56_F (y : h56_I.den) : Option h56_O.den := evFunH h56_E Try.f56 h56_a h56_I h56_O y
theorem h56_ok : SoundH Try.prog 56 ⟨h56_I, h56_O, h56_F⟩ := sound_ofH (I := h56_I) (O := h56_O) (c := f56_c) (h56_E_okE) (by kernel_rfl) (by kernel_rfl) (by kernel_rfl) h56_a rfl rfl (fun _ => rfl)
@[reducible] noncomputable def f55_c : Code := codeOf Try.f55
@[reducible] noncomputable def h55_E : Env := envOf Try.prog 9999 [rowOf true f54_ok] []
theorem h55_E_okE : EnvOk Try.prog h55_E := envOf_ok _ _ _ mixed
@[reducible] noncomputable def h55_I : Shape := ⟨[.agg [.hole (.int .i64), .hole .str], .ptr 0 0, .ptr 1 0], [some [.hole (.int .i64)], some [.fn (.func 54) [] []]], []⟩
@[reducible] noncomputable def h55_O : Shape := ⟨[.hole .bool], [some [.hole (.int .i64)], some [.fn (.func 54) [] []]], []⟩
@[reducible] noncomputable def h55_a : Ann Try.prog 2 true f55_c := (.leaf _)
noncomputable def h55_F (y : h55_I.den) : Option h55_O.den := evFunH h55_E Try.f55 h55_a h55_I h55_O y
theorem h55_ok : SoundH Try.prog 55 ⟨h55_I, h55_O, h55_F⟩ := sound_ofH (I := h55_I) (O := h55_O) (c := f55_c) (h55_E_okE) (by kernel_rfl) (by kernel_rfl) (by kernel_rfl) h55_a rfl rfl (fun _ => rfl)
@[reducible] noncomputable def f75_c : Code := codeOf Try.f75
@[reducible] noncomputable def h75_E : Env := envOf Try.prog 9999 [] [⟨55, _, h55_ok⟩]
theorem h75_E_okE : EnvOk Try.prog h75_E := envOf_ok _ _ _ mixed
@[reducible] noncomputable def h75_p0_sh : Shape := ⟨[.hole (.list (.prod (.int .i64) .str)), .fn (.func 55) [] [.ptr 0 0, .ptr 1 0], .dead, .dead, .dead, .dead, .dead, .hole (.int .i64), .hole (.int .i64), .dead, .dead, .dead, .dead, .dead, .dead, .dead, .dead, .dead, .dead], [some [.hole (.int .i64)], some [.fn (.func 54) [] []]], []⟩
@[reducible] noncomputable def h75_p0_o0 : Shape := ⟨[.dead, .dead, .dead, .dead, .dead, .dead, .dead, .dead, .dead, .dead, .dead, .dead, .dead, .dead, .dead, .dead, .dead, .dead, .dead], [some [.hole (.int .i64)], some [.fn (.func 54) [] []]], []⟩
@[reducible] noncomputable def h75_p0_o1 : Shape := ⟨[.dead, .dead, .dead, .dead, .hole (.int .i64), .dead, .dead, .dead, .dead, .dead, .dead, .dead, .dead, .dead, .dead, .dead, .dead, .dead, .dead], [some [.hole (.int .i64)], some [.fn (.func 54) [] []]], []⟩
@[reducible] noncomputable def h75_p0_outs : List (Ex × Shape) := [(.exit 0, h75_p0_o0), (.ret, h75_p0_o1)]
@[reducible] noncomputable def h75_p0_a : Ann Try.prog 2 true (f75_c.cr.cl.cr.cb.cb) := (.leaf _)
noncomputable def h75_p0_st (rec : h75_p0_sh.den → Option (OutDen h75_p0_outs)) (y : h75_p0_sh.den) : Option (OutDen h75_p0_outs) := evA h75_E h75_p0_a (fill h75_p0_sh y) fun ex st => match ex with | .normal => (abs h75_p0_sh st).bind rec | e => packOut h75_p0_outs e st
theorem h75_p0_ok : PieceSound Try.prog 2 true (.loop (f75_c.cr.cl.cr.cb.cb)) h75_p0_sh h75_p0_outs (go h75_p0_st) := go_of (h75_E_okE) h75_p0_a rfl rfl fun _ _ => rfl
@[reducible] noncomputable def h75_I : Shape := ⟨[.hole (.list (.prod (.int .i64) .str)), .fn (.func 55) [] [.ptr 0 0, .ptr 1 0]], [some [.hole (.int .i64)], some [.fn (.func 54) [] []]], []⟩
@[reducible] noncomputable def h75_O : Shape := ⟨[.hole (.int .i64)], [some [.hole (.int .i64)], some [.fn (.func 54) [] []]], []⟩
@[reducible] noncomputable def h75_a : Ann Try.prog 2 true f75_c := (.seq (.leaf _) (.seq (.seq (.leaf _) (.block (.piece _ _ _ h75_p0_ok))) (.leaf _)))
noncomputable def h75_F (y : h75_I.den) : Option h75_O.den := evFunH h75_E Try.f75 h75_a h75_I h75_O y
theorem h75_ok : SoundH Try.prog 75 ⟨h75_I, h75_O, h75_F⟩ := sound_ofH (I := h75_I) (O := h75_O) (c := f75_c) (h75_E_okE) (by kernel_rfl) (by kernel_rfl) (by kernel_rfl) h75_a rfl rfl (fun _ => rfl)
@[reducible] noncomputable def f57_c : Code := codeOf Try.f57
@[reducible] noncomputable def h57_E : Env := envOf Try.prog 9999 [] [⟨75, _, h75_ok⟩]
theorem h57_E_okE : EnvOk Try.prog h57_E := envOf_ok _ _ _ mixed
@[reducible] noncomputable def h57_I : Shape := ⟨[.hole (.list (.prod (.int .i64) .str)), .fn (.func 55) [] [.ptr 0 0, .ptr 1 0]], [some [.hole (.int .i64)], some [.fn (.func 54) [] []]], []⟩
@[reducible] noncomputable def h57_O : Shape := ⟨[.hole .bool], [some [.hole (.int .i64)], some [.fn (.func 54) [] []]], []⟩
@[reducible] noncomputable def h57_a : Ann Try.prog 2 true f57_c := (.leaf _)
noncomputable def h57_F (y : h57_I.den) : Option h57_O.den := evFunH h57_E Try.f57 h57_a h57_I h57_O y
theorem h57_ok : SoundH Try.prog 57 ⟨h57_I, h57_O, h57_F⟩ := sound_ofH (I := h57_I) (O := h57_O) (c := f57_c) (h57_E_okE) (by kernel_rfl) (by kernel_rfl) (by kernel_rfl) h57_a rfl rfl (fun _ => rfl)
@[reducible] noncomputable def f25_c : Code := codeOf Try.f25
@[reducible] noncomputable def f25_E : Env := envOf Try.prog 9999 [] [⟨56, _, h56_ok⟩, ⟨57, _, h57_ok⟩]
theorem f25_E_okE : EnvOk Try.prog f25_E := envOf_ok _ _ _ mixed
@[reducible] noncomputable def f25_p0_sh : Shape := ⟨[.dead, .ptr 0 0, .dead, .ptr 1 0, .dead, .dead, .dead, .dead, .dead, .dead, .dead, .dead, .dead, .dead, .dead, .dead, .dead, .dead, .dead, .dead, .dead, .dead, .dead, .dead, .dead, .dead, .dead, .dead, .dead, .dead, .dead, .dead, .dead, .dead], [some [.hole (.list .str), .hole (.list (.prod (.int .i64) .str))], some [.hole (.int .i64)]], []⟩
@[reducible] noncomputable def f25_p0_o0 : Shape := ⟨[.dead, .ptr 0 0, .dead, .ptr 1 0, .dead, .dead, .dead, .dead, .dead, .dead, .dead, .dead, .dead, .dead, .dead, .dead, .dead, .dead, .dead, .dead, .hole .bool, .dead, .dead, .dead, .dead, .dead, .dead, .dead, .dead, .dead, .dead, .dead, .dead, .dead], [some [.hole (.list .str), .hole (.list (.prod (.int .i64) .str))], some [.hole (.int .i64)]], []⟩
@[reducible] noncomputable def f25_p0_outs : List (Ex × Shape) := [(.normal, f25_p0_o0)]
@[reducible] noncomputable def f25_p0_a : Ann Try.prog 0 true (f25_c.cr.cr.cl.cl) := (.leaf _)
noncomputable def f25_p0_F (y : f25_p0_sh.den) : Option (OutDen f25_p0_outs) := evA f25_E f25_p0_a (fill f25_p0_sh y) (packOut f25_p0_outs)
theorem f25_p0_ok : PieceSound Try.prog 0 true (f25_c.cr.cr.cl.cl) f25_p0_sh f25_p0_outs f25_p0_F := piece_of (f25_E_okE) f25_p0_a rfl rfl fun _ => rfl
@[reducible] noncomputable def f25_ps : List KD := [.agg [(.list .str), (.list (.prod (.int .i64) .str))]]
@[reducible] noncomputable def f25_rs : List KD := [.one .bool]
@[reducible] noncomputable def f25_a : Ann Try.prog 0 true f25_c := (.seq (.leaf _) (.seq (.leaf _) (.seq (.seq (.piece _ _ _ f25_p0_ok) (.leaf _)) (.leaf _))))
noncomputable def f25_F (y : argsDen f25_ps) : Option (argsDen f25_rs) := evFunA f25_E Try.f25 f25_a (encArgs f25_ps y) (decRes f25_rs)
theorem f25_ok : Sound Try.prog 25 (pfun f25_F) := sound_of (c := f25_c) (f25_E_okE) (by kernel_rfl) (by kernel_rfl) (by kernel_rfl) f25_a (fun _ => rfl)
@[reducible] noncomputable def f27_c : Code := codeOf Try.f27
@[reducible] noncomputable def f27_E : Env := envOf Try.prog 9999 [] []
theorem f27_E_okE : EnvOk Try.prog f27_E := envOf_ok _ _ _ mixed
@[reducible] noncomputable def f27_ps : List KD := [.agg [(.list .str), (.list (.prod (.int .i64) .str))], .one (.int .i64)]
@[reducible] noncomputable def f27_rs : List KD := [.one (.int .i64), .one (.list .str)]
@[reducible] noncomputable def f27_a : Ann Try.prog 0 true f27_c := (.leaf _)
noncomputable def f27_F (y : argsDen f27_ps) : Option (argsDen f27_rs) := evFunA f27_E Try.f27 f27_a (encArgs f27_ps y) (decRes f27_rs)
theorem f27_ok : Sound Try.prog 27 (pfun f27_F) := sound_of (c := f27_c) (f27_E_okE) (by kernel_rfl) (by kernel_rfl) (by kernel_rfl) f27_a (fun _ => rfl)
@[reducible] noncomputable def f59_c : Code := codeOf Try.f59
@[reducible] noncomputable def f59_E : Env := envOf Try.prog 9999 [] []
theorem f59_E_okE : EnvOk Try.prog f59_E := envOf_ok _ _ _ mixed
@[reducible] noncomputable def f59_p0_sh : Shape := ⟨[.hole .str, .dead, .dead, .dead, .hole (.int .u64), .dead, .dead, .dead, .dead, .dead, .hole (.int .i64), .hole (.int .i64), .dead, .dead, .dead, .dead, .dead, .dead, .dead, .dead, .dead, .dead, .dead], [], []⟩
@[reducible] noncomputable def f59_p0_o0 : Shape := ⟨[.dead, .dead, .dead, .dead, .hole (.int .u64), .dead, .dead, .dead, .dead, .dead, .dead, .dead, .dead, .dead, .dead, .dead, .dead, .dead, .dead, .dead, .dead, .dead, .dead], [], []⟩
@[reducible] noncomputable def f59_p0_outs : List (Ex × Shape) := [(.exit 0, f59_p0_o0)]
@[reducible] noncomputable def f59_p0_a : Ann Try.prog 0 true (f59_c.cr.cr.cr.cl.cr.cb.cb) := (.leaf _)
noncomputable def f59_p0_st (rec : f59_p0_sh.den → Option (OutDen f59_p0_outs)) (y : f59_p0_sh.den) : Option (OutDen f59_p0_outs) := evA f59_E f59_p0_a (fill f59_p0_sh y) fun ex st => match ex with | .normal => (abs f59_p0_sh st).bind rec | e => packOut f59_p0_outs e st
theorem f59_p0_ok : PieceSound Try.prog 0 true (.loop (f59_c.cr.cr.cr.cl.cr.cb.cb)) f59_p0_sh f59_p0_outs (go f59_p0_st) := go_of (f59_E_okE) f59_p0_a rfl rfl fun _ _ => rfl
@[reducible] noncomputable def f59_ps : List KD := [.one .str]
@[reducible] noncomputable def f59_rs : List KD := [.one (.int .u64), .one (.int .i64)]
@[reducible] noncomputable def f59_a : Ann Try.prog 0 true f59_c := (.seq (.leaf _) (.seq (.leaf _) (.seq (.leaf _) (.seq (.seq (.leaf _) (.block (.piece _ _ _ f59_p0_ok))) (.leaf _)))))
noncomputable def f59_F (y : argsDen f59_ps) : Option (argsDen f59_rs) := evFunA f59_E Try.f59 f59_a (encArgs f59_ps y) (decRes f59_rs)
theorem f59_ok : Sound Try.prog 59 (pfun f59_F) := sound_of (c := f59_c) (f59_E_okE) (by kernel_rfl) (by kernel_rfl) (by kernel_rfl) f59_a (fun _ => rfl)
@[reducible] noncomputable def f58_c : Code := codeOf Try.f58
@[reducible] noncomputable def f58_E : Env := envOf Try.prog 9999 [rowOf true f59_ok] []
theorem f58_E_okE : EnvOk Try.prog f58_E := envOf_ok _ _ _ mixed
@[reducible] noncomputable def f58_p0_sh : Shape := ⟨[.hole .str, .dead, .dead, .dead, .whole 0, .dead, .dead, .dead, .dead, .dead, .dead, .dead, .dead, .dead, .dead, .dead, .dead, .dead, .dead, .dead, .dead, .dead, .dead, .dead, .dead, .dead, .dead, .dead, .dead, .dead, .dead, .dead, .dead, .dead, .dead, .dead, .dead, .dead, .dead, .dead, .dead, .dead, .dead], [], [some .str]⟩
@[reducible] noncomputable def f58_p0_o0 : Shape := ⟨[.dead, .dead, .dead, .dead, .whole 0, .dead, .dead, .dead, .dead, .dead, .dead, .dead, .dead, .dead, .dead, .dead, .dead, .dead, .dead, .dead, .dead, .dead, .dead, .dead, .dead, .dead, .dead, .dead, .dead, .dead, .dead, .dead, .dead, .dead, .dead, .dead, .dead, .dead, .dead, .dead, .dead, .dead, .dead], [], [some .str]⟩
@[reducible] noncomputable def f58_p0_o1 : Shape := ⟨[.dead, .dead, .nilS, .hole (.int .i64), .dead, .dead, .dead, .dead, .dead, .dead, .dead, .dead, .dead, .dead, .dead, .dead, .dead, .dead, .dead, .dead, .dead, .dead, .dead, .dead, .dead, .dead, .dead, .dead, .dead, .dead, .dead, .dead, .dead, .dead, .dead, .dead, .dead, .dead, .dead, .dead, .dead, .dead, .dead], [], []⟩
@[reducible] noncomputable def f58_p0_outs : List (Ex × Shape) := [(.exit 0, f58_p0_o0), (.ret, f58_p0_o1)]
@[reducible] noncomputable def f58_p0_a : Ann Try.prog 0 true (f58_c.cr.cr.cr.cl.cb.cb) := (.leaf _)
noncomputable def f58_p0_st (rec : f58_p0_sh.den → Option (OutDen f58_p0_outs)) (y : f58_p0_sh.den) : Option (OutDen f58_p0_outs) := evA f58_E f58_p0_a (fill f58_p0_sh y) fun ex st => match ex with | .normal => (abs f58_p0_sh st).bind rec | e => packOut f58_p0_outs e st
theorem f58_p0_ok : PieceSound Try.prog 0 true (.loop (f58_c.cr.cr.cr.cl.cb.cb)) f58_p0_sh f58_p0_outs (go f58_p0_st) := go_of (f58_E_okE) f58_p0_a rfl rfl fun _ _ => rfl
@[reducible] noncomputable def f58_ps : List KD := [.one .str]
@[reducible] noncomputable def f58_rs : List KD := [.one (.list .str), .one (.int .i64)]
@[reducible] noncomputable def f58_a : Ann Try.prog 0 true f58_c := (.seq (.leaf _) (.seq (.leaf _) (.seq (.leaf _) (.seq (.block (.piece _ _ _ f58_p0_ok)) (.leaf _)))))
noncomputable def f58_F (y : argsDen f58_ps) : Option (argsDen f58_rs) := evFunA f58_E Try.f58 f58_a (encArgs f58_ps y) (decRes f58_rs)
theorem f58_ok : Sound Try.prog 58 (pfun f58_F) := sound_of (c := f58_c) (f58_E_okE) (by kernel_rfl) (by kernel_rfl) (by kernel_rfl) f58_a (fun _ => rfl)
@[reducible] noncomputable def f26_c : Code := codeOf Try.f26
@[reducible] noncomputable def f26_E : Env := envOf Try.prog 9999 [rowOf false f27_ok, rowOf false f58_ok, rowOf true f59_ok, rowOf true f23_ok] []
theorem f26_E_okE : EnvOk Try.prog f26_E := envOf_ok _ _ _ mixed
@[reducible] noncomputable def f26_p0_sh : Shape := ⟨[.dead, .dead, .dead, .dead, .dead, .dead, .dead, .hole (.list .str), .hole .str, .dead, .dead, .dead, .hole (.int .u64), .dead, .hole (.int .u64), .dead, .dead, .dead, .dead, .dead, .dead, .dead, .dead, .dead, .dead, .dead, .dead, .dead, .dead, .dead, .dead, .dead, .dead, .dead, .dead, .dead, .dead, .dead, .dead, .dead, .dead, .dead, .dead, .dead, .dead, .dead, .dead, .dead, .dead, .dead, .dead, .dead, .dead, .dead, .dead, .dead, .dead, .dead, .dead, .dead, .dead, .dead, .dead, .dead, .dead, .dead, .dead, .dead, .dead, .dead, .dead, .dead, .dead, .dead, .dead, .dead, .dead, .dead], [none], []⟩
@[reducible] noncomputable def f26_p0_o0 : Shape := ⟨[.dead, .dead, .dead, .dead, .dead, .dead, .dead, .dead, .dead, .dead, .dead, .dead, .hole (.int .u64), .dead, .hole (.int .u64), .dead, .dead, .dead, .dead, .dead, .dead, .dead, .dead, .dead, .dead, .dead, .dead, .dead, .dead, .dead, .dead, .dead, .dead, .dead, .dead, .dead, .dead, .dead, .dead, .dead, .dead, .dead, .dead, .dead, .dead, .dead, .dead, .dead, .dead, .dead, .dead, .dead, .dead, .dead, .dead, .dead, .dead, .dead, .dead, .dead, .dead, .dead, .dead, .dead, .dead, .dead, .dead, .dead, .dead, .dead, .dead, .dead, .dead, .hole .bool, .dead, .dead, .dead, .dead], [], []⟩
@[reducible] noncomputable def f26_p0_outs : List (Ex × Shape) := [(.normal, f26_p0_o0)]
@[reducible] noncomputable def f26_p0_a : Ann Try.prog 0 true (f26_c.cr.cr.cr.cr.cr.cr.cr.cr.cl.cl) := (.leaf _)
noncomputable def f26_p0_F (y : f26_p0_sh.den) : Option (OutDen f26_p0_outs) := evA f26_E f26_p0_a (fill f26_p0_sh y) (packOut f26_p0_outs)
theorem f26_p0_ok : PieceSound Try.prog 0 true (f26_c.cr.cr.cr.cr.cr.cr.cr.cr.cl.cl) f26_p0_sh f26_p0_outs f26_p0_F := piece_of (f26_E_okE) f26_p0_a rfl rfl fun _ => rfl
@[reducible] noncomputable def f26_p1_sh : Shape := ⟨[.dead, .dead, .dead, .dead, .dead, .dead, .dead, .hole (.list .str), .hole .str, .dead, .hole (.list .str), .dead, .hole (.int .u64), .dead, .dead, .dead, .dead, .dead, .dead, .dead, .dead, .dead, .dead, .dead, .dead, .dead, .dead, .dead, .dead, .dead, .dead, .dead, .dead, .dead, .dead, .dead, .dead, .dead, .dead, .dead, .dead, .dead, .dead, .dead, .dead, .dead, .dead, .dead, .dead, .dead, .dead, .dead, .dead, .dead, .dead, .dead, .dead, .dead, .dead, .dead, .dead, .dead, .dead, .dead, .dead, .dead, .dead, .dead, .dead, .dead, .dead, .dead, .dead, .dead, .dead, .dead, .dead, .dead], [none], []⟩
@[reducible] noncomputable def f26_p1_o0 : Shape := ⟨[.dead, .dead, .dead, .dead, .hole (.int .i64), .hole (.int .i64), .dead, .dead, .dead, .dead, .dead, .dead, .dead, .dead, .dead, .dead, .dead, .dead, .dead, .dead, .dead, .dead, .dead, .dead, .dead, .dead, .dead, .dead, .dead, .dead, .dead, .dead, .dead, .dead, .dead, .dead, .dead, .dead, .dead, .dead, .dead, .dead, .dead, .dead, .dead, .dead, .dead, .dead, .dead, .dead, .dead, .dead, .dead, .dead, .dead, .dead, .dead, .dead, .dead, .dead, .dead, .dead, .dead, .dead, .dead, .dead, .dead, .dead, .dead, .dead, .dead, .dead, .dead, .dead, .dead, .dead, .dead, .dead], [], []⟩
@[reducible] noncomputable def f26_p1_outs : List (Ex × Shape) := [(.ret, f26_p1_o0)]
@[reducible] noncomputable def f26_p1_a : Ann Try.prog 0 true (f26_c.cr.cr.cr.cr.cr.cr.cr) := (.seq (.leaf _) (.seq (.seq (.piece _ _ _ f26_p0_ok) (.leaf _)) (.leaf _)))
noncomputable def f26_p1_F (y : f26_p1_sh.den) : Option (OutDen f26_p1_outs) := evA f26_E f26_p1_a (fill f26_p1_sh y) (packOut f26_p1_outs)
theorem f26_p1_ok : PieceSound Try.prog 0 true (f26_c.cr.cr.cr.cr.cr.cr.cr) f26_p1_sh f26_p1_outs f26_p1_F := piece_of (f26_E_okE) f26_p1_a rfl rfl fun _ => rfl
@[reducible] noncomputable def f26_ps : List KD := [.agg [(.list .str), (.list (.prod (.int .i64) .str))], .one (.int .i64)]
@[reducible] noncomputable def f26_rs : List KD := [.one (.int .i64), .one (.int .i64)]
@[reducible] noncomputable def f26_a : Ann Try.prog 0 true f26_c := (.seq (.leaf _) (.seq (.leaf _) (.seq (.leaf _) (.seq (.leaf _) (.seq (.leaf _) (.seq (.leaf _) (.seq (.leaf _) (.piece _ _ _ f26_p1_ok))))))))
noncomputable def f26_F (y : argsDen f26_ps) : Option (argsDen f26_rs) := evFunA f26_E Try.f26 f26_a (encArgs f26_ps y) (decRes f26_rs)
theorem f26_ok : Sound Try.prog 26 (pfun f26_F) := sound_of (c := f26_c) (f26_E_okE) (by kernel_rfl) (by kernel_rfl) (by kernel_rfl) f26_a (fun _ => rfl)
@[reducible] noncomputable def f76_c : Code := codeOf Try.f76
@[reducible] noncomputable def f76_E : Env := envOf Try.prog 9999 [] []
theorem f76_E_okE : EnvOk Try.prog f76_E := envOf_ok _ _ _ mixed
@[reducible] noncomputable def f76_ps : List KD := [.one .str]
@[reducible] noncomputable def f76_rs : List KD := [.one .bool]
@[reducible] noncomputable def f76_a : Ann Try.prog 0 true f76_c := (.leaf _)
noncomputable def f76_F (y : argsDen f76_ps) : Option (argsDen f76_rs) := evFunA f76_E Try.f76 f76_a (encArgs f76_ps y) (decRes f76_rs)
theorem f76_ok : Sound Try.prog 76 (pfun f76_F) := sound_of (c := f76_c) (f76_E_okE) (by kernel_rfl) (by kernel_rfl) (by kernel_rfl) f76_a (fun _ => rfl)
@[reducible] noncomputable def h74a_E : Env := envOf Try.prog 9999 [rowOf true f76_ok] []
theorem h74a_E_okE : EnvOk Try.prog h74a_E := envOf_ok _ _ _ mixed
@[reducible] noncomputable def h74a_p0_sh : Shape := ⟨[.hole (.list .str), .fn (.func 76) [] [], .dead, .dead, .dead, .dead, .dead, .hole (.int .i64), .hole (.int .i64), .dead, .dead, .dead, .dead, .dead, .dead, .dead, .dead, .dead, .dead], [], []⟩
@[reducible] noncomputable def h74a_p0_o0 : Shape := ⟨[.dead, .dead, .dead, .dead, .dead, .dead, .dead, .dead, .dead, .dead, .dead, .dead, .dead, .dead, .dead, .dead, .dead, .dead, .dead], [], []⟩
@[reducible] noncomputable def h74a_p0_o1 : Shape := ⟨[.dead, .dead, .dead, .dead, .hole (.int .i64), .dead, .dead, .dead, .dead, .dead, .dead, .dead, .dead, .dead, .dead, .dead, .dead, .dead, .dead], [], []⟩
@[reducible] noncomputable def h74a_p0_outs : List (Ex × Shape) := [(.exit 0, h74a_p0_o0), (.ret, h74a_p0_o1)]
@[reducible] noncomputable def h74a_p0_a : Ann Try.prog 0 true (f74_c.cr.cl.cr.cb.cb) := (.leaf _)
noncomputable def h74a_p0_st (rec : h74a_p0_sh.den → Option (OutDen h74a_p0_outs)) (y : h74a_p0_sh.den) : Option (OutDen h74a_p0_outs) := evA h74a_E h74a_p0_a (fill h74a_p0_sh y) fun ex st => match ex with | .normal => (abs h74a_p0_sh st).bind rec | e => packOut h74a_p0_outs e st
theorem h74a_p0_ok : PieceSound Try.prog 0 true (.loop (f74_c.cr.cl.cr.cb.cb)) h74a_p0_sh h74a_p0_outs (go h74a_p0_st) := go_of (h74a_E_okE) h74a_p0_a rfl rfl fun _ _ => rfl
@[reducible] noncomputable def h74a_I : Shape := ⟨[.hole (.list .str), .fn (.func 76) [] []], [], []⟩
@[reducible] noncomputable def h74a_O : Shape := ⟨[.hole (.int .i64)], [], []⟩
@[reducible] noncomputable def h74a_a : Ann Try.prog 0 true f74_c := (.seq (.leaf _) (.seq (.seq (.leaf _) (.block (.piece _ _ _ h74a_p0_ok))) (.leaf _)))
noncomputable def h74a_F (y : h74a_I.den) : Option h74a_O.den := evFunH h74a_E Try.f74 h74a_a h74a_I h74a_O y
theorem h74a_ok : SoundH Try.prog 74 ⟨h74a_I, h74a_O, h74a_F⟩ := sound_ofH (I := h74a_I) (O := h74a_O) (c := f74_c) (h74a_E_okE) (by kernel_rfl) (by kernel_rfl) (by kernel_rfl) h74a_a rfl rfl (fun _ => rfl)
@[reducible] noncomputable def h56a_E : Env := envOf Try.prog 9999 [] [⟨74, _, h74a_ok⟩]
theorem h56a_E_okE : EnvOk Try.prog h56a_E := envOf_ok _ _ _ mixed
@[reducible] noncomputable def h56a_I : Shape := ⟨[.hole (.list .str), .fn (.func 76) [] []], [], []⟩
@[reducible] noncomputable def h56a_O : Shape := ⟨[.hole .bool], [], []⟩
@[reducible] noncomputable def h56a_a : Ann Try.prog 0 true f56_c := (.leaf _)
noncomputable def h56a_F (y : h56a_I.den) : Option h56a_O.den := evFunH h56a_E Try.f56 h56a_a h56a_I h56a_O y
theorem h56a_ok : SoundH Try.prog 56 ⟨h56a_I, h56a_O, h56a_F⟩ := sound_ofH (I := h56a_I) (O := h56a_O) (c := f56_c) (h56a_E_okE) (by kernel_rfl) (by kernel_rfl) (by kernel_rfl) h56a_a rfl rfl (fun _ => rfl)
@[reducible] noncomputable def f60_c : Code := codeOf Try.f60
@[reducible] noncomputable def f60_E : Env := envOf Try.prog 9999 [] [⟨56, _, h56a_ok⟩]
theorem f60_E_okE : EnvOk Try.prog f60_E := envOf_ok _ _ _ mixed
@[reducible] noncomputable def f60_ps : List KD := [.agg [(.list .str), (.int .i64)]]
@[reducible] noncomputable def f60_rs : List KD := [.one .bool]
@[reducible] noncomputable def f60_a : Ann Try.prog 0 true f60_c := (.leaf _)
noncomputable def f60_F (y : argsDen f60_ps) : Option (argsDen f60_rs) := evFunA f60_E Try.f60 f60_a (encArgs f60_ps y) (decRes f60_rs)
theorem f60_ok : Sound Try.prog 60 (pfun f60_F) := sound_of (c := f60_c) (f60_E_okE) (by kernel_rfl) (by kernel_rfl) (by kernel_rfl) f60_a (fun _ => rfl)
@[reducible] noncomputable def f61_c : Code := codeOf Try.f61
@[reducible] noncomputable def f61_E : Env := envOf Try.prog 9999 [rowOf true join_ok] []
theorem f61_E_okE : EnvOk Try.prog f61_E := envOf_ok _ _ _ mixed
@[reducible] noncomputable def f61_ps : List KD := [.agg [(.list .str)]]
@[reducible] noncomputable def f61_rs : List KD := [.one .str]
@[reducible] noncomputable def f61_a : Ann Try.prog 0 true f61_c := (.leaf _)
noncomputable def f61_F (y : argsDen f61_ps) : Option (argsDen f61_rs) := evFunA f61_E Try.f61 f61_a (encArgs f61_ps y) (decRes f61_rs)
theorem f61_ok : Sound Try.prog 61 (pfun f61_F) := sound_of (c := f61_c) (f61_E_okE) (by kernel_rfl) (by kernel_rfl) (by kernel_rfl) f61_a (fun _ => rfl)
@[reducible] noncomputable def f28_c : Code := codeOf Try.f28
@[reducible] noncomputable def f28_E : Env := envOf Try.prog 9999 [rowOf true f60_ok, rowOf true f61_ok] []
theorem f28_E_okE : EnvOk Try.prog f28_E := envOf_ok _ _ _ mixed
@[reducible] noncomputable def f28_ps : List KD := [.one (.list .str), .one (.int .i64)]
@[reducible] noncomputable def f28_rs : List KD := [.one .str, .one (.int .i64)]
@[reducible] noncomputable def f28_a : Ann Try.prog 0 true f28_c := (.leaf _)
noncomputable def f28_F (y : argsDen f28_ps) : Option (argsDen f28_rs) := evFunA f28_E Try.f28 f28_a (encArgs f28_ps y) (decRes f28_rs)
theorem f28_ok : Sound Try.prog 28 (pfun f28_F) := sound_of (c := f28_c) (f28_E_okE) (by kernel_rfl) (by kernel_rfl) (by kernel_rfl) f28_a (fun _ => rfl)
@[reducible] noncomputable def f62_c : Code := codeOf Try.f62
@[reducible] noncomputable def f62_E : Env := envOf Try.prog 9999 [rowOf true f59_ok] []
theorem f62_E_okE : EnvOk Try.prog f62_E := envOf_ok _ _ _ mixed
@[reducible] noncomputable def f62_p0_sh : Shape := ⟨[.hole .str, .dead, .dead, .dead, .whole 0, .hole (.int .u64), .dead, .dead, .dead, .dead, .dead, .dead, .dead, .dead, .dead, .dead, .dead, .dead, .dead, .dead, .dead, .dead, .dead, .dead, .dead, .dead, .dead, .dead, .dead, .dead, .dead, .dead, .dead, .dead, .dead, .dead, .dead, .dead, .dead], [], [some .str]⟩
@[reducible] noncomputable def f62_p0_o0 : Shape := ⟨[.hole .str, .dead, .dead, .dead, .whole 0, .hole (.int .u64), .dead, .dead, .dead, .dead, .dead, .dead, .dead, .dead, .dead, .dead, .dead, .dead, .dead, .dead, .dead, .dead, .dead, .dead, .dead, .dead, .dead, .dead, .hole .bool, .dead, .dead, .dead, .dead, .dead, .dead, .dead, .dead, .dead, .dead], [], [some .str]⟩
@[reducible] noncomputable def f62_p0_outs : List (Ex × Shape) := [(.normal, f62_p0_o0)]
@[reducible] noncomputable def f62_p0_a : Ann Try.prog 0 true (f62_c.cr.cr.cl.cb.cb.cr.cb.cr.cr.cl.cr.cl) := (.leaf _)
noncomputable def f62_p0_F (y : f62_p0_sh.den) : Option (OutDen f62_p0_outs) := evA f62_E f62_p0_a (fill f62_p0_sh y) (packOut f62_p0_outs)
theorem f62_p0_ok : PieceSound Try.prog 0 true (f62_c.cr.cr.cl.cb.cb.cr.cb.cr.cr.cl.cr.cl) f62_p0_sh f62_p0_outs f62_p0_F := piece_of (f62_E_okE) f62_p0_a rfl rfl fun _ => rfl
@[reducible] noncomputable def f62_p1_sh : Shape := ⟨[.hole .str, .dead, .dead, .dead, .whole 0, .dead, .dead, .dead, .dead, .dead, .dead, .dead, .dead, .dead, .dead, .dead, .dead, .dead, .dead, .dead, .dead, .dead, .dead, .dead, .dead, .dead, .dead, .dead, .dead, .dead, .dead, .dead, .dead, .dead, .dead, .dead, .dead, .dead, .dead], [], [some .str]⟩
@[reducible] noncomputable def f62_p1_o0 : Shape := ⟨[.dead, .dead, .dead, .dead, .whole 0, .dead, .dead, .dead, .dead, .dead, .dead, .dead, .dead, .dead, .dead, .dead, .dead, .dead, .dead, .dead, .dead, .dead, .dead, .dead, .dead, .dead, .dead, .dead, .dead, .dead, .dead, .dead, .dead, .dead, .dead, .dead, .dead, .dead, .dead], [], [some .str]⟩
@[reducible] noncomputable def f62_p1_o1 : Shape := ⟨[.dead, .dead, .nilS, .hole (.int .i64), .dead, .dead, .dead, .dead, .dead, .dead, .dead, .dead, .dead, .dead, .dead, .dead, .dead, .dead, .dead, .dead, .dead, .dead, .dead, .dead, .dead, .dead, .dead, .dead, .dead, .dead, .dead, .dead, .dead, .dead, .dead, .dead, .dead, .dead, .dead], [], []⟩
@[reducible] noncomputable def f62_p1_outs : List (Ex × Shape) := [(.exit 0, f62_p1_o0), (.ret, f62_p1_o1)]
@[reducible] noncomputable def f62_p1_a : Ann Try.prog 0 true (f62_c.cr.cr.cl.cb.cb) := (.seq (.leaf _) (.block (.seq (.leaf _) (.seq (.leaf _) (.seq (.seq (.leaf _) (.seq (.piece _ _ _ f62_p0_ok) (.leaf _))) (.leaf _))))))
noncomputable def f62_p1_st (rec : f62_p1_sh.den → Option (OutDen f62_p1_outs)) (y : f62_p1_sh.den) : Option (OutDen f62_p1_outs) := evA f62_E f62_p1_a (fill f62_p1_sh y) fun ex st => match ex with | .normal => (abs f62_p1_sh st).bind rec | e => packOut f62_p1_outs e st
theorem f62_p1_ok : PieceSound Try.prog 0 true (.loop (f62_c.cr.cr.cl.cb.cb)) f62_p1_sh f62_p1_outs (go f62_p1_st) := go_of (f62_E_okE) f62_p1_a rfl rfl fun _ _ => rfl
@[reducible] noncomputable def f62_ps : List KD := [.one .str]
@[reducible] noncomputable def f62_rs : List KD := [.one (.list .str), .one (.int .i64)]
@[reducible] noncomputable def f62_a : Ann Try.prog 0 true f62_c := (.seq (.leaf _) (.seq (.leaf _) (.seq (.block (.piece _ _ _ f62_p1_ok)) (.leaf _))))
noncomputable def f62_F (y : argsDen f62_ps) : Option (argsDen f62_rs) := evFunA f62_E Try.f62 f62_a (encArgs f62_ps y) (decRes f62_rs)
theorem f62_ok : Sound Try.prog 62 (pfun f62_F) := sound_of (c := f62_c) (f62_E_okE) (by kernel_rfl) (by kernel_rfl) (by kernel_rfl) f62_a (fun _ => rfl)
@[reducible] noncomputable def f41_c : Code := codeOf Try.f41
@[reducible] noncomputable def f41_E : Env := envOf Try.prog 9999 [] []
theorem f41_E_okE : EnvOk Try.prog f41_E := envOf_ok _ _ _ mixed
@[reducible] noncomputable def f41_p0_sh : Shape := ⟨[.hole (.list .str), .dead, .dead, .hole (.int .i64), .dead, .dead, .dead, .dead, .dead, .dead, .dead, .dead, .dead, .dead, .dead, .dead, .dead, .dead, .dead, .dead, .dead, .dead, .dead, .dead, .dead, .dead, .dead, .dead, .dead, .dead, .dead, .dead, .dead, .dead, .dead, .dead, .dead, .dead, .dead, .dead, .dead, .dead, .dead, .dead, .dead, .dead, .dead], [], []⟩
@[reducible] noncomputable def f41_p0_o0 : Shape := ⟨[.hole (.list .str), .dead, .dead, .hole (.int .i64), .dead, .dead, .dead, .dead, .dead, .dead, .dead, .dead, .dead, .dead, .dead, .dead, .dead, .dead, .dead, .dead, .dead, .dead, .dead, .dead, .dead, .dead, .dead, .dead, .dead, .dead, .dead, .dead, .dead, .dead, .dead, .dead, .dead, .dead, .dead, .dead, .dead, .dead, .dead, .dead, .dead, .dead, .hole .bool], [], []⟩
@[reducible] noncomputable def f41_p0_outs : List (Ex × Shape) := [(.normal, f41_p0_o0)]
@[reducible] noncomputable def f41_p0_a : Ann Try.prog 0 true (f41_c.cr.cr.cl.cr.cb.cb.cr.cl.cb.cl) := (.leaf _)
noncomputable def f41_p0_F (y : f41_p0_sh.den) : Option (OutDen f41_p0_outs) := evA f41_E f41_p0_a (fill f41_p0_sh y) (packOut f41_p0_outs)
theorem f41_p0_ok : PieceSound Try.prog 0 true (f41_c.cr.cr.cl.cr.cb.cb.cr.cl.cb.cl) f41_p0_sh f41_p0_outs f41_p0_F := piece_of (f41_E_okE) f41_p0_a rfl rfl fun _ => rfl
@[reducible] noncomputable def f41_p1_sh : Shape := ⟨[.hole (.list .str), .dead, .dead, .hole (.int .i64), .dead, .dead, .dead, .dead, .dead, .dead, .dead, .dead, .dead, .dead, .dead, .dead, .dead, .dead, .dead, .dead, .dead, .dead, .dead, .dead, .dead, .dead, .dead, .dead, .dead, .dead, .dead, .dead, .dead, .dead, .dead, .dead, .dead, .dead, .dead, .dead, .dead, .dead, .dead, .dead, .dead, .dead, .dead], [], []⟩
@[reducible] noncomputable def f41_p1_o0 : Shape := ⟨[.dead, .dead, .dead, .dead, .dead, .dead, .dead, .dead, .dead, .dead, .dead, .dead, .dead, .dead, .dead, .dead, .dead, .dead, .dead, .dead, .dead, .dead, .dead, .dead, .dead, .dead, .dead, .dead, .dead, .dead, .dead, .dead, .dead, .dead, .dead, .dead, .dead, .dead, .dead, .dead, .dead, .dead, .dead, .dead, .dead, .dead, .dead], [], []⟩
@[reducible] noncomputable def f41_p1_o1 : Shape := ⟨[.dead, .dead, .hole .bool, .dead, .dead, .dead, .dead, .dead, .dead, .dead, .dead, .dead, .dead, .dead, .dead, .dead, .dead, .dead, .dead, .dead, .dead, .dead, .dead, .dead, .dead, .dead, .dead, .dead, .dead, .dead, .dead, .dead, .dead, .dead, .dead, .dead, .dead, .dead, .dead, .dead, .dead, .dead, .dead, .dead, .dead, .dead, .dead], [], []⟩
@[reducible] noncomputable def f41_p1_outs : List (Ex × Shape) := [(.exit 0, f41_p1_o0), (.ret, f41_p1_o1)]
@[reducible] noncomputable def f41_p1_a : Ann Try.prog 0 true (f41_c.cr.cr.cl.cr.cb.cb) := (.seq (.leaf _) (.seq (.block (.seq (.piece _ _ _ f41_p0_ok) (.leaf _))) (.leaf _)))
noncomputable def f41_p1_st (rec : f41_p1_sh.den → Option (OutDen f41_p1_outs)) (y : f41_p1_sh.den) : Option (OutDen f41_p1_outs) := evA f41_E f41_p1_a (fill f41_p1_sh y) fun ex st => match ex with | .normal => (abs f41_p1_sh st).bind rec | e => packOut f41_p1_outs e st
theorem f41_p1_ok : PieceSound Try.prog 0 true (.loop (f41_c.cr.cr.cl.cr.cb.cb)) f41_p1_sh f41_p1_outs (go f41_p1_st) := go_of (f41_E_okE) f41_p1_a rfl rfl fun _ _ => rfl
@[reducible] noncomputable def f41_p2_sh : Shape := ⟨[.hole (.list .str), .dead, .dead, .dead, .dead, .dead, .dead, .dead, .dead, .dead, .dead, .dead, .dead, .dead, .dead, .dead, .dead, .dead, .dead, .dead, .dead, .dead, .dead, .dead, .dead, .dead, .dead, .dead, .dead, .dead, .dead, .dead, .dead, .dead, .dead, .dead, .dead, .dead, .dead, .dead, .dead, .dead, .dead, .dead, .dead, .dead, .dead], [], []⟩
@[reducible] noncomputable def f41_p2_o0 : Shape := ⟨[.hole (.list .str), .dead, .dead, .dead, .dead, .dead, .dead, .dead, .dead, .dead, .dead, .dead, .dead, .dead, .dead, .dead, .dead, .hole .bool, .dead, .dead, .dead, .dead, .dead, .dead, .dead, .dead, .dead, .dead, .dead, .dead, .dead, .dead, .dead, .dead, .dead, .dead, .dead, .dead, .dead, .dead, .dead, .dead, .dead, .dead, .dead, .dead, .dead], [], []⟩
@[reducible] noncomputable def f41_p2_outs : List (Ex × Shape) := [(.normal, f41_p2_o0)]
@[reducible] noncomputable def f41_p2_a : Ann Try.prog 0 true (f41_c.cr.cl.cl) := (.leaf _)
noncomputable def f41_p2_F (y : f41_p2_sh.den) : Option (OutDen f41_p2_outs) := evA f41_E f41_p2_a (fill f41_p2_sh y) (packOut f41_p2_outs)
theorem f41_p2_ok : PieceSound Try.prog 0 true (f41_c.cr.cl.cl) f41_p2_sh f41_p2_outs f41_p2_F := piece_of (f41_E_okE) f41_p2_a rfl rfl fun _ => rfl
@[reducible] noncomputable def f41_ps : List KD := [.one (.list .str)]
@[reducible] noncomputable def f41_rs : List KD := [.one .bool]
@[reducible] noncomputable def f41_a : Ann Try.prog 0 true f41_c := (.seq (.leaf _) (.seq (.seq (.piece _ _ _ f41_p2_ok) (.leaf _)) (.seq (.seq (.leaf _) (.block (.piece _ _ _ f41_p1_ok))) (.leaf _))))
noncomputable def f41_F (y : argsDen f41_ps) : Option (argsDen f41_rs) := evFunA f41_E Try.f41 f41_a (encArgs f41_ps y) (decRes f41_rs)
theorem f41_ok : Sound Try.prog 41 (pfun f41_F) := sound_of (c := f41_c) (f41_E_okE) (by kernel_rfl) (by kernel_rfl) (by kernel_rfl) f41_a (fun _ => rfl)
@[reducible] noncomputable def f29_c : Code := codeOf Try.f29
@[reducible] noncomputable def f29_E : Env := envOf Try.prog 9999 [rowOf false f62_ok, rowOf false f58_ok, rowOf true f41_ok] []
theorem f29_E_okE : EnvOk Try.prog f29_E := envOf_ok _ _ _ mixed
@[reducible] noncomputable def f29_p0_sh : Shape := ⟨[.dead, .dead, .dead, .dead, .dead, .hole (.int .i64), .whole 0, .dead, .dead, .hole (.list .str), .hole (.int .i64), .dead, .dead, .dead, .dead, .dead, .hole (.list .str), .hole (.int .i64), .hole (.int .i64), .dead, .dead, .dead, .dead, .dead, .dead, .dead, .dead, .dead, .dead, .dead, .dead, .dead, .dead, .dead, .dead, .dead, .dead, .dead, .dead, .dead, .dead, .dead], [], [some (.list .str)]⟩
@[reducible] noncomputable def f29_p0_o0 : Shape := ⟨[.dead, .dead, .dead, .dead, .dead, .hole (.int .i64), .whole 0, .dead, .dead, .hole (.list .str), .dead, .dead, .dead, .dead, .dead, .dead, .hole (.list .str), .hole (.int .i64), .hole (.int .i64), .dead, .dead, .dead, .dead, .dead, .dead, .dead, .dead, .dead, .dead, .dead, .dead, .dead, .dead, .hole .bool, .dead, .dead, .dead, .dead, .dead, .dead, .dead, .dead], [], [some (.list .str)]⟩
@[reducible] noncomputable def f29_p0_outs : List (Ex × Shape) := [(.normal, f29_p0_o0)]
@[reducible] noncomputable def f29_p0_a : Ann Try.prog 0 true (f29_c.cr.cr.cr.cl.cr.cb.cb.cr.cr.cl.cb.cr.cr.cl.cl) := (.leaf _)
noncomputable def f29_p0_F (y : f29_p0_sh.den) : Option (OutDen f29_p0_outs) := evA f29_E f29_p0_a (fill f29_p0_sh y) (packOut f29_p0_outs)
theorem f29_p0_ok : PieceSound Try.prog 0 true (f29_c.cr.cr.cr.cl.cr.cb.cb.cr.cr.cl.cb.cr.cr.cl.cl) f29_p0_sh f29_p0_outs f29_p0_F := piece_of (f29_E_okE) f29_p0_a rfl rfl fun _ => rfl
@[reducible] noncomputable def f29_p1_sh : Shape := ⟨[.dead, .dead, .dead, .dead, .dead, .hole (.int .i64), .whole 0, .dead, .dead, .dead, .dead, .dead, .dead, .dead, .dead, .dead, .hole (.list .str), .hole (.int .i64), .hole (.int .i64), .dead, .dead, .dead, .dead, .dead, .dead, .dead, .dead, .dead, .dead, .dead, .dead, .dead, .dead, .dead, .dead, .dead, .dead, .dead, .dead, .dead, .dead, .dead], [], [some (.list .str)]⟩
@[reducible] noncomputable def f29_p1_o0 : Shape := ⟨[.dead, .dead, .dead, .dead, .dead, .hole (.int .i64), .whole 0, .dead, .dead, .dead, .dead, .dead, .dead, .dead, .dead, .dead, .dead, .dead, .dead, .dead, .dead, .dead, .dead, .dead, .dead, .dead, .dead, .dead, .dead, .dead, .dead, .dead, .dead, .dead, .dead, .dead, .dead, .dead, .dead, .dead, .dead, .dead], [], [some (.list .str)]⟩
@[reducible] noncomputable def f29_p1_o1 : Shape := ⟨[.dead, .dead, .nilS, .hole .bool, .dead, .dead, .dead, .dead, .dead, .dead, .dead, .dead, .dead, .dead, .dead, .dead, .dead, .dead, .dead, .dead, .dead, .dead, .dead, .dead, .dead, .dead, .dead, .dead, .dead, .dead, .dead, .dead, .dead, .dead, .dead, .dead, .dead, .dead, .dead, .dead, .dead, .dead], [], []⟩
@[reducible] noncomputable def f29_p1_outs : List (Ex × Shape) := [(.exit 0, f29_p1_o0), (.ret, f29_p1_o1)]
@[reducible] noncomputable def f29_p1_a : Ann Try.prog 0 true (f29_c.cr.cr.cr.cl.cr.cb.cb) := (.seq (.leaf _) (.seq (.leaf _) (.seq (.block (.seq (.leaf _) (.seq (.leaf _) (.seq (.seq (.piece _ _ _ f29_p0_ok) (.leaf _)) (.leaf _))))) (.leaf _))))
noncomputable def f29_p1_st (rec : f29_p1_sh.den → Option (OutDen f29_p1_outs)) (y : f29_p1_sh.den) : Option (OutDen f29_p1_outs) := evA f29_E f29_p1_a (fill f29_p1_sh y) fun ex st => match ex with | .normal => (abs f29_p1_sh st).bind rec | e => packOut f29_p1_outs e st
theorem f29_p1_ok : PieceSound Try.prog 0 true (.loop (f29_c.cr.cr.cr.cl.cr.cb.cb)) f29_p1_sh f29_p1_outs (go f29_p1_st) := go_of (f29_E_okE) f29_p1_a rfl rfl fun _ _ => rfl
@[reducible] noncomputable def f29_ps : List KD := [.one .str]
@[reducible] noncomputable def f29_rs : List KD := [.one (.list (.list .str)), .one .bool]
@[reducible] noncomputable def f29_a : Ann Try.prog 0 true f29_c := (.seq (.leaf _) (.seq (.leaf _) (.seq (.leaf _) (.seq (.seq (.leaf _) (.block (.piece _ _ _ f29_p1_ok))) (.leaf _)))))
noncomputable def f29_F (y : argsDen f29_ps) : Option (argsDen f29_rs) := evFunA f29_E Try.f29 f29_a (encArgs f29_ps y) (decRes f29_rs)
theorem f29_ok : Sound Try.prog 29 (pfun f29_F) := sound_of (c := f29_c) (f29_E_okE) (by kernel_rfl) (by kernel_rfl) (by kernel_rfl) f29_a (fun _ => rfl)
@[reducible] noncomputable def f30_c : Code := codeOf Try.f30
@[reducible] noncomputable def h30_E : Env := envOf Try.prog 9999 [] []
theorem h30_E_okE : EnvOk Try.prog h30_E := envOf_ok _ _ _ mixed
@[reducible] noncomputable def h30_p0_sh : Shape := ⟨[.whole 0, .hole (.list .str), .dead, .dead, .hole (.int .i64), .dead, .dead, .dead, .dead, .dead, .dead, .dead, .dead, .dead, .dead, .dead, .dead, .dead, .dead, .dead, .dead, .dead, .dead, .dead, .dead, .dead, .dead, .dead, .dead, .dead, .dead, .dead], [], [some (.prod .unit (.prod .str .str))]⟩
@[reducible] noncomputable def h30_p0_o0 : Shape := ⟨[.whole 0, .hole (.list .str), .dead, .dead, .hole (.int .i64), .dead, .dead, .dead, .dead, .dead, .dead, .dead, .dead, .dead, .dead, .dead, .dead, .dead, .dead, .dead, .dead, .dead, .dead, .dead, .dead, .dead, .dead, .dead, .dead, .dead, .dead, .dead], [], [some (.prod .unit (.prod .str .str))]⟩
@[reducible] noncomputable def h30_p0_outs : List (Ex × Shape) := [(.normal, h30_p0_o0)]
@[reducible] noncomputable def h30_p0_a : Ann Try.prog 64 true (f30_c.cr.cb.cb.cr.cl) := (.leaf _)
noncomputable def h30_p0_F (y : h30_p0_sh.den) : Option (OutDen h30_p0_outs) := evA h30_E h30_p0_a (fill h30_p0_sh y) (packOut h30_p0_outs)
theorem h30_p0_ok : PieceSound Try.prog 64 true (f30_c.cr.cb.cb.cr.cl) h30_p0_sh h30_p0_outs h30_p0_F := piece_of (h30_E_okE) h30_p0_a rfl rfl fun _ => rfl
@[reducible] noncomputable def h30_p1_sh : Shape := ⟨[.whole 0, .hole (.list .str), .dead, .dead, .hole (.int .i64), .dead, .dead, .dead, .dead, .dead, .dead, .dead, .dead, .dead, .dead, .dead, .dead, .dead, .dead, .dead, .dead, .dead, .dead, .dead, .dead, .dead, .dead, .dead, .dead, .dead, .dead, .dead], [], [some (.prod .unit (.prod .str .str))]⟩
@[reducible] noncomputable def h30_p1_o0 : Shape := ⟨[.dead, .dead, .dead, .dead, .dead, .dead, .dead, .dead, .dead, .dead, .dead, .dead, .dead, .dead, .dead, .dead, .dead, .dead, .dead, .dead, .dead, .dead, .dead, .dead, .dead, .dead, .dead, .dead, .dead, .dead, .dead, .dead], [], [some (.prod .unit (.prod .str .str))]⟩
@[reducible] noncomputable def h30_p1_outs : List (Ex × Shape) := [(.exit 0, h30_p1_o0)]
@[reducible] noncomputable def h30_p1_a : Ann Try.prog 64 true (f30_c.cr.cb.cb) := (.seq (.leaf _) (.seq (.piece _ _ _ h30_p0_ok) (.leaf _)))
noncomputable def h30_p1_st (rec : h30_p1_sh.den → Option (OutDen h30_p1_outs)) (y : h30_p1_sh.den) : Option (OutDen h30_p1_outs) := evA h30_E h30_p1_a (fill h30_p1_sh y) fun ex st => match ex with | .normal => (abs h30_p1_sh st).bind rec | e => packOut h30_p1_outs e st
theorem h30_p1_ok : PieceSound Try.prog 64 true (.loop (f30_c.cr.cb.cb)) h30_p1_sh h30_p1_outs (go h30_p1_st) := go_of (h30_E_okE) h30_p1_a rfl rfl fun _ _ => rfl
@[reducible] noncomputable def h30_I : Shape := ⟨[.whole 0, .hole (.list .str)], [], [some (.prod .unit (.prod .str .str))]⟩
@[reducible] noncomputable def h30_O : Shape := ⟨[], [], [some (.prod .unit (.prod .str .str))]⟩
@[reducible] noncomputable def h30_a : Ann Try.prog 64 true f30_c := (.seq (.leaf _) (.block (.piece _ _ _ h30_p1_ok)))
noncomputable def h30_F (y : h30_I.den) : Option h30_O.den := evFunH h30_E Try.f30 h30_a h30_I h30_O y
theorem h30_ok : SoundH Try.prog 30 ⟨h30_I, h30_O, h30_F⟩ := sound_ofH (I := h30_I) (O := h30_O) (c := f30_c) (h30_E_okE) (by kernel_rfl) (by kernel_rfl) (by kernel_rfl) h30_a rfl rfl (fun _ => rfl)
@[reducible] noncomputable def f32_c : Code := codeOf Try.f32
@[reducible] noncomputable def h32_E : Env := envOf Try.prog 9999 [] []
theorem h32_E_okE : EnvOk Try.prog h32_E := envOf_ok _ _ _ mixed
@[reducible] noncomputable def h32_I : Shape := ⟨[.whole 0], [], [some (.prod .unit (.prod .str .str))]⟩
@[reducible] noncomputable def h32_O : Shape := ⟨[.fn (.func 65) [] [.ptr 0 0]], [some [.whole 0]], [some (.prod .unit (.prod .str .str))]⟩
@[reducible] noncomputable def h32_a : Ann Try.prog 64 true f32_c := (.leaf _)
noncomputable def h32_F (y : h32_I.den) : Option h32_O.den := evFunH h32_E Try.f32 h32_a h32_I h32_O y
theorem h32_ok : SoundH Try.prog 32 ⟨h32_I, h32_O, h32_F⟩ := sound_ofH (I := h32_I) (O := h32_O) (c := f32_c) (h32_E_okE) (by kernel_rfl) (by kernel_rfl) (by kernel_rfl) h32_a rfl rfl (fun _ => rfl)
@[reducible] noncomputable def f13_c : Code := codeOf Try.f13
@[reducible] noncomputable def f13_E : Env := envOfE Try.prog 9999 [rowOf true f25_ok, rowOf true f26_ok, rowOf false f27_ok, rowOf true f28_ok, rowOf false f29_ok] [⟨30, _, h30_ok⟩, ⟨32, _, h32_ok⟩] [⟨31, _, sorted_ok⟩]
theorem f13_E_okE : EnvOk Try.prog f13_E := envOfE_ok _ _ _ _ mixed
@[reducible] noncomputable def f13_p0_sh : Shape := ⟨[.dead, .dead, .ptr 1 0, .dead, .ptr 2 0, .dead, .dead, .dead, .dead, .dead, .dead, .dead, .dead, .dead, .whole 0, .dead, .dead, .dead, .dead, .dead, .dead, .dead, .dead, .dead, .dead, .dead, .dead, .dead, .dead, .dead, .dead, .dead, .dead, .dead, .dead, .dead, .dead, .dead, .dead, .dead, .dead, .dead, .dead, .dead, .dead, .dead, .dead, .dead, .dead, .dead, .dead, .dead, .dead, .dead, .dead, .dead, .dead, .dead, .dead, .dead, .dead, .dead, .dead, .dead, .dead, .dead, .dead, .dead, .dead, .dead, .dead, .dead, .dead, .dead, .dead, .dead, .dead, .dead, .dead, .dead, .dead, .dead, .dead, .dead, .dead, .dead, .dead, .dead, .dead, .dead, .dead, .whole 1, .hole (.int .i64), .hole (.int .i64), .dead, .dead, .dead, .dead, .dead, .dead, .dead, .dead, .dead, .dead, .dead, .dead, .dead, .dead, .dead, .dead, .dead, .dead, .dead], [none, some [.nilS, .nilS, .nilS, .nilS, .hole (.int .i64), .hole (.int .i64), .hole (.int .i64)], some [.hole (.list .str), .hole (.list (.prod (.int .i64) .str)), .whole 2, .whole 3, .hole (.int .i64), .hole (.int .i64), .hole (.int .i64)], none], [some (.prod .unit (.prod .str .str)), some .str, some .str, some .str]⟩
@[reducible] noncomputable def f13_p0_o0 : Shape := ⟨[.dead, .dead, .ptr 1 0, .dead, .ptr 2 0, .dead, .dead, .dead, .dead, .dead, .dead, .dead, .dead, .dead, .dead, .dead, .dead, .dead, .dead, .dead, .dead, .dead, .dead, .dead, .dead, .dead, .dead, .dead, .dead, .dead, .dead, .dead, .dead, .dead, .dead, .dead, .dead, .dead, .dead, .dead, .dead, .dead, .dead, .dead, .dead, .dead, .dead, .dead, .dead, .dead, .dead, .dead, .dead, .dead, .dead, .dead, .dead, .dead, .dead, .dead, .dead, .dead, .dead, .dead, .dead, .dead, .dead, .dead, .dead, .dead, .dead, .dead, .dead, .dead, .dead, .dead, .dead, .dead, .dead, .dead, .dead, .dead, .dead, .dead, .dead, .dead, .dead, .dead, .dead, .dead, .dead, .dead, .dead, .dead, .dead, .dead, .dead, .dead, .dead, .dead, .dead, .dead, .dead, .dead, .dead, .dead, .dead, .dead, .dead, .dead, .dead, .dead, .dead], [none, some [.nilS, .nilS, .nilS, .nilS, .hole (.int .i64), .hole (.int .i64), .hole (.int .i64)], some [.hole (.list .str), .hole (.list (.prod (.int .i64) .str)), .whole 2, .whole 3, .hole (.int .i64), .hole (.int .i64), .hole (.int .i64)]], [none, none, some .str, some .str]⟩
@[reducible] noncomputable def f13_p0_outs : List (Ex × Shape) := [(.exit 4, f13_p0_o0)]
@[reducible] noncomputable def f13_p0_a : Ann Try.prog 0 true (f13_c.cr.cr.cr.cr.cr.cr.cr.cr.cr.cr.cl.cr.cb.cb) := (.leaf _)
noncomputable def f13_p0_st (rec : f13_p0_sh.den → Option (OutDen f13_p0_outs)) (y : f13_p0_sh.den) : Option (OutDen f13_p0_outs) := evA f13_E f13_p0_a (fill f13_p0_sh y) fun ex st => match ex with | .normal => (abs f13_p0_sh st).bind rec | e => packOut f13_p0_outs e st
theorem f13_p0_ok : PieceSound Try.prog 0 true (.loop (f13_c.cr.cr.cr.cr.cr.cr.cr.cr.cr.cr.cl.cr.cb.cb)) f13_p0_sh f13_p0_outs (go f13_p0_st) := go_of (f13_E_okE) f13_p0_a rfl rfl fun _ _ => rfl
@[reducible] noncomputable def f13_p1_sh : Shape := ⟨[.dead, .dead, .ptr 1 0, .dead, .ptr 2 0, .dead, .dead, .dead, .dead, .dead, .dead, .dead, .dead, .dead, .whole 0, .dead, .dead, .dead, .dead, .dead, .dead, .dead, .dead, .dead, .dead, .dead, .dead, .dead, .dead, .dead, .dead, .dead, .dead, .dead, .dead, .dead, .dead, .dead, .dead, .dead, .dead, .dead, .dead, .dead, .dead, .dead, .dead, .dead, .dead, .dead, .dead, .dead, .dead, .dead, .dead, .dead, .dead, .dead, .dead, .dead, .dead, .dead, .dead, .dead, .dead, .dead, .dead, .dead, .dead, .dead, .dead, .dead, .dead, .dead, .dead, .dead, .dead, .dead, .dead, .hole (.list (.list .str)), .hole (.int .i64), .hole (.int .i64), .dead, .dead, .dead, .dead, .dead, .dead, .dead, .dead, .dead, .dead, .dead, .dead, .dead, .dead, .dead, .dead, .dead, .dead, .dead, .dead, .dead, .dead, .dead, .dead, .dead, .dead, .dead, .dead, .dead, .dead, .dead], [none, some [.nilS, .nilS, .nilS, .nilS, .hole (.int .i64), .hole (.int .i64), .hole (.int .i64)], some [.hole (.list .str), .hole (.list (.prod (.int .i64) .str)), .nilS, .nilS, .hole (.int .i64), .hole (.int .i64), .hole (.int .i64)]], [some (.prod .unit (.prod .str .str))]⟩
@[reducible] noncomputable def f13_p1_o0 : Shape := ⟨[.dead, .dead, .ptr 1 0, .dead, .ptr 2 0, .dead, .dead, .dead, .dead, .dead, .dead, .dead, .dead, .dead, .whole 0, .dead, .dead, .dead, .dead, .dead, .dead, .dead, .dead, .dead, .dead, .dead, .dead, .dead, .dead, .dead, .dead, .dead, .dead, .dead, .dead, .dead, .dead, .dead, .dead, .dead, .dead, .dead, .dead, .dead, .dead, .dead, .dead, .dead, .dead, .dead, .dead, .dead, .dead, .dead, .dead, .dead, .dead, .dead, .dead, .dead, .dead, .dead, .dead, .dead, .dead, .dead, .dead, .dead, .dead, .dead, .dead, .dead, .dead, .dead, .dead, .dead, .dead, .dead, .dead, .dead, .dead, .dead, .dead, .dead, .dead, .dead, .dead, .dead, .dead, .dead, .dead, .dead, .dead, .dead, .dead, .dead, .dead, .dead, .dead, .dead, .dead, .dead, .dead, .dead, .dead, .dead, .dead, .dead, .dead, .dead, .dead, .dead, .dead], [none, some [.nilS, .nilS, .nilS, .nilS, .hole (.int .i64), .hole (.int .i64), .hole (.int .i64)], some [.hole (.list .str), .hole (.list (.prod (.int .i64) .str)), .nilS, .nilS, .hole (.int .i64), .hole (.int .i64), .hole (.int .i64)]], [some (.prod .unit (.prod .str .str))]⟩
@[reducible] noncomputable def f13_p1_outs : List (Ex × Shape) := [(.exit 2, f13_p1_o0)]
@[reducible] noncomputable def f13_p1_a : Ann Try.prog 0 true (f13_c.cr.cr.cr.cr.cr.cr.cr.cr.cr.cl.cr.cb.cb) := (.leaf _)
noncomputable def f13_p1_st (rec : f13_p1_sh.den → Option (OutDen f13_p1_outs)) (y : f13_p1_sh.den) : Option (OutDen f13_p1_outs) := evA f13_E f13_p1_a (fill f13_p1_sh y) fun ex st => match ex with | .normal => (abs f13_p1_sh st).bind rec | e => packOut f13_p1_outs e st
theorem f13_p1_ok : PieceSound Try.prog 0 true (.loop (f13_c.cr.cr.cr.cr.cr.cr.cr.cr.cr.cl.cr.cb.cb)) f13_p1_sh f13_p1_outs (go f13_p1_st) := go_of (f13_E_okE) f13_p1_a rfl rfl fun _ _ => rfl
@[reducible] noncomputable def f13_p2_sh : Shape := ⟨[.dead, .ptr 0 0, .ptr 1 0, .dead, .ptr 2 0, .dead, .dead, .dead, .dead, .dead, .dead, .dead, .dead, .dead, .dead, .dead, .dead, .dead, .dead, .dead, .dead, .dead, .dead, .dead, .dead, .dead, .dead, .dead, .dead, .dead, .dead, .hole (.int .i64), .dead, .dead, .dead, .dead, .dead, .dead, .dead, .dead, .dead, .dead, .dead, .dead, .dead, .dead, .dead, .dead, .dead, .dead, .dead, .dead, .dead, .dead, .dead, .dead, .dead, .dead, .dead, .dead, .dead, .dead, .dead, .dead, .dead, .dead, .dead, .dead, .dead, .dead, .dead, .dead, .dead, .dead, .dead, .dead, .dead, .dead, .dead, .dead, .dead, .dead, .dead, .dead, .dead, .dead, .dead, .dead, .dead, .dead, .dead, .dead, .dead, .dead, .dead, .dead, .dead, .dead, .dead, .dead, .dead, .dead, .dead, .dead, .dead, .dead, .dead, .dead, .dead, .dead, .dead, .dead, .dead], [some [.hole (.list .str), .hole (.list (.prod (.int .i64) .str))], some [.nilS, .nilS, .nilS, .nilS, .hole (.int .i64), .hole (.int .i64), .hole (.int .i64)], some [.hole (.list .str), .hole (.list (.prod (.int .i64) .str)), .nilS, .nilS, .hole (.int .i64), .hole (.int .i64), .hole (.int .i64)]], []⟩
@[reducible] noncomputable def f13_p2_o0 : Shape := ⟨[.dead, .ptr 0 0, .ptr 1 0, .dead, .ptr 2 0, .dead, .dead, .dead, .dead, .dead, .dead, .dead, .dead, .dead, .dead, .dead, .dead, .dead, .dead, .dead, .dead, .dead, .dead, .dead, .dead, .dead, .dead, .dead, .dead, .dead, .dead, .hole (.int .i64), .dead, .dead, .dead, .dead, .dead, .dead, .dead, .dead, .dead, .dead, .dead, .dead, .dead, .dead, .dead, .dead, .dead, .dead, .dead, .dead, .dead, .dead, .dead, .dead, .dead, .dead, .dead, .dead, .dead, .dead, .dead, .dead, .dead, .dead, .dead, .dead, .dead, .dead, .dead, .dead, .dead, .dead, .dead, .dead, .dead, .dead, .dead, .dead, .dead, .dead, .dead, .dead, .dead, .dead, .dead, .dead, .dead, .dead, .dead, .dead, .dead, .dead, .dead, .dead, .dead, .dead, .dead, .dead, .dead, .dead, .dead, .dead, .dead, .dead, .dead, .dead, .dead, .dead, .dead, .dead, .dead], [some [.hole (.list .str), .hole (.list (.prod (.int .i64) .str))], some [.nilS, .nilS, .nilS, .nilS, .hole (.int .i64), .hole (.int .i64), .hole (.int .i64)], some [.hole (.list .str), .hole (.list (.prod (.int .i64) .str)), .nilS, .nilS, .hole (.int .i64), .hole (.int .i64), .hole (.int .i64)]], []⟩
@[reducible] noncomputable def f13_p2_outs : List (Ex × Shape) := [(.normal, f13_p2_o0)]
@[reducible] noncomputable def f13_p2_a : Ann Try.prog 0 true (f13_c.cr.cr.cr.cl.cr.cb.cb.cr.cr.cl) := (.leaf _)
noncomputable def f13_p2_F (y : f13_p2_sh.den) : Option (OutDen f13_p2_outs) := evA f13_E f13_p2_a (fill f13_p2_sh y) (packOut f13_p2_outs)
theorem f13_p2_ok : PieceSound Try.prog 0 true (f13_c.cr.cr.cr.cl.cr.cb.cb.cr.cr.cl) f13_p2_sh f13_p2_outs f13_p2_F := piece_of (f13_E_okE) f13_p2_a rfl rfl fun _ => rfl
@[reducible] noncomputable def f13_p3_sh : Shape := ⟨[.dead, .dead, .ptr 1 0, .dead, .ptr 2 0, .dead, .dead, .dead, .dead, .dead, .dead, .dead, .hole (.list (.list .str)), .hole .bool, .dead, .dead, .dead, .dead, .dead, .dead, .dead, .dead, .dead, .dead, .dead, .dead, .dead, .dead, .dead, .dead, .dead, .dead, .dead, .dead, .dead, .dead, .dead, .dead, .dead, .dead, .dead, .dead, .dead, .dead, .dead, .dead, .dead, .dead, .dead, .dead, .dead, .dead, .dead, .dead, .dead, .dead, .dead, .dead, .dead, .dead, .dead, .dead, .dead, .dead, .dead, .dead, .dead, .dead, .dead, .dead, .dead, .dead, .dead, .dead, .dead, .dead, .dead, .dead, .dead, .dead, .dead, .dead, .dead, .dead, .dead, .dead, .dead, .dead, .dead, .dead, .dead, .dead, .dead, .dead, .dead, .dead, .dead, .dead, .dead, .dead, .dead, .dead, .dead, .dead, .dead, .dead, .dead, .dead, .dead, .dead, .dead, .dead, .dead], [none, some [.nilS, .nilS, .nilS, .nilS, .hole (.int .i64), .hole (.int .i64), .hole (.int .i64)], some [.hole (.list .str), .hole (.list (.prod (.int .i64) .str)), .nilS, .nilS, .hole (.int .i64), .hole (.int .i64), .hole (.int .i64)]], []⟩
@[reducible] noncomputable def f13_p3_o0 : Shape := ⟨[.dead, .dead, .ptr 1 0, .dead, .ptr 2 0, .dead, .dead, .dead, .dead, .dead, .dead, .dead, .hole (.list (.list .str)), .dead, .dead, .dead, .dead, .dead, .dead, .dead, .dead, .dead, .dead, .dead, .dead, .dead, .dead, .dead, .dead, .dead, .dead, .dead, .dead, .dead, .dead, .dead, .dead, .dead, .dead, .dead, .dead, .dead, .dead, .dead, .dead, .dead, .dead, .dead, .dead, .dead, .dead, .dead, .dead, .dead, .dead, .dead, .dead, .dead, .dead, .dead, .dead, .dead, .dead, .dead, .dead, .dead, .dead, .dead, .dead, .dead, .dead, .dead, .dead, .dead, .dead, .dead, .hole .bool, .dead, .dead, .dead, .dead, .dead, .dead, .dead, .dead, .dead, .dead, .dead, .dead, .dead, .dead, .dead, .dead, .dead, .dead, .dead, .dead, .dead, .dead, .dead, .dead, .dead, .dead, .dead, .dead, .dead, .dead, .dead, .dead, .dead, .dead, .dead, .dead], [none, some [.nilS, .nilS, .nilS, .nilS, .hole (.int .i64), .hole (.int .i64), .hole (.int .i64)], some [.hole (.list .str), .hole (.list (.prod (.int .i64) .str)), .nilS, .nilS, .hole (.int .i64), .hole (.int .i64), .hole (.int .i64)]], []⟩
@[reducible] noncomputable def f13_p3_outs : List (Ex × Shape) := [(.normal, f13_p3_o0)]
@[reducible] noncomputable def f13_p3_a : Ann Try.prog 0 true (f13_c.cr.cr.cr.cr.cr.cr.cr.cl.cl) := (.leaf _)
noncomputable def f13_p3_F (y : f13_p3_sh.den) : Option (OutDen f13_p3_outs) := evA f13_E f13_p3_a (fill f13_p3_sh y) (packOut f13_p3_outs)
theorem f13_p3_ok : PieceSound Try.prog 0 true (f13_c.cr.cr.cr.cr.cr.cr.cr.cl.cl) f13_p3_sh f13_p3_outs f13_p3_F := piece_of (f13_E_okE) f13_p3_a rfl rfl fun _ => rfl
@[reducible] noncomputable def f13_p4_sh : Shape := ⟨[.dead, .ptr 0 0, .ptr 1 0, .dead, .ptr 2 0, .dead, .dead, .dead, .dead, .dead, .dead, .dead, .dead, .dead, .dead, .dead, .dead, .dead, .dead, .dead, .dead, .dead, .dead, .dead, .dead, .dead, .dead, .dead, .dead, .dead, .dead, .hole (.int .i64), .dead, .dead, .dead, .dead, .dead, .dead, .dead, .dead, .dead, .dead, .dead, .dead, .dead, .dead, .dead, .dead, .dead, .dead, .dead, .dead, .dead, .dead, .dead, .dead, .dead, .dead, .dead, .dead, .dead, .dead, .dead, .dead, .dead, .dead, .dead, .dead, .dead, .dead, .dead, .dead, .dead, .dead, .dead, .dead, .dead, .dead, .dead, .dead, .dead, .dead, .dead, .dead, .dead, .dead, .dead, .dead, .dead, .dead, .dead, .dead, .dead, .dead, .dead, .dead, .dead, .dead, .dead, .dead, .dead, .dead, .dead, .dead, .dead, .dead, .dead, .dead, .dead, .dead, .dead, .dead, .dead], [some [.hole (.list .str), .hole (.list (.prod (.int .i64) .str))], some [.nilS, .nilS, .nilS, .nilS, .hole (.int .i64), .hole (.int .i64), .hole (.int .i64)], some [.hole (.list .str), .hole (.list (.prod (.int .i64) .str)), .nilS, .nilS, .hole (.int .i64), .hole (.int .i64), .hole (.int .i64)]], []⟩
@[reducible] noncomputable def f13_p4_o0 : Shape := ⟨[.dead, .ptr 0 0, .ptr 1 0, .dead, .ptr 2 0, .dead, .dead, .dead, .dead, .dead, .dead, .dead, .dead, .dead, .dead, .dead, .dead, .dead, .dead, .dead, .dead, .dead, .dead, .dead, .dead, .dead, .dead, .dead, .dead, .dead, .dead, .dead, .dead, .dead, .dead, .dead, .dead, .dead, .dead, .dead, .dead, .dead, .dead, .dead, .dead, .dead, .dead, .dead, .dead, .dead, .dead, .dead, .dead, .dead, .dead, .dead, .dead, .dead, .dead, .dead, .dead, .dead, .dead, .dead, .dead, .dead, .dead, .dead, .dead, .dead, .dead, .dead, .dead, .dead, .dead, .dead, .dead, .dead, .dead, .dead, .dead, .dead, .dead, .dead, .dead, .dead, .dead, .dead, .dead, .dead, .dead, .dead, .dead, .dead, .dead, .dead, .dead, .dead, .dead, .dead, .dead, .dead, .dead, .dead, .dead, .dead, .dead, .dead, .dead, .dead, .dead, .dead, .dead], [some [.hole (.list .str), .hole (.list (.prod (.int .i64) .str))], some [.nilS, .nilS, .nilS, .nilS, .hole (.int .i64), .hole (.int .i64), .hole (.int .i64)], some [.hole (.list .str), .hole (.list (.prod (.int .i64) .str)), .nilS, .nilS, .hole (.int .i64), .hole (.int .i64), .hole (.int .i64)]], []⟩
@[reducible] noncomputable def f13_p4_outs : List (Ex × Shape) := [(.exit 0, f13_p4_o0)]
@[reducible] noncomputable def f13_p4_a : Ann Try.prog 0 true (f13_c.cr.cr.cr.cl.cr.cb.cb) := (.seq (.leaf _) (.seq (.leaf _) (.seq (.piece _ _ _ f13_p2_ok) (.leaf _))))
noncomputable def f13_p4_st (rec : f13_p4_sh.den → Option (OutDen f13_p4_outs)) (y : f13_p4_sh.den) : Option (OutDen f13_p4_outs) := evA f13_E f13_p4_a (fill f13_p4_sh y) fun ex st => match ex with | .normal => (abs f13_p4_sh st).bind rec | e => packOut f13_p4_outs e st
theorem f13_p4_ok : PieceSound Try.prog 0 true (.loop (f13_c.cr.cr.cr.cl.cr.cb.cb)) f13_p4_sh f13_p4_outs (go f13_p4_st) := go_of (f13_E_okE) f13_p4_a rfl rfl fun _ _ => rfl
@[reducible] noncomputable def f13_p5_sh : Shape := ⟨[.dead, .ptr 0 0, .ptr 1 0, .dead, .dead, .dead, .dead, .dead, .dead, .dead, .dead, .dead, .dead, .dead, .dead, .dead, .dead, .dead, .dead, .dead, .dead, .dead, .dead, .dead, .dead, .dead, .dead, .dead, .dead, .dead, .dead, .dead, .dead, .dead, .dead, .dead, .dead, .dead, .dead, .dead, .dead, .dead, .dead, .dead, .dead, .dead, .dead, .dead, .dead, .dead, .dead, .dead, .dead, .dead, .dead, .dead, .dead, .dead, .dead, .dead, .dead, .dead, .dead, .dead, .dead, .dead, .dead, .dead, .dead, .dead, .dead, .dead, .dead, .dead, .dead, .dead, .dead, .dead, .dead, .dead, .dead, .dead, .dead, .dead, .dead, .dead, .dead, .dead, .dead, .dead, .dead, .dead, .dead, .dead, .dead, .dead, .dead, .dead, .dead, .dead, .dead, .dead, .dead, .dead, .dead, .dead, .dead, .dead, .dead, .dead, .dead, .dead, .dead], [some [.hole (.list .str), .hole (.list (.prod (.int .i64) .str))], some [.nilS, .nilS, .nilS, .nilS, .hole (.int .i64), .hole (.int .i64), .hole (.int .i64)]], []⟩
@[reducible] noncomputable def f13_p5_o0 : Shape := ⟨[.dead, .ptr 0 0, .ptr 1 0, .dead, .dead, .dead, .dead, .dead, .dead, .dead, .dead, .dead, .dead, .dead, .dead, .dead, .dead, .dead, .dead, .dead, .dead, .dead, .dead, .dead, .dead, .dead, .dead, .hole .bool, .dead, .dead, .dead, .dead, .dead, .dead, .dead, .dead, .dead, .dead, .dead, .dead, .dead, .dead, .dead, .dead, .dead, .dead, .dead, .dead, .dead, .dead, .dead, .dead, .dead, .dead, .dead, .dead, .dead, .dead, .dead, .dead, .dead, .dead, .dead, .dead, .dead, .dead, .dead, .dead, .dead, .dead, .dead, .dead, .dead, .dead, .dead, .dead, .dead, .dead, .dead, .dead, .dead, .dead, .dead, .dead, .dead, .dead, .dead, .dead, .dead, .dead, .dead, .dead, .dead, .dead, .dead, .dead, .dead, .dead, .dead, .dead, .dead, .dead, .dead, .dead, .dead, .dead, .dead, .dead, .dead, .dead, .dead, .dead, .dead], [some [.hole (.list .str), .hole (.list (.prod (.int .i64) .str))], some [.nilS, .nilS, .nilS, .nilS, .hole (.int .i64), .hole (.int .i64), .hole (.int .i64)]], []⟩
@[reducible] noncomputable def f13_p5_outs : List (Ex × Shape) := [(.normal, f13_p5_o0)]
@[reducible] noncomputable def f13_p5_a : Ann Try.prog 0 true (f13_c.cr.cl.cl) := (.leaf _)
noncomputable def f13_p5_F (y : f13_p5_sh.den) : Option (OutDen f13_p5_outs) := evA f13_E f13_p5_a (fill f13_p5_sh y) (packOut f13_p5_outs)
theorem f13_p5_ok : PieceSound Try.prog 0 true (f13_c.cr.cl.cl) f13_p5_sh f13_p5_outs f13_p5_F := piece_of (f13_E_okE) f13_p5_a rfl rfl fun _ => rfl
@[reducible] noncomputable def f13_ps : List KD := [.agg [(.list .str), (.list (.prod (.int .i64) .str))]]
@[reducible] noncomputable def f13_rs : List KD := [.agg [(.list .str), (.list (.prod (.int .i64) .str)), (.list .str), (.list .str), (.int .i64), (.int .i64), (.int .i64)], .one (.int .i64)]
@[reducible] noncomputable def f13_a : Ann Try.prog 0 true f13_c := (.seq (.leaf _) (.seq (.seq (.piece _ _ _ f13_p5_ok) (.leaf _)) (.seq (.leaf _) (.seq (.seq (.leaf _) (.block (.piece _ _ _ f13_p4_ok))) (.seq (.leaf _) (.seq (.leaf _) (.seq (.leaf _) (.seq (.seq (.piece _ _ _ f13_p3_ok) (.leaf _)) (.seq (.leaf _) (.seq (.seq (.leaf _) (.block (.piece _ _ _ f13_p1_ok))) (.seq (.seq (.leaf _) (.block (.piece _ _ _ f13_p0_ok))) (.leaf _))))))))))))
noncomputable def f13_F (y : argsDen f13_ps) : Option (argsDen f13_rs) := evFunA f13_E Try.f13 f13_a (encArgs f13_ps y) (decRes f13_rs)
theorem f13_ok : Sound Try.prog 13 (pfun f13_F) := sound_of (c := f13_c) (f13_E_okE) (by kernel_rfl) (by kernel_rfl) (by kernel_rfl) f13_a (fun _ => rfl)
@[reducible] noncomputable def f7_c : Code := codeOf Try.f7
@[reducible] noncomputable def f7_E : Env := envOf Try.prog 9999 [rowOf true f23_ok, rowOf false f13_ok] [⟨22, _, h22_ok⟩]
theorem f7_E_okE : EnvOk Try.prog f7_E := envOf_ok _ _ _ mixed
@[reducible] noncomputable def f7_ps : List KD := [.one (.int .i64)]
@[reducible] noncomputable def f7_rs : List KD := [.agg [(.list .str), (.list (.prod (.int .i64) .str)), (.list .str), (.list .str), (.int .i64), (.int .i64), (.int .i64)], .one (.int .i64)]
@[reducible] noncomputable def f7_a : Ann Try.prog 0 true f7_c := (.leaf _)
noncomputable def f7_F (y : argsDen f7_ps) : Option (argsDen f7_rs) := evFunA f7_E Try.f7 f7_a (encArgs f7_ps y) (decRes f7_rs)
theorem f7_ok : Sound Try.prog 7 (pfun f7_F) := sound_of (c := f7_c) (f7_E_okE) (by kernel_rfl) (by kernel_rfl) (by kernel_rfl) f7_a (fun _ => rfl)
@[reducible] noncomputable def f40_c : Code := codeOf Try.f40
@[reducible] noncomputable def f40_E : Env := envOf Try.prog 9999 [] []
theorem f40_E_okE : EnvOk Try.prog f40_E := envOf_ok _ _ _ mixed
@[reducible] noncomputable def f40_p0_sh : Shape := ⟨[.hole (.list .str), .hole (.list .str), .dead, .dead, .dead, .dead, .dead, .dead, .dead, .dead, .dead, .dead, .hole (.int .i64), .hole (.int .i64), .dead, .dead, .dead, .dead, .dead, .dead, .dead, .dead, .dead, .dead, .dead, .dead], [], []⟩
@[reducible] noncomputable def f40_p0_o0 : Shape := ⟨[.dead, .dead, .dead, .dead, .dead, .dead, .dead, .dead, .dead, .dead, .dead, .dead, .dead, .dead, .dead, .dead, .dead, .dead, .dead, .dead, .dead, .dead, .dead, .dead, .dead, .dead], [], []⟩
@[reducible] noncomputable def f40_p0_o1 : Shape := ⟨[.dead, .dead, .dead, .dead, .hole .bool, .dead, .dead, .dead, .dead, .dead, .dead, .dead, .dead, .dead, .dead, .dead, .dead, .dead, .dead, .dead, .dead, .dead, .dead, .dead, .dead, .dead], [], []⟩
@[reducible] noncomputable def f40_p0_outs : List (Ex × Shape) := [(.exit 0, f40_p0_o0), (.ret, f40_p0_o1)]
@[reducible] noncomputable def f40_p0_a : Ann Try.prog 0 true (f40_c.cr.cr.cl.cr.cb.cb) := (.leaf _)
noncomputable def f40_p0_st (rec : f40_p0_sh.den → Option (OutDen f40_p0_outs)) (y : f40_p0_sh.den) : Option (OutDen f40_p0_outs) := evA f40_E f40_p0_a (fill f40_p0_sh y) fun ex st => match ex with | .normal => (abs f40_p0_sh st).bind rec | e => packOut f40_p0_outs e st
theorem f40_p0_ok : PieceSound Try.prog 0 true (.loop (f40_c.cr.cr.cl.cr.cb.cb)) f40_p0_sh f40_p0_outs (go f40_p0_st) := go_of (f40_E_okE) f40_p0_a rfl rfl fun _ _ => rfl
@[reducible] noncomputable def f40_ps : List KD := [.one (.list .str), .one (.list .str)]
@[reducible] noncomputable def f40_rs : List KD := [.one .bool]
@[reducible] noncomputable def f40_a : Ann Try.prog 0 true f40_c := (.seq (.leaf _) (.seq (.leaf _) (.seq (.seq (.leaf _) (.block (.piece _ _ _ f40_p0_ok))) (.leaf _))))
noncomputable def f40_F (y : argsDen f40_ps) : Option (argsDen f40_rs) := evFunA f40_E Try.f40 f40_a (encArgs f40_ps y) (decRes f40_rs)
theorem f40_ok : Sound Try.prog 40 (pfun f40_F) := sound_of (c := f40_c) (f40_E_okE) (by kernel_rfl) (by kernel_rfl) (by kernel_rfl) f40_a (fun _ => rfl)
@[reducible] noncomputable def f17_c : Code := codeOf Try.f17
@[reducible] noncomputable def f17_E : Env := envOf Try.prog 9999 [rowOf false f13_ok, rowOf true f40_ok] []
theorem f17_E_okE : EnvOk Try.prog f17_E := envOf_ok _ _ _ mixed
@[reducible] noncomputable def f17_ps : List KD := [.agg [(.list .str), (.list (.prod (.int .i64) .str)), (.list .str), (.list .str), (.int .i64), (.int .i64), (.int .i64)]]
@[reducible] noncomputable def f17_rs : List KD := [.one .bool]
@[reducible] noncomputable def f17_a : Ann Try.prog 0 true f17_c := (.leaf _)
noncomputable def f17_F (y : argsDen f17_ps) : Option (argsDen f17_rs) := evFunA f17_E Try.f17 f17_a (encArgs f17_ps y) (decRes f17_rs)
theorem f17_ok : Sound Try.prog 17 (pfun f17_F) := sound_of (c := f17_c) (f17_E_okE) (by kernel_rfl) (by kernel_rfl) (by kernel_rfl) f17_a (fun _ => rfl)
@[reducible] noncomputable def f43_c : Code := codeOf Try.f43
@[reducible] noncomputable def f43_E : Env := envOf Try.prog 9999 [rowOf true f52_ok] []
theorem f43_E_okE : EnvOk Try.prog f43_E := envOf_ok _ _ _ mixed
@[reducible] noncomputable def f43_ps : List KD := [.one .str]
@[reducible] noncomputable def f43_rs : List KD := [.one .str, .one (.int .i64)]
@[reducible] noncomputable def f43_a : Ann Try.prog 0 true f43_c := (.leaf _)
noncomputable def f43_F (y : argsDen f43_ps) : Option (argsDen f43_rs) := evFunA f43_E Try.f43 f43_a (encArgs f43_ps y) (decRes f43_rs)
theorem f43_ok : Sound Try.prog 43 (pfun f43_F) := sound_of (c := f43_c) (f43_E_okE) (by kernel_rfl) (by kernel_rfl) (by kernel_rfl) f43_a (fun _ => rfl)
@[reducible] noncomputable def f44_c : Code := codeOf Try.f44
@[reducible] noncomputable def f44_E : Env := envOf Try.prog 9999 [rowOf true f60_ok, rowOf true f61_ok, rowOf true repeat_ok] []
theorem f44_E_okE : EnvOk Try.prog f44_E := envOf_ok _ _ _ mixed
@[reducible] noncomputable def f44_p0_sh : Shape := ⟨[.dead, .hole (.int .i64), .hole .str, .dead, .dead, .dead, .dead, .dead, .dead, .dead, .hole .str, .whole 0, .hole (.int .i64), .dead, .dead, .dead, .dead, .dead, .dead, .dead, .dead, .dead, .dead, .dead, .dead, .dead, .dead, .dead, .dead, .dead, .dead, .dead, .dead, .dead, .dead, .dead, .dead, .dead, .dead, .dead, .dead, .dead, .dead, .dead, .dead, .dead, .dead, .dead, .dead, .dead, .dead, .dead, .dead, .dead, .dead, .dead, .dead, .dead, .dead, .dead, .dead, .dead, .dead, .dead, .dead, .dead, .dead, .dead, .dead, .dead, .dead], [none], [some (.prod (.int .i64) .str)]⟩
@[reducible] noncomputable def f44_p0_o0 : Shape := ⟨[.dead, .dead, .dead, .dead, .dead, .dead, .dead, .dead, .dead, .dead, .dead, .whole 0, .dead, .dead, .dead, .dead, .dead, .dead, .dead, .dead, .dead, .dead, .dead, .dead, .dead, .dead, .dead, .dead, .dead, .dead, .dead, .dead, .dead, .dead, .dead, .dead, .dead, .dead, .dead, .dead, .dead, .dead, .dead, .dead, .dead, .dead, .dead, .dead, .dead, .dead, .dead, .dead, .dead, .dead, .dead, .dead, .dead, .dead, .dead, .dead, .dead, .dead, .dead, .dead, .dead, .dead, .dead, .dead, .dead, .dead, .dead], [], [some (.prod (.int .i64) .str)]⟩
@[reducible] noncomputable def f44_p0_outs : List (Ex × Shape) := [(.exit 1, f44_p0_o0)]
@[reducible] noncomputable def f44_p0_a : Ann Try.prog 0 true (f44_c.cr.cr.cr.cr.cr.cr.cl.cr.cb.cb) := (.leaf _)
noncomputable def f44_p0_st (rec : f44_p0_sh.den → Option (OutDen f44_p0_outs)) (y : f44_p0_sh.den) : Option (OutDen f44_p0_outs) := evA f44_E f44_p0_a (fill f44_p0_sh y) fun ex st => match ex with | .normal => (abs f44_p0_sh st).bind rec | e => packOut f44_p0_outs e st
theorem f44_p0_ok : PieceSound Try.prog 0 true (.loop (f44_c.cr.cr.cr.cr.cr.cr.cl.cr.cb.cb)) f44_p0_sh f44_p0_outs (go f44_p0_st) := go_of (f44_E_okE) f44_p0_a rfl rfl fun _ _ => rfl
@[reducible] noncomputable def f44_p1_sh : Shape := ⟨[.dead, .hole (.int .i64), .hole .str, .dead, .dead, .dead, .dead, .dead, .dead, .dead, .hole .str, .dead, .dead, .dead, .dead, .dead, .dead, .dead, .dead, .dead, .dead, .dead, .dead, .dead, .dead, .dead, .dead, .dead, .dead, .dead, .dead, .dead, .dead, .dead, .dead, .dead, .dead, .dead, .dead, .dead, .dead, .dead, .dead, .dead, .dead, .dead, .dead, .dead, .dead, .dead, .dead, .dead, .dead, .dead, .dead, .dead, .dead, .dead, .dead, .dead, .dead, .dead, .dead, .dead, .dead, .dead, .dead, .dead, .dead, .dead, .dead], [none], []⟩
@[reducible] noncomputable def f44_p1_o0 : Shape := ⟨[.dead, .dead, .dead, .dead, .dead, .dead, .whole 0, .hole (.int .i64), .dead, .dead, .dead, .dead, .dead, .dead, .dead, .dead, .dead, .dead, .dead, .dead, .dead, .dead, .dead, .dead, .dead, .dead, .dead, .dead, .dead, .dead, .dead, .dead, .dead, .dead, .dead, .dead, .dead, .dead, .dead, .dead, .dead, .dead, .dead, .dead, .dead, .dead, .dead, .dead, .dead, .dead, .dead, .dead, .dead, .dead, .dead, .dead, .dead, .dead, .dead, .dead, .dead, .dead, .dead, .dead, .dead, .dead, .dead, .dead, .dead, .dead, .dead], [], [some (.prod (.int .i64) .str)]⟩
@[reducible] noncomputable def f44_p1_outs : List (Ex × Shape) := [(.ret, f44_p1_o0)]
@[reducible] noncomputable def f44_p1_a : Ann Try.prog 0 true (f44_c.cr.cr.cr.cr.cr) := (.seq (.leaf _) (.seq (.seq (.leaf _) (.block (.piece _ _ _ f44_p0_ok))) (.leaf _)))
noncomputable def f44_p1_F (y : f44_p1_sh.den) : Option (OutDen f44_p1_outs) := evA f44_E f44_p1_a (fill f44_p1_sh y) (packOut f44_p1_outs)
theorem f44_p1_ok : PieceSound Try.prog 0 true (f44_c.cr.cr.cr.cr.cr) f44_p1_sh f44_p1_outs f44_p1_F := piece_of (f44_E_okE) f44_p1_a rfl rfl fun _ => rfl
@[reducible] noncomputable def f44_ps : List KD := [.one (.list .str), .one (.int .i64), .one .str]
@[reducible] noncomputable def f44_rs : List KD := [.one (.list (.prod (.int .i64) .str)), .one (.int .i64)]
@[reducible] noncomputable def f44_a : Ann Try.prog 0 true f44_c := (.seq (.leaf _) (.seq (.leaf _) (.seq (.leaf _) (.seq (.leaf _) (.seq (.leaf _) (.piece _ _ _ f44_p1_ok))))))
noncomputable def f44_F (y : argsDen f44_ps) : Option (argsDen f44_rs) := evFunA f44_E Try.f44 f44_a (encArgs f44_ps y) (decRes f44_rs)
theorem f44_ok : Sound Try.prog 44 (pfun f44_F) := sound_of (c := f44_c) (f44_E_okE) (by kernel_rfl) (by kernel_rfl) (by kernel_rfl) f44_a (fun _ => rfl)
@[reducible] noncomputable def f47_c : Code := codeOf Try.f47
@[reducible] noncomputable def h47_E : Env := envOf Try.prog 9999 [] []
theorem h47_E_okE : EnvOk Try.prog h47_E := envOf_ok _ _ _ mixed
@[reducible] noncomputable def h47_I : Shape := ⟨[.hole (.list (.prod (.int .i64) .str))], [], []⟩
@[reducible] noncomputable def h47_O : Shape := ⟨[.whole 0], [], [some (.prod (.int .i64) .str)]⟩
@[reducible] noncomputable def h47_a : Ann Try.prog 0 true f47_c := (.leaf _)
noncomputable def h47_F (y : h47_I.den) : Option h47_O.den := evFunH h47_E Try.f47 h47_a h47_I h47_O y
theorem h47_ok : SoundH Try.prog 47 ⟨h47_I, h47_O, h47_F⟩ := sound_ofH (I := h47_I) (O := h47_O) (c := f47_c) (h47_E_okE) (by kernel_rfl) (by kernel_rfl) (by kernel_rfl) h47_a rfl rfl (fun _ => rfl)
@[reducible] noncomputable def f45_c : Code := codeOf Try.f45
@[reducible] noncomputable def f45_E : Env := envOf Try.prog 9999 [] [⟨47, _, h47_ok⟩]
theorem f45_E_okE : EnvOk Try.prog f45_E := envOf_ok _ _ _ mixed
@[reducible] noncomputable def f45_p0_sh : Shape := ⟨[.whole 0, .hole (.int .i64), .dead, .dead, .dead, .dead, .dead, .dead, .dead, .hole (.int .i64), .hole (.int .i64), .dead, .dead, .dead, .dead, .dead, .dead, .dead, .dead, .dead, .dead, .dead, .dead, .dead, .dead], [], [some (.prod (.int .i64) .str)]⟩
@[reducible] noncomputable def f45_p0_o0 : Shape := ⟨[.whole 0, .dead, .dead, .dead, .dead, .dead, .dead, .dead, .dead, .dead, .dead, .dead, .dead, .dead, .dead, .dead, .dead, .dead, .dead, .dead, .dead, .dead, .dead, .dead, .dead], [], [some (.prod (.int .i64) .str)]⟩
@[reducible] noncomputable def f45_p0_outs : List (Ex × Shape) := [(.exit 0, f45_p0_o0)]
@[reducible] noncomputable def f45_p0_a : Ann Try.prog 0 true (f45_c.cr.cr.cl.cr.cb.cb) := (.leaf _)
noncomputable def f45_p0_st (rec : f45_p0_sh.den → Option (OutDen f45_p0_outs)) (y : f45_p0_sh.den) : Option (OutDen f45_p0_outs) := evA f45_E f45_p0_a (fill f45_p0_sh y) fun ex st => match ex with | .normal => (abs f45_p0_sh st).bind rec | e => packOut f45_p0_outs e st
theorem f45_p0_ok : PieceSound Try.prog 0 true (.loop (f45_c.cr.cr.cl.cr.cb.cb)) f45_p0_sh f45_p0_outs (go f45_p0_st) := go_of (f45_E_okE) f45_p0_a rfl rfl fun _ _ => rfl
@[reducible] noncomputable def f45_ps : List KD := [.one (.list (.prod (.int .i64) .str)), .one (.int .i64)]
@[reducible] noncomputable def f45_rs : List KD := [.one (.list (.prod (.int .i64) .str))]
@[reducible] noncomputable def f45_a : Ann Try.prog 0 true f45_c := (.seq (.leaf _) (.seq (.leaf _) (.seq (.seq (.leaf _) (.block (.piece _ _ _ f45_p0_ok))) (.leaf _))))
noncomputable def f45_F (y : argsDen f45_ps) : Option (argsDen f45_rs) := evFunA f45_E Try.f45 f45_a (encArgs f45_ps y) (decRes f45_rs)
theorem f45_ok : Sound Try.prog 45 (pfun f45_F) := sound_of (c := f45_c) (f45_E_okE) (by kernel_rfl) (by kernel_rfl) (by kernel_rfl) f45_a (fun _ => rfl)
@[reducible] noncomputable def f46_c : Code := codeOf Try.f46
@[reducible] noncomputable def f46_E : Env := envOfE Try.prog 9999 [rowOf true f42_ok, rowOf true f43_ok] [⟨30, _, h30_ok⟩, ⟨32, _, h32_ok⟩, ⟨37, _, h37_ok⟩, ⟨37, _, h37a_ok⟩, ⟨39, _, str_ok⟩] [⟨31, _, sorted_ok⟩]
theorem f46_E_okE : EnvOk Try.prog f46_E := envOfE_ok _ _ _ _ mixed
@[reducible] noncomputable def f46_p0_sh : Shape := ⟨[.dead, .dead, .dead, .dead, .dead, .whole 0, .dead, .dead, .ptr 0 0, .dead, .dead, .dead, .dead, .dead, .dead, .dead, .dead, .dead, .dead, .dead, .dead, .dead, .dead, .dead, .dead, .dead, .dead, .dead, .dead, .dead, .dead, .dead, .dead, .dead, .dead, .dead, .dead, .whole 1, .hole (.int .i64), .hole (.int .i64), .dead, .dead, .dead, .dead, .dead, .dead, .dead, .dead, .dead, .dead, .dead, .dead, .dead, .dead, .dead, .dead, .dead, .dead, .dead, .dead, .dead], [some [.bld 0, .whole 2], none], [some (.prod .unit (.prod .str .str)), some .str, some (.int .u8)]⟩
@[reducible] noncomputable def f46_p0_o0 : Shape := ⟨[.dead, .dead, .dead, .dead, .dead, .dead, .dead, .dead, .ptr 0 0, .dead, .dead, .dead, .dead, .dead, .dead, .dead, .dead, .dead, .dead, .dead, .dead, .dead, .dead, .dead, .dead, .dead, .dead, .dead, .dead, .dead, .dead, .dead, .dead, .dead, .dead, .dead, .dead, .dead, .dead, .dead, .dead, .dead, .dead, .dead, .dead, .dead, .dead, .dead, .dead, .dead, .dead, .dead, .dead, .dead, .dead, .dead, .dead, .dead, .dead, .dead, .dead], [some [.bld 0, .whole 2]], [none, none, some (.int .u8)]⟩
@[reducible] noncomputable def f46_p0_outs : List (Ex × Shape) := [(.exit 2, f46_p0_o0)]
@[reducible] noncomputable def f46_p0_a : Ann Try.prog 0 true (f46_c.cr.cr.cr.cr.cr.cl.cr.cb.cb) := (.leaf _)
noncomputable def f46_p0_st (rec : f46_p0_sh.den → Option (OutDen f46_p0_outs)) (y : f46_p0_sh.den) : Option (OutDen f46_p0_outs) := evA f46_E f46_p0_a (fill f46_p0_sh y) fun ex st => match ex with | .normal => (abs f46_p0_sh st).bind rec | e => packOut f46_p0_outs e st
theorem f46_p0_ok : PieceSound Try.prog 0 true (.loop (f46_c.cr.cr.cr.cr.cr.cl.cr.cb.cb)) f46_p0_sh f46_p0_outs (go f46_p0_st) := go_of (f46_E_okE) f46_p0_a rfl rfl fun _ _ => rfl
@[reducible] noncomputable def f46_p1_sh : Shape := ⟨[.dead, .hole (.list .str), .ptr 0 0, .dead, .dead, .whole 0, .dead, .dead, .dead, .dead, .dead, .dead, .dead, .dead, .dead, .dead, .dead, .hole (.list .str), .hole (.int .i64), .hole (.int .i64), .dead, .dead, .dead, .dead, .dead, .dead, .dead, .dead, .dead, .dead, .dead, .dead, .dead, .dead, .dead, .dead, .dead, .dead, .dead, .dead, .dead, .dead, .dead, .dead, .dead, .dead, .dead, .dead, .dead, .dead, .dead, .dead, .dead, .dead, .dead, .dead, .dead, .dead, .dead, .dead, .dead], [some [.hole (.list .str), .hole (.list (.prod (.int .i64) .str)), .hole (.list .str), .hole (.list .str), .hole (.int .i64), .hole (.int .i64), .hole (.int .i64)]], [some (.prod .unit (.prod .str .str))]⟩
@[reducible] noncomputable def f46_p1_o0 : Shape := ⟨[.dead, .hole (.list .str), .dead, .dead, .dead, .whole 0, .dead, .dead, .dead, .dead, .dead, .dead, .dead, .dead, .dead, .dead, .dead, .dead, .dead, .dead, .dead, .dead, .dead, .dead, .dead, .dead, .dead, .dead, .dead, .dead, .dead, .dead, .dead, .dead, .dead, .dead, .dead, .dead, .dead, .dead, .dead, .dead, .dead, .dead, .dead, .dead, .dead, .dead, .dead, .dead, .dead, .dead, .dead, .dead, .dead, .dead, .dead, .dead, .dead, .dead, .dead], [], [some (.prod .unit (.prod .str .str))]⟩
@[reducible] noncomputable def f46_p1_outs : List (Ex × Shape) := [(.exit 0, f46_p1_o0)]
@[reducible] noncomputable def f46_p1_a : Ann Try.prog 0 true (f46_c.cr.cr.cl.cr.cb.cb) := (.leaf _)
noncomputable def f46_p1_st (rec : f46_p1_sh.den → Option (OutDen f46_p1_outs)) (y : f46_p1_sh.den) : Option (OutDen f46_p1_outs) := evA f46_E f46_p1_a (fill f46_p1_sh y) fun ex st => match ex with | .normal => (abs f46_p1_sh st).bind rec | e => packOut f46_p1_outs e st
theorem f46_p1_ok : PieceSound Try.prog 0 true (.loop (f46_c.cr.cr.cl.cr.cb.cb)) f46_p1_sh f46_p1_outs (go f46_p1_st) := go_of (f46_E_okE) f46_p1_a rfl rfl fun _ _ => rfl
@[reducible] noncomputable def f46_ps : List KD := [.agg [(.list .str), (.list (.prod (.int .i64) .str)), (.list .str), (.list .str), (.int .i64), (.int .i64), (.int .i64)], .one (.list .str)]
@[reducible] noncomputable def f46_rs : List KD := [.one .str]
@[reducible] noncomputable def f46_a : Ann Try.prog 0 true f46_c := (.seq (.leaf _) (.seq (.leaf _) (.seq (.seq (.leaf _) (.block (.piece _ _ _ f46_p1_ok))) (.seq (.leaf _) (.seq (.leaf _) (.seq (.seq (.leaf _) (.block (.piece _ _ _ f46_p0_ok))) (.leaf _)))))))
noncomputable def f46_F (y : argsDen f46_ps) : Option (argsDen f46_rs) := evFunA f46_E Try.f46 f46_a (encArgs f46_ps y) (decRes f46_rs)
theorem f46_ok : Sound Try.prog 46 (pfun f46_F) := sound_of (c := f46_c) (f46_E_okE) (by kernel_rfl) (by kernel_rfl) (by kernel_rfl) f46_a (fun _ => rfl)
@[reducible] noncomputable def f18_c : Code := codeOf Try.f18
@[reducible] noncomputable def f18_E : Env := envOf Try.prog 9999 [rowOf true f17_ok, rowOf true f41_ok, rowOf true f42_ok, rowOf true f43_ok, rowOf false f27_ok, rowOf false f44_ok, rowOf false f45_ok, rowOf true f23_ok, rowOf true f46_ok] []
theorem f18_E_okE : EnvOk Try.prog f18_E := envOf_ok _ _ _ mixed
@[reducible] noncomputable def f18_p0_sh : Shape := ⟨[.dead, .dead, .ptr 0 0, .dead, .dead, .dead, .dead, .hole (.int .i64), .dead, .hole (.int .i64), .dead, .dead, .dead, .hole .str, .hole (.list (.prod (.int .i64) .str)), .dead, .dead, .dead, .dead, .dead, .dead, .dead, .dead, .dead, .dead, .dead, .dead, .dead, .dead, .dead, .dead, .dead, .dead, .dead, .dead, .dead, .dead, .dead, .dead, .dead, .dead, .dead, .dead, .dead, .dead, .dead, .dead, .dead, .dead, .dead, .dead, .dead, .dead, .dead, .dead, .dead, .dead, .dead, .dead, .dead, .dead, .dead, .dead, .dead, .dead, .dead, .dead, .dead, .dead, .dead, .dead, .dead, .dead, .dead, .dead, .dead, .dead, .dead, .dead, .dead, .dead, .dead, .dead, .dead, .dead, .dead, .dead, .dead, .dead, .dead, .dead, .dead, .dead, .dead, .dead, .dead, .dead, .dead, .dead, .dead, .dead, .dead, .dead, .dead, .dead, .dead, .dead, .dead, .dead, .dead, .dead], [some [.hole (.list .str), .hole (.list (.prod (.int .i64) .str)), .hole (.list .str), .hole (.list .str), .hole (.int .i64), .hole (.int .i64), .hole (.int .i64)]], []⟩
@[reducible] noncomputable def f18_p0_o0 : Shape := ⟨[.dead, .dead, .ptr 0 0, .dead, .dead, .dead, .dead, .dead, .dead, .hole (.int .i64), .dead, .dead, .dead, .hole .str, .hole (.list (.prod (.int .i64) .str)), .dead, .dead, .dead, .dead, .dead, .dead, .dead, .dead, .dead, .dead, .dead, .dead, .dead, .dead, .dead, .dead, .dead, .dead, .dead, .dead, .dead, .dead, .dead, .dead, .dead, .dead, .dead, .dead, .dead, .dead, .dead, .dead, .dead, .dead, .dead, .dead, .dead, .dead, .dead, .dead, .dead, .dead, .dead, .dead, .dead, .dead, .dead, .dead, .dead, .dead, .dead, .dead, .dead, .dead, .dead, .dead, .dead, .dead, .dead, .dead, .dead, .dead, .dead, .dead, .dead, .dead, .dead, .dead, .dead, .dead, .dead, .dead, .dead, .dead, .dead, .dead, .dead, .dead, .dead, .dead, .dead, .dead, .hole .bool, .dead, .dead, .dead, .dead, .dead, .dead, .dead, .dead, .dead, .dead, .dead, .dead, .dead], [some [.hole (.list .str), .hole (.list (.prod (.int .i64) .str)), .hole (.list .str), .hole (.list .str), .hole (.int .i64), .hole (.int .i64), .hole (.int .i64)]], []⟩
@[reducible] noncomputable def f18_p0_outs : List (Ex × Shape) := [(.normal, f18_p0_o0)]
@[reducible] noncomputable def f18_p0_a : Ann Try.prog 0 true (f18_c.cr.cr.cr.cr.cr.cr.cr.cr.cr.cr.cr.cl.cl) := (.leaf _)
noncomputable def f18_p0_F (y : f18_p0_sh.den) : Option (OutDen f18_p0_outs) := evA f18_E f18_p0_a (fill f18_p0_sh y) (packOut f18_p0_outs)
theorem f18_p0_ok : PieceSound Try.prog 0 true (f18_c.cr.cr.cr.cr.cr.cr.cr.cr.cr.cr.cr.cl.cl) f18_p0_sh f18_p0_outs f18_p0_F := piece_of (f18_E_okE) f18_p0_a rfl rfl fun _ => rfl
@[reducible] noncomputable def f18_p1_sh : Shape := ⟨[.dead, .hole (.list .str), .ptr 0 0, .dead, .dead, .dead, .dead, .dead, .dead, .dead, .dead, .dead, .dead, .dead, .dead, .dead, .dead, .dead, .dead, .dead, .dead, .dead, .dead, .dead, .dead, .dead, .dead, .dead, .dead, .dead, .dead, .dead, .dead, .dead, .dead, .dead, .dead, .dead, .dead, .dead, .dead, .dead, .dead, .dead, .dead, .dead, .dead, .dead, .dead, .dead, .dead, .dead, .dead, .dead, .dead, .dead, .dead, .dead, .dead, .dead, .dead, .dead, .dead, .dead, .dead, .dead, .dead, .dead, .dead, .dead, .dead, .dead, .dead, .dead, .dead, .dead, .dead, .dead, .dead, .dead, .dead, .dead, .dead, .dead, .dead, .dead, .dead, .dead, .dead, .dead, .dead, .dead, .dead, .dead, .dead, .dead, .dead, .dead, .dead, .dead, .dead, .dead, .dead, .dead, .dead, .dead, .dead, .dead, .dead, .dead, .dead], [some [.hole (.list .str), .hole (.list (.prod (.int .i64) .str)), .hole (.list .str), .hole (.list .str), .hole (.int .i64), .hole (.int .i64), .hole (.int .i64)]], []⟩
@[reducible] noncomputable def f18_p1_o0 : Shape := ⟨[.dead, .dead, .dead, .dead, .hole (.list (.list (.prod (.int .i64) .str))), .hole (.int .i64), .dead, .dead, .dead, .dead, .dead, .dead, .dead, .dead, .dead, .dead, .dead, .dead, .dead, .dead, .dead, .dead, .dead, .dead, .dead, .dead, .dead, .dead, .dead, .dead, .dead, .dead, .dead, .dead, .dead, .dead, .dead, .dead, .dead, .dead, .dead, .dead, .dead, .dead, .dead, .dead, .dead, .dead, .dead, .dead, .dead, .dead, .dead, .dead, .dead, .dead, .dead, .dead, .dead, .dead, .dead, .dead, .dead, .dead, .dead, .dead, .dead, .dead, .dead, .dead, .dead, .dead, .dead, .dead, .dead, .dead, .dead, .dead, .dead, .dead, .dead, .dead, .dead, .dead, .dead, .dead, .dead, .dead, .dead, .dead, .dead, .dead, .dead, .dead, .dead, .dead, .dead, .dead, .dead, .dead, .dead, .dead, .dead, .dead, .dead, .dead, .dead, .dead, .dead, .dead, .dead], [], []⟩
@[reducible] noncomputable def f18_p1_outs : List (Ex × Shape) := [(.ret, f18_p1_o0)]
@[reducible] noncomputable def f18_p1_a : Ann Try.prog 0 true (f18_c.cr.cr.cr.cr.cr.cr.cr.cr) := (.seq (.leaf _) (.seq (.leaf _) (.seq (.leaf _) (.seq (.seq (.piece _ _ _ f18_p0_ok) (.leaf _)) (.leaf _)))))
noncomputable def f18_p1_F (y : f18_p1_sh.den) : Option (OutDen f18_p1_outs) := evA f18_E f18_p1_a (fill f18_p1_sh y) (packOut f18_p1_outs)
theorem f18_p1_ok : PieceSound Try.prog 0 true (f18_c.cr.cr.cr.cr.cr.cr.cr.cr) f18_p1_sh f18_p1_outs f18_p1_F := piece_of (f18_E_okE) f18_p1_a rfl rfl fun _ => rfl
@[reducible] noncomputable def f18_p2_sh : Shape := ⟨[.dead, .hole (.list .str), .ptr 0 0, .dead, .dead, .dead, .dead, .dead, .dead, .dead, .dead, .dead, .dead, .dead, .dead, .dead, .dead, .dead, .dead, .dead, .dead, .dead, .dead, .dead, .dead, .dead, .dead, .dead, .dead, .dead, .dead, .dead, .dead, .dead, .dead, .dead, .dead, .dead, .dead, .dead, .dead, .dead, .dead, .dead, .dead, .dead, .dead, .dead, .dead, .dead, .dead, .dead, .dead, .dead, .dead, .dead, .dead, .dead, .dead, .dead, .dead, .dead, .dead, .dead, .dead, .dead, .dead, .dead, .dead, .dead, .dead, .dead, .dead, .dead, .dead, .dead, .dead, .dead, .dead, .dead, .dead, .dead, .dead, .dead, .dead, .dead, .dead, .dead, .dead, .dead, .dead, .dead, .dead, .dead, .dead, .dead, .dead, .dead, .dead, .dead, .dead, .dead, .dead, .dead, .dead, .dead, .dead, .dead, .dead, .dead, .dead], [some [.hole (.list .str), .hole (.list (.prod (.int .i64) .str)), .hole (.list .str), .hole (.list .str), .hole (.int .i64), .hole (.int .i64), .hole (.int .i64)]], []⟩
@[reducible] noncomputable def f18_p2_o0 : Shape := ⟨[.dead, .hole (.list .str), .ptr 0 0, .dead, .dead, .dead, .dead, .dead, .dead, .dead, .dead, .dead, .dead, .dead, .dead, .dead, .dead, .dead, .dead, .dead, .dead, .dead, .hole .bool, .dead, .dead, .dead, .dead, .dead, .dead, .dead, .dead, .dead, .dead, .dead, .dead, .dead, .dead, .dead, .dead, .dead, .dead, .dead, .dead, .dead, .dead, .dead, .dead, .dead, .dead, .dead, .dead, .dead, .dead, .dead, .dead, .dead, .dead, .dead, .dead, .dead, .dead, .dead, .dead, .dead, .dead, .dead, .dead, .dead, .dead, .dead, .dead, .dead, .dead, .dead, .dead, .dead, .dead, .dead, .dead, .dead, .dead, .dead, .dead, .dead, .dead, .dead, .dead, .dead, .dead, .dead, .dead, .dead, .dead, .dead, .dead, .dead, .dead, .dead, .dead, .dead, .dead, .dead, .dead, .dead, .dead, .dead, .dead, .dead, .dead, .dead, .dead], [some [.hole (.list .str), .hole (.list (.prod (.int .i64) .str)), .hole (.list .str), .hole (.list .str), .hole (.int .i64), .hole (.int .i64), .hole (.int .i64)]], []⟩
@[reducible] noncomputable def f18_p2_outs : List (Ex × Shape) := [(.normal, f18_p2_o0)]
@[reducible] noncomputable def f18_p2_a : Ann Try.prog 0 true (f18_c.cr.cl.cl) := (.leaf _)
noncomputable def f18_p2_F (y : f18_p2_sh.den) : Option (OutDen f18_p2_outs) := evA f18_E f18_p2_a (fill f18_p2_sh y) (packOut f18_p2_outs)
theorem f18_p2_ok : PieceSound Try.prog 0 true (f18_c.cr.cl.cl) f18_p2_sh f18_p2_outs f18_p2_F := piece_of (f18_E_okE) f18_p2_a rfl rfl fun _ => rfl
@[reducible] noncomputable def f18_ps : List KD := [.agg [(.list .str), (.list (.prod (.int .i64) .str)), (.list .str), (.list .str), (.int .i64), (.int .i64), (.int .i64)], .one (.list .str)]
@[reducible] noncomputable def f18_rs : List KD := [.one (.list (.list (.prod (.int .i64) .str))), .one (.int .i64)]
@[reducible] noncomputable def f18_a : Ann Try.prog 0 true f18_c := (.seq (.leaf _) (.seq (.seq (.piece _ _ _ f18_p2_ok) (.leaf _)) (.seq (.leaf _) (.seq (.leaf _) (.seq (.leaf _) (.seq (.leaf _) (.seq (.leaf _) (.seq (.leaf _) (.piece _ _ _ f18_p1_ok)))))))))
noncomputable def f18_F (y : argsDen f18_ps) : Option (argsDen f18_rs) := evFunA f18_E Try.f18 f18_a (encArgs f18_ps y) (decRes f18_rs)
theorem f18_ok : Sound Try.prog 18 (pfun f18_F) := sound_of (c := f18_c) (f18_E_okE) (by kernel_rfl) (by kernel_rfl) (by kernel_rfl) f18_a (fun _ => rfl)
@[reducible] noncomputable def f19_c : Code := codeOf Try.f19
@[reducible] noncomputable def f19_E : Env := envOf Try.prog 9999 [rowOf true f25_ok] [⟨47, _, h47_ok⟩]
theorem f19_E_okE : EnvOk Try.prog f19_E := envOf_ok _ _ _ mixed
@[reducible] noncomputable def f19_p0_sh : Shape := ⟨[.dead, .hole (.int .i64), .hole .str, .ptr 0 0, .dead, .dead, .ptr 1 0, .dead, .dead, .dead, .dead, .dead, .dead, .dead, .dead, .dead, .dead, .dead, .dead, .dead, .dead, .dead, .dead, .dead, .dead, .dead, .dead, .dead, .dead, .dead, .dead, .dead, .dead, .dead, .dead, .dead, .dead, .dead, .dead, .dead, .dead, .dead, .dead, .dead, .dead], [some [.hole (.list .str), .hole (.list (.prod (.int .i64) .str))], some [.nilS, .nilS]], []⟩
@[reducible] noncomputable def f19_p0_o0 : Shape := ⟨[.dead, .hole (.int .i64), .hole .str, .ptr 0 0, .dead, .dead, .ptr 1 0, .dead, .hole .bool, .dead, .dead, .dead, .dead, .dead, .dead, .dead, .dead, .dead, .dead, .dead, .dead, .dead, .dead, .dead, .dead, .dead, .dead, .dead, .dead, .dead, .dead, .dead, .dead, .dead, .dead, .dead, .dead, .dead, .dead, .dead, .dead, .dead, .dead, .dead, .dead], [some [.hole (.list .str), .hole (.list (.prod (.int .i64) .str))], some [.nilS, .nilS]], []⟩
@[reducible] noncomputable def f19_p0_outs : List (Ex × Shape) := [(.normal, f19_p0_o0)]
@[reducible] noncomputable def f19_p0_a : Ann Try.prog 0 true (f19_c.cr.cl.cb.cl) := (.leaf _)
noncomputable def f19_p0_F (y : f19_p0_sh.den) : Option (OutDen f19_p0_outs) := evA f19_E f19_p0_a (fill f19_p0_sh y) (packOut f19_p0_outs)
theorem f19_p0_ok : PieceSound Try.prog 0 true (f19_c.cr.cl.cb.cl) f19_p0_sh f19_p0_outs f19_p0_F := piece_of (f19_E_okE) f19_p0_a rfl rfl fun _ => rfl
@[reducible] noncomputable def f19_ps : List KD := [.agg [(.list .str), (.list (.prod (.int .i64) .str))], .one (.int .i64), .one .str]
@[reducible] noncomputable def f19_rs : List KD := [.agg [(.list .str), (.list (.prod (.int .i64) .str))], .one (.int .i64)]
@[reducible] noncomputable def f19_a : Ann Try.prog 0 true f19_c := (.seq (.leaf _) (.seq (.block (.seq (.piece _ _ _ f19_p0_ok) (.leaf _))) (.leaf _)))
noncomputable def f19_F (y : argsDen f19_ps) : Option (argsDen f19_rs) := evFunA f19_E Try.f19 f19_a (encArgs f19_ps y) (decRes f19_rs)
theorem f19_ok : Sound Try.prog 19 (pfun f19_F) := sound_of (c := f19_c) (f19_E_okE) (by kernel_rfl) (by kernel_rfl) (by kernel_rfl) f19_a (fun _ => rfl)
@[reducible] noncomputable def f73_c : Code := codeOf Try.f73
@[reducible] noncomputable def h73_E : Env := envOf Try.prog 9999 [] []
theorem h73_E_okE : EnvOk Try.prog h73_E := envOf_ok _ _ _ mixed
@[reducible] noncomputable def h73_I : Shape := ⟨[.hole (.list .str)], [], []⟩
@[reducible] noncomputable def h73_O : Shape := ⟨[.whole 0], [], [some .str]⟩
@[reducible] noncomputable def h73_a : Ann Try.prog 0 true f73_c := (.leaf _)
noncomputable def h73_F (y : h73_I.den) : Option h73_O.den := evFunH h73_E Try.f73 h73_a h73_I h73_O y
theorem h73_ok : SoundH Try.prog 73 ⟨h73_I, h73_O, h73_F⟩ := sound_ofH (I := h73_I) (O := h73_O) (c := f73_c) (h73_E_okE) (by kernel_rfl) (by kernel_rfl) (by kernel_rfl) h73_a rfl rfl (fun _ => rfl)
@[reducible] noncomputable def f49_c : Code := codeOf Try.f49
@[reducible] noncomputable def f49_E : Env := envOf Try.prog 9999 [] []
theorem f49_E_okE : EnvOk Try.prog f49_E := envOf_ok _ _ _ mixed
@[reducible] noncomputable def f49_ps : List KD := [.one (.int .i64)]
@[reducible] noncomputable def f49_rs : List KD := [.one .bool]
@[reducible] noncomputable def f49_a : Ann Try.prog 0 true f49_c := (.leaf _)
noncomputable def f49_F (y : argsDen f49_ps) : Option (argsDen f49_rs) := evFunA f49_E Try.f49 f49_a (encArgs f49_ps y) (decRes f49_rs)
theorem f49_ok : Sound Try.prog 49 (pfun f49_F) := sound_of (c := f49_c) (f49_E_okE) (by kernel_rfl) (by kernel_rfl) (by kernel_rfl) f49_a (fun _ => rfl)
@[reducible] noncomputable def f48_c : Code := codeOf Try.f48
@[reducible] noncomputable def h48_E : Env := envOf Try.prog 9999 [rowOf true f49_ok] [⟨73, _, h73_ok⟩]
theorem h48_E_okE : EnvOk Try.prog h48_E := envOf_ok _ _ _ mixed
@[reducible] noncomputable def h48_p0_sh : Shape := ⟨[.dead, .fn (.func 49) [] [], .dead, .dead, .ptr 1 0, .whole 0, .dead, .dead, .dead, .dead, .dead, .dead, .hole (.list (.prod (.int .i64) .str)), .hole (.int .i64), .hole (.int .i64), .dead, .dead, .dead, .dead, .dead, .dead, .dead, .dead, .dead, .dead, .dead, .dead, .dead, .dead, .dead, .dead], [none, some [.nilS, .nilS]], [some .str]⟩
@[reducible] noncomputable def h48_p0_o0 : Shape := ⟨[.dead, .fn (.func 49) [] [], .dead, .dead, .ptr 1 0, .whole 0, .dead, .dead, .dead, .dead, .dead, .dead, .hole (.list (.prod (.int .i64) .str)), .hole (.int .i64), .hole (.int .i64), .dead, .dead, .dead, .dead, .dead, .dead, .dead, .dead, .dead, .dead, .dead, .dead, .dead, .dead, .dead, .dead], [none, some [.nilS, .nilS]], [some .str]⟩
@[reducible] noncomputable def h48_p0_outs : List (Ex × Shape) := [(.normal, h48_p0_o0)]
@[reducible] noncomputable def h48_p0_a : Ann Try.prog 0 true (f48_c.cr.cr.cl.cr.cb.cb.cr.cr.cl) := (.leaf _)
noncomputable def h48_p0_F (y : h48_p0_sh.den) : Option (OutDen h48_p0_outs) := evA h48_E h48_p0_a (fill h48_p0_sh y) (packOut h48_p0_outs)
theorem h48_p0_ok : PieceSound Try.prog 0 true (f48_c.cr.cr.cl.cr.cb.cb.cr.cr.cl) h48_p0_sh h48_p0_outs h48_p0_F := piece_of (h48_E_okE) h48_p0_a rfl rfl fun _ => rfl
@[reducible] noncomputable def h48_p1_sh : Shape := ⟨[.dead, .fn (.func 49) [] [], .dead, .dead, .ptr 1 0, .whole 0, .dead, .dead, .dead, .dead, .dead, .dead, .hole (.list (.prod (.int .i64) .str)), .hole (.int .i64), .hole (.int .i64), .dead, .dead, .dead, .dead, .dead, .dead, .dead, .dead, .dead, .dead, .dead, .dead, .dead, .dead, .dead, .dead], [none, some [.nilS, .nilS]], [some .str]⟩
@[reducible] noncomputable def h48_p1_o0 : Shape := ⟨[.dead, .dead, .dead, .dead, .ptr 1 0, .whole 0, .dead, .dead, .dead, .dead, .dead, .dead, .dead, .dead, .dead, .dead, .dead, .dead, .dead, .dead, .dead, .dead, .dead, .dead, .dead, .dead, .dead, .dead, .dead, .dead, .dead], [none, some [.nilS, .nilS]], [some .str]⟩
@[reducible] noncomputable def h48_p1_outs : List (Ex × Shape) := [(.exit 0, h48_p1_o0)]
@[reducible] noncomputable def h48_p1_a : Ann Try.prog 0 true (f48_c.cr.cr.cl.cr.cb.cb) := (.seq (.leaf _) (.seq (.leaf _) (.seq (.piece _ _ _ h48_p0_ok) (.leaf _))))
noncomputable def h48_p1_st (rec : h48_p1_sh.den → Option (OutDen h48_p1_outs)) (y : h48_p1_sh.den) : Option (OutDen h48_p1_outs) := evA h48_E h48_p1_a (fill h48_p1_sh y) fun ex st => match ex with | .normal => (abs h48_p1_sh st).bind rec | e => packOut h48_p1_outs e st
theorem h48_p1_ok : PieceSound Try.prog 0 true (.loop (f48_c.cr.cr.cl.cr.cb.cb)) h48_p1_sh h48_p1_outs (go h48_p1_st) := go_of (h48_E_okE) h48_p1_a rfl rfl fun _ _ => rfl
@[reducible] noncomputable def h48_I : Shape := ⟨[.agg [.hole (.list .str), .hole (.list (.prod (.int .i64) .str))], .fn (.func 49) [] []], [], []⟩
@[reducible] noncomputable def h48_O : Shape := ⟨[.agg [.whole 0, .nilS]], [], [some .str]⟩
@[reducible] noncomputable def h48_a : Ann Try.prog 0 true f48_c := (.seq (.leaf _) (.seq (.leaf _) (.seq (.seq (.leaf _) (.block (.piece _ _ _ h48_p1_ok))) (.leaf _))))
noncomputable def h48_F (y : h48_I.den) : Option h48_O.den := evFunH h48_E Try.f48 h48_a h48_I h48_O y
theorem h48_ok : SoundH Try.prog 48 ⟨h48_I, h48_O, h48_F⟩ := sound_ofH (I := h48_I) (O := h48_O) (c := f48_c) (h48_E_okE) (by kernel_rfl) (by kernel_rfl) (by kernel_rfl) h48_a rfl rfl (fun _ => rfl)
@[reducible] noncomputable def f20_c : Code := codeOf Try.f20
@[reducible] noncomputable def f20_E : Env := envOf Try.prog 9999 [rowOf true f25_ok] [⟨48, _, h48_ok⟩]
theorem f20_E_okE : EnvOk Try.prog f20_E := envOf_ok _ _ _ mixed
@[reducible] noncomputable def f20_ps : List KD := [.agg [(.list .str), (.list (.prod (.int .i64) .str))]]
@[reducible] noncomputable def f20_rs : List KD := [.agg [(.list .str), (.list (.prod (.int .i64) .str))], .one (.int .i64)]
@[reducible] noncomputable def f20_a : Ann Try.prog 0 true f20_c := (.leaf _)
noncomputable def f20_F (y : argsDen f20_ps) : Option (argsDen f20_rs) := evFunA f20_E Try.f20 f20_a (encArgs f20_ps y) (decRes f20_rs)
theorem f20_ok : Sound Try.prog 20 (pfun f20_F) := sound_of (c := f20_c) (f20_E_okE) (by kernel_rfl) (by kernel_rfl) (by kernel_rfl) f20_a (fun _ => rfl)
@[reducible] noncomputable def f10_c : Code := codeOf Try.f10
@[reducible] noncomputable def f10_E : Env := envOf Try.prog 9999 [rowOf false f18_ok, rowOf false f19_ok, rowOf false f20_ok, rowOf false f13_ok] []
theorem f10_E_okE : EnvOk Try.prog f10_E := envOf_ok _ _ _ mixed
@[reducible] noncomputable def f10_p0_sh : Shape := ⟨[.dead, .dead, .dead, .dead, .ptr 1 0, .dead, .dead, .dead, .ptr 2 0, .dead, .dead, .dead, .dead, .dead, .dead, .dead, .dead, .dead, .dead, .dead, .dead, .dead, .dead, .dead, .dead, .hole (.list (.list (.prod (.int .i64) .str))), .hole (.int .i64), .hole (.int .i64), .dead, .dead, .dead, .hole (.list (.prod (.int .i64) .str)), .hole (.int .i64), .hole (.int .i64), .dead, .dead, .dead, .dead, .dead, .dead, .dead, .dead, .dead, .dead, .dead, .dead, .dead, .dead, .dead, .dead, .dead, .dead, .dead, .dead, .dead, .dead, .dead], [none, some [.nilS, .nilS, .nilS, .nilS, .hole (.int .i64), .hole (.int .i64), .hole (.int .i64)], some [.hole (.list .str), .hole (.list (.prod (.int .i64) .str))]], []⟩
@[reducible] noncomputable def f10_p0_o0 : Shape := ⟨[.dead, .dead, .dead, .dead, .ptr 1 0, .dead, .dead, .dead, .ptr 2 0, .dead, .dead, .dead, .dead, .dead, .dead, .dead, .dead, .dead, .dead, .dead, .dead, .dead, .dead, .dead, .dead, .hole (.list (.list (.prod (.int .i64) .str))), .hole (.int .i64), .hole (.int .i64), .dead, .dead, .dead, .dead, .dead, .dead, .dead, .dead, .dead, .dead, .dead, .dead, .dead, .dead, .dead, .dead, .dead, .dead, .dead, .dead, .dead, .dead, .dead, .dead, .dead, .dead, .dead, .dead, .dead], [none, some [.nilS, .nilS, .nilS, .nilS, .hole (.int .i64), .hole (.int .i64), .hole (.int .i64)], some [.hole (.list .str), .hole (.list (.prod (.int .i64) .str))]], []⟩
@[reducible] noncomputable def f10_p0_outs : List (Ex × Shape) := [(.exit 2, f10_p0_o0)]
@[reducible] noncomputable def f10_p0_a : Ann Try.prog 0 true (f10_c.cr.cr.cr.cr.cl.cr.cb.cb.cr.cr.cl.cb.cr.cl.cr.cb.cb) := (.leaf _)
noncomputable def f10_p0_st (rec : f10_p0_sh.den → Option (OutDen f10_p0_outs)) (y : f10_p0_sh.den) : Option (OutDen f10_p0_outs) := evA f10_E f10_p0_a (fill f10_p0_sh y) fun ex st => match ex with | .normal => (abs f10_p0_sh st).bind rec | e => packOut f10_p0_outs e st
theorem f10_p0_ok : PieceSound Try.prog 0 true (.loop (f10_c.cr.cr.cr.cr.cl.cr.cb.cb.cr.cr.cl.cb.cr.cl.cr.cb.cb)) f10_p0_sh f10_p0_outs (go f10_p0_st) := go_of (f10_E_okE) f10_p0_a rfl rfl fun _ _ => rfl
@[reducible] noncomputable def f10_p1_sh : Shape := ⟨[.dead, .dead, .dead, .dead, .ptr 1 0, .dead, .dead, .dead, .ptr 2 0, .dead, .dead, .dead, .dead, .dead, .dead, .dead, .dead, .dead, .dead, .dead, .dead, .dead, .dead, .dead, .dead, .hole (.list (.list (.prod (.int .i64) .str))), .hole (.int .i64), .hole (.int .i64), .dead, .dead, .dead, .dead, .dead, .dead, .dead, .dead, .dead, .dead, .dead, .dead, .dead, .dead, .dead, .dead, .dead, .dead, .dead, .dead, .dead, .dead, .dead, .dead, .dead, .dead, .dead, .dead, .dead], [none, some [.nilS, .nilS, .nilS, .nilS, .hole (.int .i64), .hole (.int .i64), .hole (.int .i64)], some [.hole (.list .str), .hole (.list (.prod (.int .i64) .str))]], []⟩
@[reducible] noncomputable def f10_p1_o0 : Shape := ⟨[.dead, .dead, .dead, .dead, .ptr 1 0, .dead, .dead, .dead, .ptr 2 0, .dead, .dead, .dead, .dead, .dead, .dead, .dead, .dead, .dead, .dead, .dead, .dead, .dead, .dead, .dead, .dead, .dead, .dead, .dead, .dead, .dead, .dead, .dead, .dead, .dead, .dead, .dead, .dead, .dead, .dead, .dead, .dead, .dead, .dead, .dead, .dead, .dead, .dead, .dead, .dead, .dead, .dead, .dead, .dead, .dead, .dead, .dead, .dead], [none, some [.nilS, .nilS, .nilS, .nilS, .hole (.int .i64), .hole (.int .i64), .hole (.int .i64)], some [.hole (.list .str), .hole (.list (.prod (.int .i64) .str))]], []⟩
@[reducible] noncomputable def f10_p1_outs : List (Ex × Shape) := [(.exit 0, f10_p1_o0)]
@[reducible] noncomputable def f10_p1_a : Ann Try.prog 0 true (f10_c.cr.cr.cr.cr.cl.cr.cb.cb) := (.seq (.leaf _) (.seq (.leaf _) (.seq (.block (.seq (.leaf _) (.seq (.seq (.leaf _) (.block (.piece _ _ _ f10_p0_ok))) (.leaf _)))) (.leaf _))))
noncomputable def f10_p1_st (rec : f10_p1_sh.den → Option (OutDen f10_p1_outs)) (y : f10_p1_sh.den) : Option (OutDen f10_p1_outs) := evA f10_E f10_p1_a (fill f10_p1_sh y) fun ex st => match ex with | .normal => (abs f10_p1_sh st).bind rec | e => packOut f10_p1_outs e st
theorem f10_p1_ok : PieceSound Try.prog 0 true (.loop (f10_c.cr.cr.cr.cr.cl.cr.cb.cb)) f10_p1_sh f10_p1_outs (go f10_p1_st) := go_of (f10_E_okE) f10_p1_a rfl rfl fun _ _ => rfl
@[reducible] noncomputable def f10_ps : List KD := [.agg [(.list .str), (.list (.prod (.int .i64) .str)), (.list .str), (.list .str), (.int .i64), (.int .i64), (.int .i64)], .one (.list .str)]
@[reducible] noncomputable def f10_rs : List KD := [.agg [(.list .str), (.list (.prod (.int .i64) .str)), (.list .str), (.list .str), (.int .i64), (.int .i64), (.int .i64)], .one (.int .i64)]
@[reducible] noncomputable def f10_a : Ann Try.prog 0 true f10_c := (.seq (.leaf _) (.seq (.leaf _) (.seq (.leaf _) (.seq (.leaf _) (.seq (.seq (.leaf _) (.block (.piece _ _ _ f10_p1_ok))) (.leaf _))))))
noncomputable def f10_F (y : argsDen f10_ps) : Option (argsDen f10_rs) := evFunA f10_E Try.f10 f10_a (encArgs f10_ps y) (decRes f10_rs)
theorem f10_ok : Sound Try.prog 10 (pfun f10_F) := sound_of (c := f10_c) (f10_E_okE) (by kernel_rfl) (by kernel_rfl) (by kernel_rfl) f10_a (fun _ => rfl)
@[reducible] noncomputable def f81_c : Code := codeOf Try.f81
@[reducible] noncomputable def f81_E : Env := envOf Try.prog 9999 [] []
theorem f81_E_okE : EnvOk Try.prog f81_E := envOf_ok _ _ _ mixed
@[reducible] noncomputable def f81_ps : List KD := [.one .str]
@[reducible] noncomputable def f81_rs : List KD := [.one .bool]
@[reducible] noncomputable def f81_a : Ann Try.prog 0 true f81_c := (.leaf _)
noncomputable def f81_F (y : argsDen f81_ps) : Option (argsDen f81_rs) := evFunA f81_E Try.f81 f81_a (encArgs f81_ps y) (decRes f81_rs)
theorem f81_ok : Sound Try.prog 81 (pfun f81_F) := sound_of (c := f81_c) (f81_E_okE) (by kernel_rfl) (by kernel_rfl) (by kernel_rfl) f81_a (fun _ => rfl)
@[reducible] noncomputable def f66_c : Code := codeOf Try.f66
@[reducible] noncomputable def f66_E : Env := envOf Try.prog 9999 [rowOf true f81_ok] []
theorem f66_E_okE : EnvOk Try.prog f66_E := envOf_ok _ _ _ mixed
@[reducible] noncomputable def f66_ps : List KD := [.one .str, .one .str]
@[reducible] noncomputable def f66_rs : List KD := [.one .bool]
@[reducible] noncomputable def f66_a : Ann Try.prog 0 true f66_c := (.leaf _)
noncomputable def f66_F (y : argsDen f66_ps) : Option (argsDen f66_rs) := evFunA f66_E Try.f66 f66_a (encArgs f66_ps y) (decRes f66_rs)
theorem f66_ok : Sound Try.prog 66 (pfun f66_F) := sound_of (c := f66_c) (f66_E_okE) (by kernel_rfl) (by kernel_rfl) (by kernel_rfl) f66_a (fun _ => rfl)
@[reducible] noncomputable def f67_c : Code := codeOf Try.f67
@[reducible] noncomputable def f67_E : Env := envOf Try.prog 9999 [] []
theorem f67_E_okE : EnvOk Try.prog f67_E := envOf_ok _ _ _ mixed
@[reducible] noncomputable def f67_ps : List KD := [.one .str]
@[reducible] noncomputable def f67_rs : List KD := [.one .bool]
@[reducible] noncomputable def f67_a : Ann Try.prog 0 true f67_c := (.leaf _)
noncomputable def f67_F (y : argsDen f67_ps) : Option (argsDen f67_rs) := evFunA f67_E Try.f67 f67_a (encArgs f67_ps y) (decRes f67_rs)
theorem f67_ok : Sound Try.prog 67 (pfun f67_F) := sound_of (c := f67_c) (f67_E_okE) (by kernel_rfl) (by kernel_rfl) (by kernel_rfl) f67_a (fun _ => rfl)
@[reducible] noncomputable def f33_c : Code := codeOf Try.f33
@[reducible] noncomputable def f33_E : Env := envOf Try.prog 9999 [rowOf true f66_ok, rowOf true f67_ok] []
theorem f33_E_okE : EnvOk Try.prog f33_E := envOf_ok _ _ _ mixed
@[reducible] noncomputable def f33_p0_sh : Shape := ⟨[.hole (.list .str), .hole .str, .dead, .dead, .dead, .dead, .hole (.int .i64), .hole (.int .i64), .hole (.int .i64), .dead, .dead, .dead, .dead, .dead, .dead, .dead, .dead, .dead, .dead, .dead, .dead, .dead, .dead, .dead, .dead, .dead, .dead, .dead, .dead, .dead, .dead, .dead, .dead, .dead, .dead, .dead, .dead, .dead, .dead, .dead, .dead, .dead, .dead, .dead, .dead, .dead, .dead, .dead, .dead, .dead, .dead, .dead, .dead, .dead], [], []⟩
@[reducible] noncomputable def f33_p0_o0 : Shape := ⟨[.hole (.list .str), .hole .str, .dead, .dead, .dead, .dead, .hole (.int .i64), .hole (.int .i64), .dead, .dead, .dead, .dead, .dead, .dead, .dead, .dead, .dead, .dead, .dead, .dead, .dead, .dead, .dead, .dead, .dead, .dead, .dead, .dead, .dead, .dead, .dead, .dead, .dead, .dead, .dead, .dead, .dead, .dead, .dead, .dead, .dead, .dead, .dead, .dead, .dead, .dead, .dead, .dead, .dead, .dead, .dead, .dead, .dead, .dead], [], []⟩
@[reducible] noncomputable def f33_p0_outs : List (Ex × Shape) := [(.exit 0, f33_p0_o0)]
@[reducible] noncomputable def f33_p0_a : Ann Try.prog 0 true (f33_c.cr.cr.cr.cl.cb.cb) := (.leaf _)
noncomputable def f33_p0_st (rec : f33_p0_sh.den → Option (OutDen f33_p0_outs)) (y : f33_p0_sh.den) : Option (OutDen f33_p0_outs) := evA f33_E f33_p0_a (fill f33_p0_sh y) fun ex st => match ex with | .normal => (abs f33_p0_sh st).bind rec | e => packOut f33_p0_outs e st
theorem f33_p0_ok : PieceSound Try.prog 0 true (.loop (f33_c.cr.cr.cr.cl.cb.cb)) f33_p0_sh f33_p0_outs (go f33_p0_st) := go_of (f33_E_okE) f33_p0_a rfl rfl fun _ _ => rfl
@[reducible] noncomputable def f33_ps : List KD := [.one (.list .str), .one .str]
@[reducible] noncomputable def f33_rs : List KD := [.one (.int .i64), .one .bool]
@[reducible] noncomputable def f33_a : Ann Try.prog 0 true f33_c := (.seq (.leaf _) (.seq (.leaf _) (.seq (.leaf _) (.seq (.block (.piece _ _ _ f33_p0_ok)) (.leaf _)))))
noncomputable def f33_F (y : argsDen f33_ps) : Option (argsDen f33_rs) := evFunA f33_E Try.f33 f33_a (encArgs f33_ps y) (decRes f33_rs)
theorem f33_ok : Sound Try.prog 33 (pfun f33_F) := sound_of (c := f33_c) (f33_E_okE) (by kernel_rfl) (by kernel_rfl) (by kernel_rfl) f33_a (fun _ => rfl)
@[reducible] noncomputable def f14_c : Code := codeOf Try.f14
@[reducible] noncomputable def f14_E : Env := envOf Try.prog 9999 [rowOf true f17_ok, rowOf true f33_ok] []
theorem f14_E_okE : EnvOk Try.prog f14_E := envOf_ok _ _ _ mixed
@[reducible] noncomputable def f14_ps : List KD := [.agg [(.list .str), (.list (.prod (.int .i64) .str)), (.list .str), (.list .str), (.int .i64), (.int .i64), (.int .i64)], .one .str]
@[reducible] noncomputable def f14_rs : List KD := [.one .str, .one (.int .i64)]
@[reducible] noncomputable def f14_a : Ann Try.prog 0 true f14_c := (.leaf _)
noncomputable def f14_F (y : argsDen f14_ps) : Option (argsDen f14_rs) := evFunA f14_E Try.f14 f14_a (encArgs f14_ps y) (decRes f14_rs)
theorem f14_ok : Sound Try.prog 14 (pfun f14_F) := sound_of (c := f14_c) (f14_E_okE) (by kernel_rfl) (by kernel_rfl) (by kernel_rfl) f14_a (fun _ => rfl)
noncomputable def f7_L : argsDen f7_ps → Option (argsDen f7_rs) := Classical.choose (⟨f7_F, rfl⟩ : ∃ f : argsDen f7_ps → Option (argsDen f7_rs), f = f7_F)
theorem f7_Le : f7_L = f7_F := Classical.choose_spec (⟨f7_F, rfl⟩ : ∃ f : argsDen f7_ps → Option (argsDen f7_rs), f = f7_F)
theorem f7_Lok : Sound Try.prog 7 (pfun f7_L) := by rw [f7_Le]; exact f7_ok
noncomputable def f10_L : argsDen f10_ps → Option (argsDen f10_rs) := Classical.choose (⟨f10_F, rfl⟩ : ∃ f : argsDen f10_ps → Option (argsDen f10_rs), f = f10_F)
theorem f10_Le : f10_L = f10_F := Classical.choose_spec (⟨f10_F, rfl⟩ : ∃ f : argsDen f10_ps → Option (argsDen f10_rs), f = f10_F)
theorem f10_Lok : Sound Try.prog 10 (pfun f10_L) := by rw [f10_Le]; exact f10_ok
noncomputable def f14_L : argsDen f14_ps → Option (argsDen f14_rs) := Classical.choose (⟨f14_F, rfl⟩ : ∃ f : argsDen f14_ps → Option (argsDen f14_rs), f = f14_F)
theorem f14_Le : f14_L = f14_F := Classical.choose_spec (⟨f14_F, rfl⟩ : ∃ f : argsDen f14_ps → Option (argsDen f14_rs), f = f14_F)
theorem f14_Lok : Sound Try.prog 14 (pfun f14_L) := by rw [f14_Le]; exact f14_ok
@[reducible] noncomputable def f8_c : Code := codeOf Try.f8
@[reducible] noncomputable def f8_E : Env := envOf Try.prog 9999 [rowOf false f7_Lok, rowOf false f10_Lok, rowOf true f14_Lok] []
theorem f8_E_okE : EnvOk Try.prog f8_E := envOf_ok _ _ _ mixed
@[reducible] noncomputable def f8_ps : List KD := []
@[reducible] noncomputable def f8_rs : List KD := [.one .bool]
@[reducible] noncomputable def f8_a : Ann Try.prog 0 true f8_c := (.leaf _)
noncomputable def f8_F0 (y : argsDen f8_ps) : Option (argsDen f8_rs) := evFunA f8_E Try.f8 f8_a (encArgs f8_ps y) (decRes f8_rs)
noncomputable def f8_F : argsDen f8_ps → Option (argsDen f8_rs) := Classical.choose (⟨f8_F0, rfl⟩ : ∃ f : argsDen f8_ps → Option (argsDen f8_rs), f = f8_F0)
theorem f8_Fe : f8_F = f8_F0 := Classical.choose_spec (⟨f8_F0, rfl⟩ : ∃ f : argsDen f8_ps → Option (argsDen f8_rs), f = f8_F0)
theorem f8_ok0 : Sound Try.prog 8 (pfun f8_F0) := sound_of (c := f8_c) (f8_E_okE) (by kernel_rfl) (by kernel_rfl) (by kernel_rfl) f8_a (fun _ => rfl)
theorem f8_ok : Sound Try.prog 8 (pfun f8_F) := by rw [f8_Fe]; exact f8_ok0
@[reducible] noncomputable def f4_c : Code := codeOf Try.f4
@[reducible] noncomputable def f4_E : Env := envOf Try.prog 9999 [rowOf false f7_ok, rowOf false f10_ok, rowOf true f14_ok, rowOf true f8_ok] []
theorem f4_E_okE : EnvOk Try.prog f4_E := envOf_ok _ _ _ mixed
@[reducible] noncomputable def f4_p0_sh : Shape := ⟨[.dead, .hole .str, .dead, .hole .str, .dead, .dead, .dead, .dead, .dead, .dead, .hole (.int .i64), .ptr 1 0, .hole (.int .i64), .dead, .dead, .dead, .dead, .dead, .dead, .dead, .dead, .dead, .dead, .dead, .dead, .dead, .dead, .dead, .dead, .dead, .dead, .dead, .dead, .dead, .dead, .dead, .dead, .dead, .dead, .dead, .dead, .dead, .dead, .dead, .dead, .dead, .dead, .dead, .dead, .dead, .dead, .dead, .dead, .dead, .dead, .dead, .dead, .dead, .dead, .dead, .dead, .dead, .dead, .dead, .dead, .dead, .dead, .dead, .dead, .dead, .dead, .dead, .dead, .dead, .dead, .dead, .dead, .dead, .dead, .dead, .dead, .dead, .dead, .dead, .dead, .dead, .dead, .dead, .dead, .dead, .dead, .dead, .dead, .dead, .dead, .dead, .dead, .dead, .dead, .dead, .dead, .dead, .dead, .dead, .dead, .dead, .dead, .dead, .dead, .dead, .dead, .dead, .dead, .dead, .dead, .dead, .dead, .dead, .dead, .dead, .dead, .dead, .dead, .dead, .dead, .dead, .dead], [none, some [.hole (.list .str), .hole (.list (.prod (.int .i64) .str)), .hole (.list .str), .hole (.list .str), .hole (.int .i64), .hole (.int .i64), .hole (.int .i64)]], []⟩
@[reducible] noncomputable def f4_p0_o0 : Shape := ⟨[.dead, .dead, .dead, .dead, .dead, .dead, .dead, .dead, .hole .bool, .dead, .dead, .dead, .dead, .dead, .dead, .dead, .dead, .dead, .dead, .dead, .dead, .dead, .dead, .dead, .dead, .dead, .dead, .dead, .dead, .dead, .dead, .dead, .dead, .dead, .dead, .dead, .dead, .dead, .dead, .dead, .dead, .dead, .dead, .dead, .dead, .dead, .dead, .dead, .dead, .dead, .dead, .dead, .dead, .dead, .dead, .dead, .dead, .dead, .dead, .dead, .dead, .dead, .dead, .dead, .dead, .dead, .dead, .dead, .dead, .dead, .dead, .dead, .dead, .dead, .dead, .dead, .dead, .dead, .dead, .dead, .dead, .dead, .dead, .dead, .dead, .dead, .dead, .dead, .dead, .dead, .dead, .dead, .dead, .dead, .dead, .dead, .dead, .dead, .dead, .dead, .dead, .dead, .dead, .dead, .dead, .dead, .dead, .dead, .dead, .dead, .dead, .dead, .dead, .dead, .dead, .dead, .dead, .dead, .dead, .dead, .dead, .dead, .dead, .dead, .dead, .dead, .dead], [], []⟩
@[reducible] noncomputable def f4_p0_outs : List (Ex × Shape) := [(.ret, f4_p0_o0)]
@[reducible] noncomputable def f4_p0_a : Ann Try.prog 0 true (f4_c.cr.cr.cr.cr.cr) := (.leaf _)
noncomputable def f4_p0_F (y : f4_p0_sh.den) : Option (OutDen f4_p0_outs) := evA f4_E f4_p0_a (fill f4_p0_sh y) (packOut f4_p0_outs)
theorem f4_p0_ok : PieceSound Try.prog 0 true (f4_c.cr.cr.cr.cr.cr) f4_p0_sh f4_p0_outs f4_p0_F := piece_of (f4_E_okE) f4_p0_a rfl rfl fun _ => rfl
@[reducible] noncomputable def f4_ps : List KD := [.one (.int .i64), .one .str, .one .str, .one .str]
@[reducible] noncomputable def f4_rs : List KD := [.one .bool]
@[reducible] noncomputable def f4_a : Ann Try.prog 0 true f4_c := (.seq (.leaf _) (.seq (.leaf _) (.seq (.leaf _) (.seq (.leaf _) (.seq (.leaf _) (.piece _ _ _ f4_p0_ok))))))
noncomputable def f4_F (y : argsDen f4_ps) : Option (argsDen f4_rs) := evFunA f4_E Try.f4 f4_a (encArgs f4_ps y) (decRes f4_rs)
theorem f4_ok : Sound Try.prog 4 (pfun f4_F) := sound_of (c := f4_c) (f4_E_okE) (by kernel_rfl) (by kernel_rfl) (by kernel_rfl) f4_a (fun _ => rfl)
end
end Go.Pe.Try
end
section
namespace Go.Pe.Try
open Go.Proofs Go.RowKit
set_option maxRecDepth 100000
set_option linter.unusedVariables false
def h39_y (l0 : List Int) : h39_I.den := (((), ()), (((), ((), ())), ()), (l0, ()))
def h39_o_y (x0 : List UInt8) : h39_O.den := ((x0, ()), (), ())
def h39_o_x0 (z : h39_O.den) : List UInt8 := z.1.1
def h51_y (x0 : List (List UInt8)) (x1 : Int) : h51_I.den := ((x0, (x1, ())), (), ())
def h51_o_y (l0 : List (List UInt8)) : h51_O.den := (((), ()), (), (l0, ()))
def h51_o_l0 (z : h51_O.den) : List (List UInt8) := z.2.2.1
@[simp] theorem h51_o_l0_y l0 : h51_o_l0 (h51_o_y l0) = l0 := id rfl
def h71_y (l0 : List Int) : h71_I.den := (((), ()), (((), ((), ())), ()), (l0, ()))
def h71_o_l0 (z : h71_O.den) : List Int := z.2.2.1
def h22_y (x0 : Int) : h22_I.den := ((x0, ()), (), ())
def h22_o_y (x1 : Int) (l0 : List (List UInt8)) : h22_O.den := ((((), ((), ())), (x1, ())), (), (l0, ()))
def h22_o_x1 (z : h22_O.den) : Int := z.1.2.1
def h22_o_l0 (z : h22_O.den) : List (List UInt8) := z.2.2.1
@[simp] theorem h22_o_x1_y x1 l0 : h22_o_x1 (h22_o_y x1 l0) = x1 := id rfl
@[simp] theorem h22_o_l0_y x1 l0 : h22_o_l0 (h22_o_y x1 l0) = l0 := id rfl
def h22_p0_y (x0 : Int) : h22_p0_sh.den := ((x0, ((), ((), ((), ((), ((), ((), ((), ((), ((), ((), ((), ((), ((), ((), ((), ((), ((), ())))))))))))))))))), (((), ((), ())), ()), ())
def h22_p0_o0_y (x0 : Int) (x10 : Bool) : h22_p0_o0.den := ((x0, ((), ((), ((), ((), ((), ((), ((), ((), ((), (x10, ((), ((), ((), ((), ((), ((), ((), ())))))))))))))))))), (((), ((), ())), ()), ())
def h22_p0_o0_x0 (z : h22_p0_o0.den) : Int := z.1.1
def h22_p0_o0_x10 (z : h22_p0_o0.den) : Bool := z.1.2.2.2.2.2.2.2.2.2.2.1
@[simp] theorem h22_p0_o0_x0_y x0 x10 : h22_p0_o0_x0 (h22_p0_o0_y x0 x10) = x0 := id rfl
@[simp] theorem h22_p0_o0_x10_y x0 x10 : h22_p0_o0_x10 (h22_p0_o0_y x0 x10) = x10 := id rfl
def f52_p0_y (x0 : Int) (x1 : Int) (x28 : Int) (x29 : Int) (l0 : List Int) : f52_p0_sh.den := ((x0, (x1, ((), ((), ((), ((), ((), ((), ((), ((), ((), ((), ((), ((), ((), ((), ((), ((), ((), ((), ((), ((), ((), ((), ((), ((), ((), ((), (x28, (x29, ((), ((), ((), ((), ((), ((), ((), ((), ((), ((), ((), ((), ((), ((), ((), ((), ())))))))))))))))))))))))))))))))))))))))))))))), (), (l0, ()))
def f52_p0_o0_y (l0 : List Int) : f52_p0_o0.den := (((), ((), ((), ((), ((), ((), ((), ((), ((), ((), ((), ((), ((), ((), ((), ((), ((), ((), ((), ((), ((), ((), ((), ((), ((), ((), ((), ((), ((), ((), ((), ((), ((), ((), ((), ((), ((), ((), ((), ((), ((), ((), ((), ((), ((), ((), ())))))))))))))))))))))))))))))))))))))))))))))), (), (l0, ()))
def f52_p0_o0_l0 (z : f52_p0_o0.den) : List Int := z.2.2.1
def f52_p1_y (x0 : Int) (x1 : Int) : f52_p1_sh.den := ((x0, (x1, ((), ((), ((), ((), ((), ((), ((), ((), ((), ((), ((), ((), ((), ((), ((), ((), ((), ((), ((), ((), ((), ((), ((), ((), ((), ((), ((), ((), ((), ((), ((), ((), ((), ((), ((), ((), ((), ((), ((), ((), ((), ((), ((), ((), ())))))))))))))))))))))))))))))))))))))))))))))), (), ())
def f52_p1_o0_y (x0 : Int) (x1 : Int) (x24 : Bool) : f52_p1_o0.den := ((x0, (x1, ((), ((), ((), ((), ((), ((), ((), ((), ((), ((), ((), ((), ((), ((), ((), ((), ((), ((), ((), ((), ((), ((), (x24, ((), ((), ((), ((), ((), ((), ((), ((), ((), ((), ((), ((), ((), ((), ((), ((), ((), ((), ((), ((), ((), ())))))))))))))))))))))))))))))))))))))))))))))), (), ())
def f52_p1_o0_x0 (z : f52_p1_o0.den) : Int := z.1.1
def f52_p1_o0_x1 (z : f52_p1_o0.den) : Int := z.1.2.1
def f52_p1_o0_x24 (z : f52_p1_o0.den) : Bool := z.1.2.2.2.2.2.2.2.2.2.2.2.2.2.2.2.2.2.2.2.2.2.2.2.2.1
def h37a_y (x1 : List UInt8) (l0 : List Int) : h37a_I.den := (((), (x1, ())), (((), ((), ())), ()), (l0, ()))
def h37a_o_y (x0 : Int) (l0 : List Int) : h37a_O.den := ((x0, ((), ())), (((), ((), ())), ()), (l0, ()))
def h37a_o_l0 (z : h37a_O.den) : List Int := z.2.2.1
def h38a_y (l0 : List Int) : h38a_I.den := (((), ()), (((), ((), ())), ()), (l0, ()))
def h38a_o_y (x0 : Int) (l0 : List Int) : h38a_O.den := ((x0, ()), (((), ((), ())), ()), (l0, ()))
def h38a_o_x0 (z : h38a_O.den) : Int := z.1.1
def h38a_o_l0 (z : h38a_O.den) : List Int := z.2.2.1
def f42_p0_y (x6 : List UInt8) (x12 : List (List UInt8)) (x13 : Int) (x14 : Int) (l0 : List Int) : f42_p0_sh.den := (((), ((), ((), ((), ((), ((), (x6, ((), ((), ((), ((), ((), (x12, (x13, (x14, ((), ((), ((), ((), ((), ((), ((), ((), ((), ((), ((), ((), ((), ((), ((), ((), ((), ((), ((), ((), ((), ((), ((), ((), ((), ((), ((), ())))))))))))))))))))))))))))))))))))))))))), (((), ((), ())), ()), (l0, ()))
def f42_p0_o0_y (x6 : List UInt8) (x12 : List (List UInt8)) (x13 : Int) (x14 : Int) (x28 : Bool) (l0 : List Int) : f42_p0_o0.den := (((), ((), ((), ((), ((), ((), (x6, ((), ((), ((), ((), ((), (x12, (x13, (x14, ((), ((), ((), ((), ((), ((), ((), ((), ((), ((), ((), ((), ((), (x28, ((), ((), ((), ((), ((), ((), ((), ((), ((), ((), ((), ((), ((), ())))))))))))))))))))))))))))))))))))))))))), (((), ((), ())), ()), (l0, ()))
def f42_p0_o0_x6 (z : f42_p0_o0.den) : List UInt8 := z.1.2.2.2.2.2.2.1
def f42_p0_o0_x12 (z : f42_p0_o0.den) : List (List UInt8) := z.1.2.2.2.2.2.2.2.2.2.2.2.2.1
def f42_p0_o0_x13 (z : f42_p0_o0.den) : Int := z.1.2.2.2.2.2.2.2.2.2.2.2.2.2.1
def f42_p0_o0_x14 (z : f42_p0_o0.den) : Int := z.1.2.2.2.2.2.2.2.2.2.2.2.2.2.2.1
def f42_p0_o0_x28 (z : f42_p0_o0.den) : Bool := z.1.2.2.2.2.2.2.2.2.2.2.2.2.2.2.2.2.2.2.2.2.2.2.2.2.2.2.2.2.1
def f42_p0_o0_l0 (z : f42_p0_o0.den) : List Int := z.2.2.1
def f42_p1_y (x12 : List (List UInt8)) (x13 : Int) (x14 : Int) (l0 : List Int) : f42_p1_sh.den := (((), ((), ((), ((), ((), ((), ((), ((), ((), ((), ((), ((), (x12, (x13, (x14, ((), ((), ((), ((), ((), ((), ((), ((), ((), ((), ((), ((), ((), ((), ((), ((), ((), ((), ((), ((), ((), ((), ((), ((), ((), ((), ((), ())))))))))))))))))))))))))))))))))))))))))), (((), ((), ())), ()), (l0, ()))
def f42_p1_o0_y (l0 : List Int) : f42_p1_o0.den := (((), ((), ((), ((), ((), ((), ((), ((), ((), ((), ((), ((), ((), ((), ((), ((), ((), ((), ((), ((), ((), ((), ((), ((), ((), ((), ((), ((), ((), ((), ((), ((), ((), ((), ((), ((), ((), ((), ((), ((), ((), ((), ())))))))))))))))))))))))))))))))))))))))))), (((), ((), ())), ()), (l0, ()))
def f42_p1_o0_l0 (z : f42_p1_o0.den) : List Int := z.2.2.1
def f42_p1_o1_y (x2 : List UInt8) (x3 : Int) : f42_p1_o1.den := (((), ((), (x2, (x3, ((), ((), ((), ((), ((), ((), ((), ((), ((), ((), ((), ((), ((), ((), ((), ((), ((), ((), ((), ((), ((), ((), ((), ((), ((), ((), ((), ((), ((), ((), ((), ((), ((), ((), ((), ((), ((), ((), ())))))))))))))))))))))))))))))))))))))))))), (), ())
def f42_p1_o1_x2 (z : f42_p1_o1.den) : List UInt8 := z.1.2.2.1
def f42_p1_o1_x3 (z : f42_p1_o1.den) : Int := z.1.2.2.2.1
def h74_y (x0 : List (List UInt8)) : h74_I.den := ((x0, (((), ()), ())), (), ())
def h74_o_y (x0 : Int) : h74_O.den := ((x0, ()), (), ())
def h74_o_x0 (z : h74_O.den) : Int := z.1.1
@[simp] theorem h74_o_x0_y x0 : h74_o_x0 (h74_o_y x0) = x0 := id rfl
def h74_p0_y (x0 : List (List UInt8)) (x7 : Int) (x8 : Int) : h74_p0_sh.den := ((x0, (((), ()), ((), ((), ((), ((), ((), (x7, (x8, ((), ((), ((), ((), ((), ((), ((), ((), ((), ((), ()))))))))))))))))))), (), ())
def h74_p0_o0_y : h74_p0_o0.den := (((), ((), ((), ((), ((), ((), ((), ((), ((), ((), ((), ((), ((), ((), ((), ((), ((), ((), ((), ()))))))))))))))))))), (), ())
def h74_p0_o1_y (x4 : Int) : h74_p0_o1.den := (((), ((), ((), ((), (x4, ((), ((), ((), ((), ((), ((), ((), ((), ((), ((), ((), ((), ((), ((), ()))))))))))))))))))), (), ())
def h74_p0_o1_x4 (z : h74_p0_o1.den) : Int := z.1.2.2.2.2.1
@[simp] theorem h74_p0_o1_x4_y x4 : h74_p0_o1_x4 (h74_p0_o1_y x4) = x4 := id rfl
def h56_y (x0 : List (List UInt8)) : h56_I.den := ((x0, (((), ()), ())), (), ())
def h56_o_y (x0 : Bool) : h56_O.den := ((x0, ()), (), ())
def h56_o_x0 (z : h56_O.den) : Bool := z.1.1
@[simp] theorem h56_o_x0_y x0 : h56_o_x0 (h56_o_y x0) = x0 := id rfl
def h55_y (x0_0 : Int) (x0_1 : List UInt8) (r0_0 : Int) : h55_I.den := (((x0_0, (x0_1, ())), ((), ((), ()))), ((r0_0, ()), ((((), ()), ()), ())), ())
def h55_o_y (x0 : Bool) (r0_0 : Int) : h55_O.den := ((x0, ()), ((r0_0, ()), ((((), ()), ()), ())), ())
def h55_o_x0 (z : h55_O.den) : Bool := z.1.1
def h55_o_r0_0 (z : h55_O.den) : Int := z.2.1.1.1
@[simp] theorem h55_o_x0_y x0 r0_0 : h55_o_x0 (h55_o_y x0 r0_0) = x0 := id rfl
@[simp] theorem h55_o_r0_0_y x0 r0_0 : h55_o_r0_0 (h55_o_y x0 r0_0) = r0_0 := id rfl
def h75_y (x0 : List ((Int × List UInt8))) (r0_0 : Int) : h75_I.den := ((x0, (((), ((), ((), ()))), ())), ((r0_0, ()), ((((), ()), ()), ())), ())
def h75_o_y (x0 : Int) (r0_0 : Int) : h75_O.den := ((x0, ()), ((r0_0, ()), ((((), ()), ()), ())), ())
def h75_o_x0 (z : h75_O.den) : Int := z.1.1
def h75_o_r0_0 (z : h75_O.den) : Int := z.2.1.1.1
@[simp] theorem h75_o_x0_y x0 r0_0 : h75_o_x0 (h75_o_y x0 r0_0) = x0 := id rfl
@[simp] theorem h75_o_r0_0_y x0 r0_0 : h75_o_r0_0 (h75_o_y x0 r0_0) = r0_0 := id rfl
def h75_p0_y (x0 : List ((Int × List UInt8))) (x7 : Int) (x8 : Int) (r0_0 : Int) : h75_p0_sh.den := ((x0, (((), ((), ((), ()))), ((), ((), ((), ((), ((), (x7, (x8, ((), ((), ((), ((), ((), ((), ((), ((), ((), ((), ()))))))))))))))))))), ((r0_0, ()), ((((), ()), ()), ())), ())
def h75_p0_o0_y (r0_0 : Int) : h75_p0_o0.den := (((), ((), ((), ((), ((), ((), ((), ((), ((), ((), ((), ((), ((), ((), ((), ((), ((), ((), ((), ()))))))))))))))))))), ((r0_0, ()), ((((), ()), ()), ())), ())
def h75_p0_o0_r0_0 (z : h75_p0_o0.den) : Int := z.2.1.1.1
@[simp] theorem h75_p0_o0_r0_0_y r0_0 : h75_p0_o0_r0_0 (h75_p0_o0_y r0_0) = r0_0 := id rfl
def h75_p0_o1_y (x4 : Int) (r0_0 : Int) : h75_p0_o1.den := (((), ((), ((), ((), (x4, ((), ((), ((), ((), ((), ((), ((), ((), ((), ((), ((), ((), ((), ((), ()))))))))))))))))))), ((r0_0, ()), ((((), ()), ()), ())), ())
def h75_p0_o1_x4 (z : h75_p0_o1.den) : Int := z.1.2.2.2.2.1
def h75_p0_o1_r0_0 (z : h75_p0_o1.den) : Int := z.2.1.1.1
@[simp] theorem h75_p0_o1_x4_y x4 r0_0 : h75_p0_o1_x4 (h75_p0_o1_y x4 r0_0) = x4 := id rfl
@[simp] theorem h75_p0_o1_r0_0_y x4 r0_0 : h75_p0_o1_r0_0 (h75_p0_o1_y x4 r0_0) = r0_0 := id rfl
def h57_y (x0 : List ((Int × List UInt8))) (r0_0 : Int) : h57_I.den := ((x0, (((), ((), ((), ()))), ())), ((r0_0, ()), ((((), ()), ()), ())), ())
def h57_o_y (x0 : Bool) (r0_0 : Int) : h57_O.den := ((x0, ()), ((r0_0, ()), ((((), ()), ()), ())), ())
def h57_o_x0 (z : h57_O.den) : Bool := z.1.1
@[simp] theorem h57_o_x0_y x0 r0_0 : h57_o_x0 (h57_o_y x0 r0_0) = x0 := id rfl
def f25_p0_y (r0_0 : List (List UInt8)) (r0_1 : List ((Int × List UInt8))) (r1_0 : Int) : f25_p0_sh.den := (((), ((), ((), ((), ((), ((), ((), ((), ((), ((), ((), ((), ((), ((), ((), ((), ((), ((), ((), ((), ((), ((), ((), ((), ((), ((), ((), ((), ((), ((), ((), ((), ((), ((), ())))))))))))))))))))))))))))))))))), ((r0_0, (r0_1, ())), ((r1_0, ()), ())), ())
def f25_p0_o0_y (x20 : Bool) (r0_0 : List (List UInt8)) (r0_1 : List ((Int × List UInt8))) (r1_0 : Int) : f25_p0_o0.den := (((), ((), ((), ((), ((), ((), ((), ((), ((), ((), ((), ((), ((), ((), ((), ((), ((), ((), ((), ((), (x20, ((), ((), ((), ((), ((), ((), ((), ((), ((), ((), ((), ((), ((), ())))))))))))))))))))))))))))))))))), ((r0_0, (r0_1, ())), ((r1_0, ()), ())), ())
def f25_p0_o0_x20 (z : f25_p0_o0.den) : Bool := z.1.2.2.2.2.2.2.2.2.2.2.2.2.2.2.2.2.2.2.2.2.1
def f25_p0_o0_r0_0 (z : f25_p0_o0.den) : List (List UInt8) := z.2.1.1.1
def f25_p0_o0_r0_1 (z : f25_p0_o0.den) : List ((Int × List UInt8)) := z.2.1.1.2.1
def f25_p0_o0_r1_0 (z : f25_p0_o0.den) : Int := z.2.1.2.1.1
@[simp] theorem f25_p0_o0_x20_y x20 r0_0 r0_1 r1_0 : f25_p0_o0_x20 (f25_p0_o0_y x20 r0_0 r0_1 r1_0) = x20 := id rfl
@[simp] theorem f25_p0_o0_r0_0_y x20 r0_0 r0_1 r1_0 : f25_p0_o0_r0_0 (f25_p0_o0_y x20 r0_0 r0_1 r1_0) = r0_0 := id rfl
@[simp] theorem f25_p0_o0_r0_1_y x20 r0_0 r0_1 r1_0 : f25_p0_o0_r0_1 (f25_p0_o0_y x20 r0_0 r0_1 r1_0) = r0_1 := id rfl
@[simp] theorem f25_p0_o0_r1_0_y x20 r0_0 r0_1 r1_0 : f25_p0_o0_r1_0 (f25_p0_o0_y x20 r0_0 r0_1 r1_0) = r1_0 := id rfl
def f59_p0_y (x0 : List UInt8) (x4 : Int) (x10 : Int) (x11 : Int) : f59_p0_sh.den := ((x0, ((), ((), ((), (x4, ((), ((), ((), ((), ((), (x10, (x11, ((), ((), ((), ((), ((), ((), ((), ((), ((), ((), ((), ()))))))))))))))))))))))), (), ())
def f59_p0_o0_y (x4 : Int) : f59_p0_o0.den := (((), ((), ((), ((), (x4, ((), ((), ((), ((), ((), ((), ((), ((), ((), ((), ((), ((), ((), ((), ((), ((), ((), ((), ()))))))))))))))))))))))), (), ())
def f59_p0_o0_x4 (z : f59_p0_o0.den) : Int := z.1.2.2.2.2.1
def f58_p0_y (x0 : List UInt8) (l0 : List (List UInt8)) : f58_p0_sh.den := ((x0, ((), ((), ((), ((), ((), ((), ((), ((), ((), ((), ((), ((), ((), ((), ((), ((), ((), ((), ((), ((), ((), ((), ((), ((), ((), ((), ((), ((), ((), ((), ((), ((), ((), ((), ((), ((), ((), ((), ((), ((), ((), ((), ()))))))))))))))))))))))))))))))))))))))))))), (), (l0, ()))
def f58_p0_o0_y (l0 : List (List UInt8)) : f58_p0_o0.den := (((), ((), ((), ((), ((), ((), ((), ((), ((), ((), ((), ((), ((), ((), ((), ((), ((), ((), ((), ((), ((), ((), ((), ((), ((), ((), ((), ((), ((), ((), ((), ((), ((), ((), ((), ((), ((), ((), ((), ((), ((), ((), ((), ()))))))))))))))))))))))))))))))))))))))))))), (), (l0, ()))
def f58_p0_o0_l0 (z : f58_p0_o0.den) : List (List UInt8) := z.2.2.1
def f58_p0_o1_y (x3 : Int) : f58_p0_o1.den := (((), ((), ((), (x3, ((), ((), ((), ((), ((), ((), ((), ((), ((), ((), ((), ((), ((), ((), ((), ((), ((), ((), ((), ((), ((), ((), ((), ((), ((), ((), ((), ((), ((), ((), ((), ((), ((), ((), ((), ((), ((), ((), ((), ()))))))))))))))))))))))))))))))))))))))))))), (), ())
def f58_p0_o1_x3 (z : f58_p0_o1.den) : Int := z.1.2.2.2.1
def f26_p0_y (x7 : List (List UInt8)) (x8 : List UInt8) (x12 : Int) (x14 : Int) : f26_p0_sh.den := (((), ((), ((), ((), ((), ((), ((), (x7, (x8, ((), ((), ((), (x12, ((), (x14, ((), ((), ((), ((), ((), ((), ((), ((), ((), ((), ((), ((), ((), ((), ((), ((), ((), ((), ((), ((), ((), ((), ((), ((), ((), ((), ((), ((), ((), ((), ((), ((), ((), ((), ((), ((), ((), ((), ((), ((), ((), ((), ((), ((), ((), ((), ((), ((), ((), ((), ((), ((), ((), ((), ((), ((), ((), ((), ((), ((), ((), ((), ((), ())))))))))))))))))))))))))))))))))))))))))))))))))))))))))))))))))))))))))))))), (), ())
def f26_p0_o0_y (x12 : Int) (x14 : Int) (x73 : Bool) : f26_p0_o0.den := (((), ((), ((), ((), ((), ((), ((), ((), ((), ((), ((), ((), (x12, ((), (x14, ((), ((), ((), ((), ((), ((), ((), ((), ((), ((), ((), ((), ((), ((), ((), ((), ((), ((), ((), ((), ((), ((), ((), ((), ((), ((), ((), ((), ((), ((), ((), ((), ((), ((), ((), ((), ((), ((), ((), ((), ((), ((), ((), ((), ((), ((), ((), ((), ((), ((), ((), ((), ((), ((), ((), ((), ((), ((), (x73, ((), ((), ((), ((), ())))))))))))))))))))))))))))))))))))))))))))))))))))))))))))))))))))))))))))))), (), ())
def f26_p0_o0_x12 (z : f26_p0_o0.den) : Int := z.1.2.2.2.2.2.2.2.2.2.2.2.2.1
def f26_p0_o0_x14 (z : f26_p0_o0.den) : Int := z.1.2.2.2.2.2.2.2.2.2.2.2.2.2.2.1
def f26_p0_o0_x73 (z : f26_p0_o0.den) : Bool := z.1.2.2.2.2.2.2.2.2.2.2.2.2.2.2.2.2.2.2.2.2.2.2.2.2.2.2.2.2.2.2.2.2.2.2.2.2.2.2.2.2.2.2.2.2.2.2.2.2.2.2.2.2.2.2.2.2.2.2.2.2.2.2.2.2.2.2.2.2.2.2.2.2.2.1
def f26_p1_y (x7 : List (List UInt8)) (x8 : List UInt8) (x10 : List (List UInt8)) (x12 : Int) : f26_p1_sh.den := (((), ((), ((), ((), ((), ((), ((), (x7, (x8, ((), (x10, ((), (x12, ((), ((), ((), ((), ((), ((), ((), ((), ((), ((), ((), ((), ((), ((), ((), ((), ((), ((), ((), ((), ((), ((), ((), ((), ((), ((), ((), ((), ((), ((), ((), ((), ((), ((), ((), ((), ((), ((), ((), ((), ((), ((), ((), ((), ((), ((), ((), ((), ((), ((), ((), ((), ((), ((), ((), ((), ((), ((), ((), ((), ((), ((), ((), ((), ((), ())))))))))))))))))))))))))))))))))))))))))))))))))))))))))))))))))))))))))))))), (), ())
def f26_p1_o0_y (x4 : Int) (x5 : Int) : f26_p1_o0.den := (((), ((), ((), ((), (x4, (x5, ((), ((), ((), ((), ((), ((), ((), ((), ((), ((), ((), ((), ((), ((), ((), ((), ((), ((), ((), ((), ((), ((), ((), ((), ((), ((), ((), ((), ((), ((), ((), ((), ((), ((), ((), ((), ((), ((), ((), ((), ((), ((), ((), ((), ((), ((), ((), ((), ((), ((), ((), ((), ((), ((), ((), ((), ((), ((), ((), ((), ((), ((), ((), ((), ((), ((), ((), ((), ((), ((), ((), ((), ())))))))))))))))))))))))))))))))))))))))))))))))))))))))))))))))))))))))))))))), (), ())
def f26_p1_o0_x4 (z : f26_p1_o0.den) : Int := z.1.2.2.2.2.1
def f26_p1_o0_x5 (z : f26_p1_o0.den) : Int := z.1.2.2.2.2.2.1
def h74a_y (x0 : List (List UInt8)) : h74a_I.den := ((x0, (((), ()), ())), (), ())
def h74a_o_y (x0 : Int) : h74a_O.den := ((x0, ()), (), ())
def h74a_o_x0 (z : h74a_O.den) : Int := z.1.1
@[simp] theorem h74a_o_x0_y x0 : h74a_o_x0 (h74a_o_y x0) = x0 := id rfl
def h74a_p0_y (x0 : List (List UInt8)) (x7 : Int) (x8 : Int) : h74a_p0_sh.den := ((x0, (((), ()), ((), ((), ((), ((), ((), (x7, (x8, ((), ((), ((), ((), ((), ((), ((), ((), ((), ((), ()))))))))))))))))))), (), ())
def h74a_p0_o0_y : h74a_p0_o0.den := (((), ((), ((), ((), ((), ((), ((), ((), ((), ((), ((), ((), ((), ((), ((), ((), ((), ((), ((), ()))))))))))))))))))), (), ())
def h74a_p0_o1_y (x4 : Int) : h74a_p0_o1.den := (((), ((), ((), ((), (x4, ((), ((), ((), ((), ((), ((), ((), ((), ((), ((), ((), ((), ((), ((), ()))))))))))))))))))), (), ())
def h74a_p0_o1_x4 (z : h74a_p0_o1.den) : Int := z.1.2.2.2.2.1
@[simp] theorem h74a_p0_o1_x4_y x4 : h74a_p0_o1_x4 (h74a_p0_o1_y x4) = x4 := id rfl
def h56a_y (x0 : List (List UInt8)) : h56a_I.den := ((x0, (((), ()), ())), (), ())
def h56a_o_y (x0 : Bool) : h56a_O.den := ((x0, ()), (), ())
def h56a_o_x0 (z : h56a_O.den) : Bool := z.1.1
@[simp] theorem h56a_o_x0_y x0 : h56a_o_x0 (h56a_o_y x0) = x0 := id rfl
def f62_p0_y (x0 : List UInt8) (x5 : Int) (l0 : List (List UInt8)) : f62_p0_sh.den := ((x0, ((), ((), ((), ((), (x5, ((), ((), ((), ((), ((), ((), ((), ((), ((), ((), ((), ((), ((), ((), ((), ((), ((), ((), ((), ((), ((), ((), ((), ((), ((), ((), ((), ((), ((), ((), ((), ((), ((), ()))))))))))))))))))))))))))))))))))))))), (), (l0, ()))
def f62_p0_o0_y (x0 : List UInt8) (x5 : Int) (x28 : Bool) (l0 : List (List UInt8)) : f62_p0_o0.den := ((x0, ((), ((), ((), ((), (x5, ((), ((), ((), ((), ((), ((), ((), ((), ((), ((), ((), ((), ((), ((), ((), ((), ((), ((), ((), ((), ((), ((), (x28, ((), ((), ((), ((), ((), ((), ((), ((), ((), ((), ()))))))))))))))))))))))))))))))))))))))), (), (l0, ()))
def f62_p0_o0_x0 (z : f62_p0_o0.den) : List UInt8 := z.1.1
def f62_p0_o0_x5 (z : f62_p0_o0.den) : Int := z.1.2.2.2.2.2.1
def f62_p0_o0_x28 (z : f62_p0_o0.den) : Bool := z.1.2.2.2.2.2.2.2.2.2.2.2.2.2.2.2.2.2.2.2.2.2.2.2.2.2.2.2.2.1
def f62_p0_o0_l0 (z : f62_p0_o0.den) : List (List UInt8) := z.2.2.1
def f62_p1_y (x0 : List UInt8) (l0 : List (List UInt8)) : f62_p1_sh.den := ((x0, ((), ((), ((), ((), ((), ((), ((), ((), ((), ((), ((), ((), ((), ((), ((), ((), ((), ((), ((), ((), ((), ((), ((), ((), ((), ((), ((), ((), ((), ((), ((), ((), ((), ((), ((), ((), ((), ((), ()))))))))))))))))))))))))))))))))))))))), (), (l0, ()))
def f62_p1_o0_y (l0 : List (List UInt8)) : f62_p1_o0.den := (((), ((), ((), ((), ((), ((), ((), ((), ((), ((), ((), ((), ((), ((), ((), ((), ((), ((), ((), ((), ((), ((), ((), ((), ((), ((), ((), ((), ((), ((), ((), ((), ((), ((), ((), ((), ((), ((), ((), ()))))))))))))))))))))))))))))))))))))))), (), (l0, ()))
def f62_p1_o0_l0 (z : f62_p1_o0.den) : List (List UInt8) := z.2.2.1
def f62_p1_o1_y (x3 : Int) : f62_p1_o1.den := (((), ((), ((), (x3, ((), ((), ((), ((), ((), ((), ((), ((), ((), ((), ((), ((), ((), ((), ((), ((), ((), ((), ((), ((), ((), ((), ((), ((), ((), ((), ((), ((), ((), ((), ((), ((), ((), ((), ((), ()))))))))))))))))))))))))))))))))))))))), (), ())
def f62_p1_o1_x3 (z : f62_p1_o1.den) : Int := z.1.2.2.2.1
def f41_p0_y (x0 : List (List UInt8)) (x3 : Int) : f41_p0_sh.den := ((x0, ((), ((), (x3, ((), ((), ((), ((), ((), ((), ((), ((), ((), ((), ((), ((), ((), ((), ((), ((), ((), ((), ((), ((), ((), ((), ((), ((), ((), ((), ((), ((), ((), ((), ((), ((), ((), ((), ((), ((), ((), ((), ((), ((), ((), ((), ((), ()))))))))))))))))))))))))))))))))))))))))))))))), (), ())
def f41_p0_o0_y (x0 : List (List UInt8)) (x3 : Int) (x46 : Bool) : f41_p0_o0.den := ((x0, ((), ((), (x3, ((), ((), ((), ((), ((), ((), ((), ((), ((), ((), ((), ((), ((), ((), ((), ((), ((), ((), ((), ((), ((), ((), ((), ((), ((), ((), ((), ((), ((), ((), ((), ((), ((), ((), ((), ((), ((), ((), ((), ((), ((), ((), (x46, ()))))))))))))))))))))))))))))))))))))))))))))))), (), ())
def f41_p0_o0_x0 (z : f41_p0_o0.den) : List (List UInt8) := z.1.1
def f41_p0_o0_x3 (z : f41_p0_o0.den) : Int := z.1.2.2.2.1
def f41_p0_o0_x46 (z : f41_p0_o0.den) : Bool := z.1.2.2.2.2.2.2.2.2.2.2.2.2.2.2.2.2.2.2.2.2.2.2.2.2.2.2.2.2.2.2.2.2.2.2.2.2.2.2.2.2.2.2.2.2.2.2.1
def f41_p1_y (x0 : List (List UInt8)) (x3 : Int) : f41_p1_sh.den := ((x0, ((), ((), (x3, ((), ((), ((), ((), ((), ((), ((), ((), ((), ((), ((), ((), ((), ((), ((), ((), ((), ((), ((), ((), ((), ((), ((), ((), ((), ((), ((), ((), ((), ((), ((), ((), ((), ((), ((), ((), ((), ((), ((), ((), ((), ((), ((), ()))))))))))))))))))))))))))))))))))))))))))))))), (), ())
def f41_p1_o0_y : f41_p1_o0.den := (((), ((), ((), ((), ((), ((), ((), ((), ((), ((), ((), ((), ((), ((), ((), ((), ((), ((), ((), ((), ((), ((), ((), ((), ((), ((), ((), ((), ((), ((), ((), ((), ((), ((), ((), ((), ((), ((), ((), ((), ((), ((), ((), ((), ((), ((), ((), ()))))))))))))))))))))))))))))))))))))))))))))))), (), ())
def f41_p1_o1_y (x2 : Bool) : f41_p1_o1.den := (((), ((), (x2, ((), ((), ((), ((), ((), ((), ((), ((), ((), ((), ((), ((), ((), ((), ((), ((), ((), ((), ((), ((), ((), ((), ((), ((), ((), ((), ((), ((), ((), ((), ((), ((), ((), ((), ((), ((), ((), ((), ((), ((), ((), ((), ((), ((), ()))))))))))))))))))))))))))))))))))))))))))))))), (), ())
def f41_p1_o1_x2 (z : f41_p1_o1.den) : Bool := z.1.2.2.1
def f41_p2_y (x0 : List (List UInt8)) : f41_p2_sh.den := ((x0, ((), ((), ((), ((), ((), ((), ((), ((), ((), ((), ((), ((), ((), ((), ((), ((), ((), ((), ((), ((), ((), ((), ((), ((), ((), ((), ((), ((), ((), ((), ((), ((), ((), ((), ((), ((), ((), ((), ((), ((), ((), ((), ((), ((), ((), ((), ()))))))))))))))))))))))))))))))))))))))))))))))), (), ())
def f41_p2_o0_y (x0 : List (List UInt8)) (x17 : Bool) : f41_p2_o0.den := ((x0, ((), ((), ((), ((), ((), ((), ((), ((), ((), ((), ((), ((), ((), ((), ((), ((), (x17, ((), ((), ((), ((), ((), ((), ((), ((), ((), ((), ((), ((), ((), ((), ((), ((), ((), ((), ((), ((), ((), ((), ((), ((), ((), ((), ((), ((), ((), ()))))))))))))))))))))))))))))))))))))))))))))))), (), ())
def f41_p2_o0_x0 (z : f41_p2_o0.den) : List (List UInt8) := z.1.1
def f41_p2_o0_x17 (z : f41_p2_o0.den) : Bool := z.1.2.2.2.2.2.2.2.2.2.2.2.2.2.2.2.2.2.1
def f29_p0_y (x5 : Int) (x9 : List (List UInt8)) (x10 : Int) (x16 : List (List UInt8)) (x17 : Int) (x18 : Int) (l0 : List (List (List UInt8))) : f29_p0_sh.den := (((), ((), ((), ((), ((), (x5, ((), ((), ((), (x9, (x10, ((), ((), ((), ((), ((), (x16, (x17, (x18, ((), ((), ((), ((), ((), ((), ((), ((), ((), ((), ((), ((), ((), ((), ((), ((), ((), ((), ((), ((), ((), ((), ((), ())))))))))))))))))))))))))))))))))))))))))), (), (l0, ()))
def f29_p0_o0_y (x5 : Int) (x9 : List (List UInt8)) (x16 : List (List UInt8)) (x17 : Int) (x18 : Int) (x33 : Bool) (l0 : List (List (List UInt8))) : f29_p0_o0.den := (((), ((), ((), ((), ((), (x5, ((), ((), ((), (x9, ((), ((), ((), ((), ((), ((), (x16, (x17, (x18, ((), ((), ((), ((), ((), ((), ((), ((), ((), ((), ((), ((), ((), ((), (x33, ((), ((), ((), ((), ((), ((), ((), ((), ())))))))))))))))))))))))))))))))))))))))))), (), (l0, ()))
def f29_p0_o0_x5 (z : f29_p0_o0.den) : Int := z.1.2.2.2.2.2.1
def f29_p0_o0_x9 (z : f29_p0_o0.den) : List (List UInt8) := z.1.2.2.2.2.2.2.2.2.2.1
def f29_p0_o0_x16 (z : f29_p0_o0.den) : List (List UInt8) := z.1.2.2.2.2.2.2.2.2.2.2.2.2.2.2.2.2.1
def f29_p0_o0_x17 (z : f29_p0_o0.den) : Int := z.1.2.2.2.2.2.2.2.2.2.2.2.2.2.2.2.2.2.1
def f29_p0_o0_x18 (z : f29_p0_o0.den) : Int := z.1.2.2.2.2.2.2.2.2.2.2.2.2.2.2.2.2.2.2.1
def f29_p0_o0_x33 (z : f29_p0_o0.den) : Bool := z.1.2.2.2.2.2.2.2.2.2.2.2.2.2.2.2.2.2.2.2.2.2.2.2.2.2.2.2.2.2.2.2.2.2.1
def f29_p0_o0_l0 (z : f29_p0_o0.den) : List (List (List UInt8)) := z.2.2.1
def f29_p1_y (x5 : Int) (x16 : List (List UInt8)) (x17 : Int) (x18 : Int) (l0 : List (List (List UInt8))) : f29_p1_sh.den := (((), ((), ((), ((), ((), (x5, ((), ((), ((), ((), ((), ((), ((), ((), ((), ((), (x16, (x17, (x18, ((), ((), ((), ((), ((), ((), ((), ((), ((), ((), ((), ((), ((), ((), ((), ((), ((), ((), ((), ((), ((), ((), ((), ())))))))))))))))))))))))))))))))))))))))))), (), (l0, ()))
def f29_p1_o0_y (x5 : Int) (l0 : List (List (List UInt8))) : f29_p1_o0.den := (((), ((), ((), ((), ((), (x5, ((), ((), ((), ((), ((), ((), ((), ((), ((), ((), ((), ((), ((), ((), ((), ((), ((), ((), ((), ((), ((), ((), ((), ((), ((), ((), ((), ((), ((), ((), ((), ((), ((), ((), ((), ((), ())))))))))))))))))))))))))))))))))))))))))), (), (l0, ()))
def f29_p1_o0_x5 (z : f29_p1_o0.den) : Int := z.1.2.2.2.2.2.1
def f29_p1_o0_l0 (z : f29_p1_o0.den) : List (List (List UInt8)) := z.2.2.1
def f29_p1_o1_y (x3 : Bool) : f29_p1_o1.den := (((), ((), ((), (x3, ((), ((), ((), ((), ((), ((), ((), ((), ((), ((), ((), ((), ((), ((), ((), ((), ((), ((), ((), ((), ((), ((), ((), ((), ((), ((), ((), ((), ((), ((), ((), ((), ((), ((), ((), ((), ((), ((), ())))))))))))))))))))))))))))))))))))))))))), (), ())
def f29_p1_o1_x3 (z : f29_p1_o1.den) : Bool := z.1.2.2.2.1
def h30_y (x1 : List (List UInt8)) (l0 : List ((Unit × (List UInt8 × List UInt8)))) : h30_I.den := (((), (x1, ())), (), (l0, ()))
def h30_o_y (l0 : List ((Unit × (List UInt8 × List UInt8)))) : h30_O.den := ((), (), (l0, ()))
def h30_o_l0 (z : h30_O.den) : List ((Unit × (List UInt8 × List UInt8))) := z.2.2.1
def h30_p0_y (x1 : List (List UInt8)) (x4 : Int) (l0 : List ((Unit × (List UInt8 × List UInt8)))) : h30_p0_sh.den := (((), (x1, ((), ((), (x4, ((), ((), ((), ((), ((), ((), ((), ((), ((), ((), ((), ((), ((), ((), ((), ((), ((), ((), ((), ((), ((), ((), ((), ((), ((), ((), ((), ())))))))))))))))))))))))))))))))), (), (l0, ()))
def h30_p0_o0_y (x1 : List (List UInt8)) (x4 : Int) (l0 : List ((Unit × (List UInt8 × List UInt8)))) : h30_p0_o0.den := (((), (x1, ((), ((), (x4, ((), ((), ((), ((), ((), ((), ((), ((), ((), ((), ((), ((), ((), ((), ((), ((), ((), ((), ((), ((), ((), ((), ((), ((), ((), ((), ((), ())))))))))))))))))))))))))))))))), (), (l0, ()))
def h30_p0_o0_x1 (z : h30_p0_o0.den) : List (List UInt8) := z.1.2.1
def h30_p0_o0_x4 (z : h30_p0_o0.den) : Int := z.1.2.2.2.2.1
def h30_p0_o0_l0 (z : h30_p0_o0.den) : List ((Unit × (List UInt8 × List UInt8))) := z.2.2.1
def h30_p1_y (x1 : List (List UInt8)) (x4 : Int) (l0 : List ((Unit × (List UInt8 × List UInt8)))) : h30_p1_sh.den := (((), (x1, ((), ((), (x4, ((), ((), ((), ((), ((), ((), ((), ((), ((), ((), ((), ((), ((), ((), ((), ((), ((), ((), ((), ((), ((), ((), ((), ((), ((), ((), ((), ())))))))))))))))))))))))))))))))), (), (l0, ()))
def h30_p1_o0_y (l0 : List ((Unit × (List UInt8 × List UInt8)))) : h30_p1_o0.den := (((), ((), ((), ((), ((), ((), ((), ((), ((), ((), ((), ((), ((), ((), ((), ((), ((), ((), ((), ((), ((), ((), ((), ((), ((), ((), ((), ((), ((), ((), ((), ((), ())))))))))))))))))))))))))))))))), (), (l0, ()))
def h30_p1_o0_l0 (z : h30_p1_o0.den) : List ((Unit × (List UInt8 × List UInt8))) := z.2.2.1
def h32_y (l0 : List ((Unit × (List UInt8 × List UInt8)))) : h32_I.den := (((), ()), (), (l0, ()))
def h32_o_y (l0 : List ((Unit × (List UInt8 × List UInt8)))) : h32_O.den := ((((), ((), ())), ()), (((), ()), ()), (l0, ()))
def h32_o_l0 (z : h32_O.den) : List ((Unit × (List UInt8 × List UInt8))) := z.2.2.1
def f13_p0_y (x92 : Int) (x93 : Int) (r1_4 : Int) (r1_5 : Int) (r1_6 : Int) (r2_0 : List (List UInt8)) (r2_1 : List ((Int × List UInt8))) (r2_4 : Int) (r2_5 : Int) (r2_6 : Int) (l0 : List ((Unit × (List UInt8 × List UInt8)))) (l1 : List (List UInt8)) (l2 : List (List UInt8)) (l3 : List (List UInt8)) : f13_p0_sh.den := (((), ((), ((), ((), ((), ((), ((), ((), ((), ((), ((), ((), ((), ((), ((), ((), ((), ((), ((), ((), ((), ((), ((), ((), ((), ((), ((), ((), ((), ((), ((), ((), ((), ((), ((), ((), ((), ((), ((), ((), ((), ((), ((), ((), ((), ((), ((), ((), ((), ((), ((), ((), ((), ((), ((), ((), ((), ((), ((), ((), ((), ((), ((), ((), ((), ((), ((), ((), ((), ((), ((), ((), ((), ((), ((), ((), ((), ((), ((), ((), ((), ((), ((), ((), ((), ((), ((), ((), ((), ((), ((), ((), (x92, (x93, ((), ((), ((), ((), ((), ((), ((), ((), ((), ((), ((), ((), ((), ((), ((), ((), ((), ((), ((), ()))))))))))))))))))))))))))))))))))))))))))))))))))))))))))))))))))))))))))))))))))))))))))))))))))))))))))))))))), (((), ((), ((), ((), (r1_4, (r1_5, (r1_6, ()))))))), ((r2_0, (r2_1, ((), ((), (r2_4, (r2_5, (r2_6, ()))))))), ())), (l0, (l1, (l2, (l3, ())))))
def f13_p0_o0_y (r1_4 : Int) (r1_5 : Int) (r1_6 : Int) (r2_0 : List (List UInt8)) (r2_1 : List ((Int × List UInt8))) (r2_4 : Int) (r2_5 : Int) (r2_6 : Int) (l2 : List (List UInt8)) (l3 : List (List UInt8)) : f13_p0_o0.den := (((), ((), ((), ((), ((), ((), ((), ((), ((), ((), ((), ((), ((), ((), ((), ((), ((), ((), ((), ((), ((), ((), ((), ((), ((), ((), ((), ((), ((), ((), ((), ((), ((), ((), ((), ((), ((), ((), ((), ((), ((), ((), ((), ((), ((), ((), ((), ((), ((), ((), ((), ((), ((), ((), ((), ((), ((), ((), ((), ((), ((), ((), ((), ((), ((), ((), ((), ((), ((), ((), ((), ((), ((), ((), ((), ((), ((), ((), ((), ((), ((), ((), ((), ((), ((), ((), ((), ((), ((), ((), ((), ((), ((), ((), ((), ((), ((), ((), ((), ((), ((), ((), ((), ((), ((), ((), ((), ((), ((), ((), ((), ((), ((), ()))))))))))))))))))))))))))))))))))))))))))))))))))))))))))))))))))))))))))))))))))))))))))))))))))))))))))))))))), (((), ((), ((), ((), (r1_4, (r1_5, (r1_6, ()))))))), ((r2_0, (r2_1, ((), ((), (r2_4, (r2_5, (r2_6, ()))))))), ())), (l2, (l3, ())))
def f13_p0_o0_r2_0 (z : f13_p0_o0.den) : List (List UInt8) := z.2.1.2.1.1
def f13_p0_o0_r2_1 (z : f13_p0_o0.den) : List ((Int × List UInt8)) := z.2.1.2.1.2.1
def f13_p0_o0_r2_4 (z : f13_p0_o0.den) : Int := z.2.1.2.1.2.2.2.2.1
def f13_p0_o0_r2_5 (z : f13_p0_o0.den) : Int := z.2.1.2.1.2.2.2.2.2.1
def f13_p0_o0_r2_6 (z : f13_p0_o0.den) : Int := z.2.1.2.1.2.2.2.2.2.2.1
def f13_p0_o0_l2 (z : f13_p0_o0.den) : List (List UInt8) := z.2.2.1
def f13_p0_o0_l3 (z : f13_p0_o0.den) : List (List UInt8) := z.2.2.2.1
def f13_p1_y (x79 : List (List (List UInt8))) (x80 : Int) (x81 : Int) (r1_4 : Int) (r1_5 : Int) (r1_6 : Int) (r2_0 : List (List UInt8)) (r2_1 : List ((Int × List UInt8))) (r2_4 : Int) (r2_5 : Int) (r2_6 : Int) (l0 : List ((Unit × (List UInt8 × List UInt8)))) : f13_p1_sh.den := (((), ((), ((), ((), ((), ((), ((), ((), ((), ((), ((), ((), ((), ((), ((), ((), ((), ((), ((), ((), ((), ((), ((), ((), ((), ((), ((), ((), ((), ((), ((), ((), ((), ((), ((), ((), ((), ((), ((), ((), ((), ((), ((), ((), ((), ((), ((), ((), ((), ((), ((), ((), ((), ((), ((), ((), ((), ((), ((), ((), ((), ((), ((), ((), ((), ((), ((), ((), ((), ((), ((), ((), ((), ((), ((), ((), ((), ((), ((), (x79, (x80, (x81, ((), ((), ((), ((), ((), ((), ((), ((), ((), ((), ((), ((), ((), ((), ((), ((), ((), ((), ((), ((), ((), ((), ((), ((), ((), ((), ((), ((), ((), ((), ((), ()))))))))))))))))))))))))))))))))))))))))))))))))))))))))))))))))))))))))))))))))))))))))))))))))))))))))))))))))), (((), ((), ((), ((), (r1_4, (r1_5, (r1_6, ()))))))), ((r2_0, (r2_1, ((), ((), (r2_4, (r2_5, (r2_6, ()))))))), ())), (l0, ()))
def f13_p1_o0_y (r1_4 : Int) (r1_5 : Int) (r1_6 : Int) (r2_0 : List (List UInt8)) (r2_1 : List ((Int × List UInt8))) (r2_4 : Int) (r2_5 : Int) (r2_6 : Int) (l0 : List ((Unit × (List UInt8 × List UInt8)))) : f13_p1_o0.den := (((), ((), ((), ((), ((), ((), ((), ((), ((), ((), ((), ((), ((), ((), ((), ((), ((), ((), ((), ((), ((), ((), ((), ((), ((), ((), ((), ((), ((), ((), ((), ((), ((), ((), ((), ((), ((), ((), ((), ((), ((), ((), ((), ((), ((), ((), ((), ((), ((), ((), ((), ((), ((), ((), ((), ((), ((), ((), ((), ((), ((), ((), ((), ((), ((), ((), ((), ((), ((), ((), ((), ((), ((), ((), ((), ((), ((), ((), ((), ((), ((), ((), ((), ((), ((), ((), ((), ((), ((), ((), ((), ((), ((), ((), ((), ((), ((), ((), ((), ((), ((), ((), ((), ((), ((), ((), ((), ((), ((), ((), ((), ((), ((), ()))))))))))))))))))))))))))))))))))))))))))))))))))))))))))))))))))))))))))))))))))))))))))))))))))))))))))))))))), (((), ((), ((), ((), (r1_4, (r1_5, (r1_6, ()))))))), ((r2_0, (r2_1, ((), ((), (r2_4, (r2_5, (r2_6, ()))))))), ())), (l0, ()))
def f13_p1_o0_r1_4 (z : f13_p1_o0.den) : Int := z.2.1.1.2.2.2.2.1
def f13_p1_o0_r1_5 (z : f13_p1_o0.den) : Int := z.2.1.1.2.2.2.2.2.1
def f13_p1_o0_r1_6 (z : f13_p1_o0.den) : Int := z.2.1.1.2.2.2.2.2.2.1
def f13_p1_o0_r2_0 (z : f13_p1_o0.den) : List (List UInt8) := z.2.1.2.1.1
def f13_p1_o0_r2_1 (z : f13_p1_o0.den) : List ((Int × List UInt8)) := z.2.1.2.1.2.1
def f13_p1_o0_r2_4 (z : f13_p1_o0.den) : Int := z.2.1.2.1.2.2.2.2.1
def f13_p1_o0_r2_5 (z : f13_p1_o0.den) : Int := z.2.1.2.1.2.2.2.2.2.1
def f13_p1_o0_r2_6 (z : f13_p1_o0.den) : Int := z.2.1.2.1.2.2.2.2.2.2.1
def f13_p1_o0_l0 (z : f13_p1_o0.den) : List ((Unit × (List UInt8 × List UInt8))) := z.2.2.1
def f13_p2_y (x31 : Int) (r0_0 : List (List UInt8)) (r0_1 : List ((Int × List UInt8))) (r1_4 : Int) (r1_5 : Int) (r1_6 : Int) (r2_0 : List (List UInt8)) (r2_1 : List ((Int × List UInt8))) (r2_4 : Int) (r2_5 : Int) (r2_6 : Int) : f13_p2_sh.den := (((), ((), ((), ((), ((), ((), ((), ((), ((), ((), ((), ((), ((), ((), ((), ((), ((), ((), ((), ((), ((), ((), ((), ((), ((), ((), ((), ((), ((), ((), ((), (x31, ((), ((), ((), ((), ((), ((), ((), ((), ((), ((), ((), ((), ((), ((), ((), ((), ((), ((), ((), ((), ((), ((), ((), ((), ((), ((), ((), ((), ((), ((), ((), ((), ((), ((), ((), ((), ((), ((), ((), ((), ((), ((), ((), ((), ((), ((), ((), ((), ((), ((), ((), ((), ((), ((), ((), ((), ((), ((), ((), ((), ((), ((), ((), ((), ((), ((), ((), ((), ((), ((), ((), ((), ((), ((), ((), ((), ((), ((), ((), ((), ((), ()))))))))))))))))))))))))))))))))))))))))))))))))))))))))))))))))))))))))))))))))))))))))))))))))))))))))))))))))), ((r0_0, (r0_1, ())), (((), ((), ((), ((), (r1_4, (r1_5, (r1_6, ()))))))), ((r2_0, (r2_1, ((), ((), (r2_4, (r2_5, (r2_6, ()))))))), ()))), ())
def f13_p2_o0_y (x31 : Int) (r0_0 : List (List UInt8)) (r0_1 : List ((Int × List UInt8))) (r1_4 : Int) (r1_5 : Int) (r1_6 : Int) (r2_0 : List (List UInt8)) (r2_1 : List ((Int × List UInt8))) (r2_4 : Int) (r2_5 : Int) (r2_6 : Int) : f13_p2_o0.den := (((), ((), ((), ((), ((), ((), ((), ((), ((), ((), ((), ((), ((), ((), ((), ((), ((), ((), ((), ((), ((), ((), ((), ((), ((), ((), ((), ((), ((), ((), ((), (x31, ((), ((), ((), ((), ((), ((), ((), ((), ((), ((), ((), ((), ((), ((), ((), ((), ((), ((), ((), ((), ((), ((), ((), ((), ((), ((), ((), ((), ((), ((), ((), ((), ((), ((), ((), ((), ((), ((), ((), ((), ((), ((), ((), ((), ((), ((), ((), ((), ((), ((), ((), ((), ((), ((), ((), ((), ((), ((), ((), ((), ((), ((), ((), ((), ((), ((), ((), ((), ((), ((), ((), ((), ((), ((), ((), ((), ((), ((), ((), ((), ((), ()))))))))))))))))))))))))))))))))))))))))))))))))))))))))))))))))))))))))))))))))))))))))))))))))))))))))))))))))), ((r0_0, (r0_1, ())), (((), ((), ((), ((), (r1_4, (r1_5, (r1_6, ()))))))), ((r2_0, (r2_1, ((), ((), (r2_4, (r2_5, (r2_6, ()))))))), ()))), ())
def f13_p2_o0_x31 (z : f13_p2_o0.den) : Int := z.1.2.2.2.2.2.2.2.2.2.2.2.2.2.2.2.2.2.2.2.2.2.2.2.2.2.2.2.2.2.2.2.1
def f13_p2_o0_r0_0 (z : f13_p2_o0.den) : List (List UInt8) := z.2.1.1.1
def f13_p2_o0_r0_1 (z : f13_p2_o0.den) : List ((Int × List UInt8)) := z.2.1.1.2.1
def f13_p2_o0_r1_4 (z : f13_p2_o0.den) : Int := z.2.1.2.1.2.2.2.2.1
def f13_p2_o0_r1_5 (z : f13_p2_o0.den) : Int := z.2.1.2.1.2.2.2.2.2.1
def f13_p2_o0_r1_6 (z : f13_p2_o0.den) : Int := z.2.1.2.1.2.2.2.2.2.2.1
def f13_p2_o0_r2_0 (z : f13_p2_o0.den) : List (List UInt8) := z.2.1.2.2.1.1
def f13_p2_o0_r2_1 (z : f13_p2_o0.den) : List ((Int × List UInt8)) := z.2.1.2.2.1.2.1
def f13_p2_o0_r2_4 (z : f13_p2_o0.den) : Int := z.2.1.2.2.1.2.2.2.2.1
def f13_p2_o0_r2_5 (z : f13_p2_o0.den) : Int := z.2.1.2.2.1.2.2.2.2.2.1
def f13_p2_o0_r2_6 (z : f13_p2_o0.den) : Int := z.2.1.2.2.1.2.2.2.2.2.2.1
def f13_p3_y (x12 : List (List (List UInt8))) (x13 : Bool) (r1_4 : Int) (r1_5 : Int) (r1_6 : Int) (r2_0 : List (List UInt8)) (r2_1 : List ((Int × List UInt8))) (r2_4 : Int) (r2_5 : Int) (r2_6 : Int) : f13_p3_sh.den := (((), ((), ((), ((), ((), ((), ((), ((), ((), ((), ((), ((), (x12, (x13, ((), ((), ((), ((), ((), ((), ((), ((), ((), ((), ((), ((), ((), ((), ((), ((), ((), ((), ((), ((), ((), ((), ((), ((), ((), ((), ((), ((), ((), ((), ((), ((), ((), ((), ((), ((), ((), ((), ((), ((), ((), ((), ((), ((), ((), ((), ((), ((), ((), ((), ((), ((), ((), ((), ((), ((), ((), ((), ((), ((), ((), ((), ((), ((), ((), ((), ((), ((), ((), ((), ((), ((), ((), ((), ((), ((), ((), ((), ((), ((), ((), ((), ((), ((), ((), ((), ((), ((), ((), ((), ((), ((), ((), ((), ((), ((), ((), ((), ((), ()))))))))))))))))))))))))))))))))))))))))))))))))))))))))))))))))))))))))))))))))))))))))))))))))))))))))))))))))), (((), ((), ((), ((), (r1_4, (r1_5, (r1_6, ()))))))), ((r2_0, (r2_1, ((), ((), (r2_4, (r2_5, (r2_6, ()))))))), ())), ())
def f13_p3_o0_y (x12 : List (List (List UInt8))) (x76 : Bool) (r1_4 : Int) (r1_5 : Int) (r1_6 : Int) (r2_0 : List (List UInt8)) (r2_1 : List ((Int × List UInt8))) (r2_4 : Int) (r2_5 : Int) (r2_6 : Int) : f13_p3_o0.den := (((), ((), ((), ((), ((), ((), ((), ((), ((), ((), ((), ((), (x12, ((), ((), ((), ((), ((), ((), ((), ((), ((), ((), ((), ((), ((), ((), ((), ((), ((), ((), ((), ((), ((), ((), ((), ((), ((), ((), ((), ((), ((), ((), ((), ((), ((), ((), ((), ((), ((), ((), ((), ((), ((), ((), ((), ((), ((), ((), ((), ((), ((), ((), ((), ((), ((), ((), ((), ((), ((), ((), ((), ((), ((), ((), ((), (x76, ((), ((), ((), ((), ((), ((), ((), ((), ((), ((), ((), ((), ((), ((), ((), ((), ((), ((), ((), ((), ((), ((), ((), ((), ((), ((), ((), ((), ((), ((), ((), ((), ((), ((), ((), ((), ()))))))))))))))))))))))))))))))))))))))))))))))))))))))))))))))))))))))))))))))))))))))))))))))))))))))))))))))))), (((), ((), ((), ((), (r1_4, (r1_5, (r1_6, ()))))))), ((r2_0, (r2_1, ((), ((), (r2_4, (r2_5, (r2_6, ()))))))), ())), ())
def f13_p3_o0_x12 (z : f13_p3_o0.den) : List (List (List UInt8)) := z.1.2.2.2.2.2.2.2.2.2.2.2.2.1
def f13_p3_o0_x76 (z : f13_p3_o0.den) : Bool := z.1.2.2.2.2.2.2.2.2.2.2.2.2.2.2.2.2.2.2.2.2.2.2.2.2.2.2.2.2.2.2.2.2.2.2.2.2.2.2.2.2.2.2.2.2.2.2.2.2.2.2.2.2.2.2.2.2.2.2.2.2.2.2.2.2.2.2.2.2.2.2.2.2.2.2.2.2.1
def f13_p3_o0_r1_4 (z : f13_p3_o0.den) : Int := z.2.1.1.2.2.2.2.1
def f13_p3_o0_r1_5 (z : f13_p3_o0.den) : Int := z.2.1.1.2.2.2.2.2.1
def f13_p3_o0_r1_6 (z : f13_p3_o0.den) : Int := z.2.1.1.2.2.2.2.2.2.1
def f13_p3_o0_r2_0 (z : f13_p3_o0.den) : List (List UInt8) := z.2.1.2.1.1
def f13_p3_o0_r2_1 (z : f13_p3_o0.den) : List ((Int × List UInt8)) := z.2.1.2.1.2.1
def f13_p3_o0_r2_4 (z : f13_p3_o0.den) : Int := z.2.1.2.1.2.2.2.2.1
def f13_p3_o0_r2_5 (z : f13_p3_o0.den) : Int := z.2.1.2.1.2.2.2.2.2.1
def f13_p3_o0_r2_6 (z : f13_p3_o0.den) : Int := z.2.1.2.1.2.2.2.2.2.2.1
def f13_p4_y (x31 : Int) (r0_0 : List (List UInt8)) (r0_1 : List ((Int × List UInt8))) (r1_4 : Int) (r1_5 : Int) (r1_6 : Int) (r2_0 : List (List UInt8)) (r2_1 : List ((Int × List UInt8))) (r2_4 : Int) (r2_5 : Int) (r2_6 : Int) : f13_p4_sh.den := (((), ((), ((), ((), ((), ((), ((), ((), ((), ((), ((), ((), ((), ((), ((), ((), ((), ((), ((), ((), ((), ((), ((), ((), ((), ((), ((), ((), ((), ((), ((), (x31, ((), ((), ((), ((), ((), ((), ((), ((), ((), ((), ((), ((), ((), ((), ((), ((), ((), ((), ((), ((), ((), ((), ((), ((), ((), ((), ((), ((), ((), ((), ((), ((), ((), ((), ((), ((), ((), ((), ((), ((), ((), ((), ((), ((), ((), ((), ((), ((), ((), ((), ((), ((), ((), ((), ((), ((), ((), ((), ((), ((), ((), ((), ((), ((), ((), ((), ((), ((), ((), ((), ((), ((), ((), ((), ((), ((), ((), ((), ((), ((), ((), ()))))))))))))))))))))))))))))))))))))))))))))))))))))))))))))))))))))))))))))))))))))))))))))))))))))))))))))))))), ((r0_0, (r0_1, ())), (((), ((), ((), ((), (r1_4, (r1_5, (r1_6, ()))))))), ((r2_0, (r2_1, ((), ((), (r2_4, (r2_5, (r2_6, ()))))))), ()))), ())
def f13_p4_o0_y (r0_0 : List (List UInt8)) (r0_1 : List ((Int × List UInt8))) (r1_4 : Int) (r1_5 : Int) (r1_6 : Int) (r2_0 : List (List UInt8)) (r2_1 : List ((Int × List UInt8))) (r2_4 : Int) (r2_5 : Int) (r2_6 : Int) : f13_p4_o0.den := (((), ((), ((), ((), ((), ((), ((), ((), ((), ((), ((), ((), ((), ((), ((), ((), ((), ((), ((), ((), ((), ((), ((), ((), ((), ((), ((), ((), ((), ((), ((), ((), ((), ((), ((), ((), ((), ((), ((), ((), ((), ((), ((), ((), ((), ((), ((), ((), ((), ((), ((), ((), ((), ((), ((), ((), ((), ((), ((), ((), ((), ((), ((), ((), ((), ((), ((), ((), ((), ((), ((), ((), ((), ((), ((), ((), ((), ((), ((), ((), ((), ((), ((), ((), ((), ((), ((), ((), ((), ((), ((), ((), ((), ((), ((), ((), ((), ((), ((), ((), ((), ((), ((), ((), ((), ((), ((), ((), ((), ((), ((), ((), ((), ()))))))))))))))))))))))))))))))))))))))))))))))))))))))))))))))))))))))))))))))))))))))))))))))))))))))))))))))))), ((r0_0, (r0_1, ())), (((), ((), ((), ((), (r1_4, (r1_5, (r1_6, ()))))))), ((r2_0, (r2_1, ((), ((), (r2_4, (r2_5, (r2_6, ()))))))), ()))), ())
def f13_p4_o0_r0_0 (z : f13_p4_o0.den) : List (List UInt8) := z.2.1.1.1
def f13_p4_o0_r0_1 (z : f13_p4_o0.den) : List ((Int × List UInt8)) := z.2.1.1.2.1
def f13_p4_o0_r1_4 (z : f13_p4_o0.den) : Int := z.2.1.2.1.2.2.2.2.1
def f13_p4_o0_r1_5 (z : f13_p4_o0.den) : Int := z.2.1.2.1.2.2.2.2.2.1
def f13_p4_o0_r1_6 (z : f13_p4_o0.den) : Int := z.2.1.2.1.2.2.2.2.2.2.1
def f13_p4_o0_r2_0 (z : f13_p4_o0.den) : List (List UInt8) := z.2.1.2.2.1.1
def f13_p4_o0_r2_1 (z : f13_p4_o0.den) : List ((Int × List UInt8)) := z.2.1.2.2.1.2.1
def f13_p4_o0_r2_4 (z : f13_p4_o0.den) : Int := z.2.1.2.2.1.2.2.2.2.1
def f13_p4_o0_r2_5 (z : f13_p4_o0.den) : Int := z.2.1.2.2.1.2.2.2.2.2.1
def f13_p4_o0_r2_6 (z : f13_p4_o0.den) : Int := z.2.1.2.2.1.2.2.2.2.2.2.1
def f13_p5_y (r0_0 : List (List UInt8)) (r0_1 : List ((Int × List UInt8))) (r1_4 : Int) (r1_5 : Int) (r1_6 : Int) : f13_p5_sh.den := (((), ((), ((), ((), ((), ((), ((), ((), ((), ((), ((), ((), ((), ((), ((), ((), ((), ((), ((), ((), ((), ((), ((), ((), ((), ((), ((), ((), ((), ((), ((), ((), ((), ((), ((), ((), ((), ((), ((), ((), ((), ((), ((), ((), ((), ((), ((), ((), ((), ((), ((), ((), ((), ((), ((), ((), ((), ((), ((), ((), ((), ((), ((), ((), ((), ((), ((), ((), ((), ((), ((), ((), ((), ((), ((), ((), ((), ((), ((), ((), ((), ((), ((), ((), ((), ((), ((), ((), ((), ((), ((), ((), ((), ((), ((), ((), ((), ((), ((), ((), ((), ((), ((), ((), ((), ((), ((), ((), ((), ((), ((), ((), ((), ()))))))))))))))))))))))))))))))))))))))))))))))))))))))))))))))))))))))))))))))))))))))))))))))))))))))))))))))))), ((r0_0, (r0_1, ())), (((), ((), ((), ((), (r1_4, (r1_5, (r1_6, ()))))))), ())), ())
def f13_p5_o0_y (x27 : Bool) (r0_0 : List (List UInt8)) (r0_1 : List ((Int × List UInt8))) (r1_4 : Int) (r1_5 : Int) (r1_6 : Int) : f13_p5_o0.den := (((), ((), ((), ((), ((), ((), ((), ((), ((), ((), ((), ((), ((), ((), ((), ((), ((), ((), ((), ((), ((), ((), ((), ((), ((), ((), ((), (x27, ((), ((), ((), ((), ((), ((), ((), ((), ((), ((), ((), ((), ((), ((), ((), ((), ((), ((), ((), ((), ((), ((), ((), ((), ((), ((), ((), ((), ((), ((), ((), ((), ((), ((), ((), ((), ((), ((), ((), ((), ((), ((), ((), ((), ((), ((), ((), ((), ((), ((), ((), ((), ((), ((), ((), ((), ((), ((), ((), ((), ((), ((), ((), ((), ((), ((), ((), ((), ((), ((), ((), ((), ((), ((), ((), ((), ((), ((), ((), ((), ((), ((), ((), ((), ((), ()))))))))))))))))))))))))))))))))))))))))))))))))))))))))))))))))))))))))))))))))))))))))))))))))))))))))))))))))), ((r0_0, (r0_1, ())), (((), ((), ((), ((), (r1_4, (r1_5, (r1_6, ()))))))), ())), ())
def f13_p5_o0_x27 (z : f13_p5_o0.den) : Bool := z.1.2.2.2.2.2.2.2.2.2.2.2.2.2.2.2.2.2.2.2.2.2.2.2.2.2.2.2.1
def f13_p5_o0_r0_0 (z : f13_p5_o0.den) : List (List UInt8) := z.2.1.1.1
def f13_p5_o0_r0_1 (z : f13_p5_o0.den) : List ((Int × List UInt8)) := z.2.1.1.2.1
def f13_p5_o0_r1_4 (z : f13_p5_o0.den) : Int := z.2.1.2.1.2.2.2.2.1
def f13_p5_o0_r1_5 (z : f13_p5_o0.den) : Int := z.2.1.2.1.2.2.2.2.2.1
def f13_p5_o0_r1_6 (z : f13_p5_o0.den) : Int := z.2.1.2.1.2.2.2.2.2.2.1
def f40_p0_y (x0 : List (List UInt8)) (x1 : List (List UInt8)) (x12 : Int) (x13 : Int) : f40_p0_sh.den := ((x0, (x1, ((), ((), ((), ((), ((), ((), ((), ((), ((), ((), (x12, (x13, ((), ((), ((), ((), ((), ((), ((), ((), ((), ((), ((), ((), ())))))))))))))))))))))))))), (), ())
def f40_p0_o0_y : f40_p0_o0.den := (((), ((), ((), ((), ((), ((), ((), ((), ((), ((), ((), ((), ((), ((), ((), ((), ((), ((), ((), ((), ((), ((), ((), ((), ((), ((), ())))))))))))))))))))))))))), (), ())
def f40_p0_o1_y (x4 : Bool) : f40_p0_o1.den := (((), ((), ((), ((), (x4, ((), ((), ((), ((), ((), ((), ((), ((), ((), ((), ((), ((), ((), ((), ((), ((), ((), ((), ((), ((), ((), ())))))))))))))))))))))))))), (), ())
def f40_p0_o1_x4 (z : f40_p0_o1.den) : Bool := z.1.2.2.2.2.1
def f44_p0_y (x1 : Int) (x2 : List UInt8) (x10 : List UInt8) (x12 : Int) (l0 : List ((Int × List UInt8))) : f44_p0_sh.den := (((), (x1, (x2, ((), ((), ((), ((), ((), ((), ((), (x10, ((), (x12, ((), ((), ((), ((), ((), ((), ((), ((), ((), ((), ((), ((), ((), ((), ((), ((), ((), ((), ((), ((), ((), ((), ((), ((), ((), ((), ((), ((), ((), ((), ((), ((), ((), ((), ((), ((), ((), ((), ((), ((), ((), ((), ((), ((), ((), ((), ((), ((), ((), ((), ((), ((), ((), ((), ((), ((), ((), ((), ()))))))))))))))))))))))))))))))))))))))))))))))))))))))))))))))))))))))), (), (l0, ()))
def f44_p0_o0_y (l0 : List ((Int × List UInt8))) : f44_p0_o0.den := (((), ((), ((), ((), ((), ((), ((), ((), ((), ((), ((), ((), ((), ((), ((), ((), ((), ((), ((), ((), ((), ((), ((), ((), ((), ((), ((), ((), ((), ((), ((), ((), ((), ((), ((), ((), ((), ((), ((), ((), ((), ((), ((), ((), ((), ((), ((), ((), ((), ((), ((), ((), ((), ((), ((), ((), ((), ((), ((), ((), ((), ((), ((), ((), ((), ((), ((), ((), ((), ((), ((), ()))))))))))))))))))))))))))))))))))))))))))))))))))))))))))))))))))))))), (), (l0, ()))
def f44_p0_o0_l0 (z : f44_p0_o0.den) : List ((Int × List UInt8)) := z.2.2.1
@[simp] theorem f44_p0_o0_l0_y l0 : f44_p0_o0_l0 (f44_p0_o0_y l0) = l0 := id rfl
def f44_p1_y (x1 : Int) (x2 : List UInt8) (x10 : List UInt8) : f44_p1_sh.den := (((), (x1, (x2, ((), ((), ((), ((), ((), ((), ((), (x10, ((), ((), ((), ((), ((), ((), ((), ((), ((), ((), ((), ((), ((), ((), ((), ((), ((), ((), ((), ((), ((), ((), ((), ((), ((), ((), ((), ((), ((), ((), ((), ((), ((), ((), ((), ((), ((), ((), ((), ((), ((), ((), ((), ((), ((), ((), ((), ((), ((), ((), ((), ((), ((), ((), ((), ((), ((), ((), ((), ((), ()))))))))))))))))))))))))))))))))))))))))))))))))))))))))))))))))))))))), (), ())
def f44_p1_o0_y (x7 : Int) (l0 : List ((Int × List UInt8))) : f44_p1_o0.den := (((), ((), ((), ((), ((), ((), ((), (x7, ((), ((), ((), ((), ((), ((), ((), ((), ((), ((), ((), ((), ((), ((), ((), ((), ((), ((), ((), ((), ((), ((), ((), ((), ((), ((), ((), ((), ((), ((), ((), ((), ((), ((), ((), ((), ((), ((), ((), ((), ((), ((), ((), ((), ((), ((), ((), ((), ((), ((), ((), ((), ((), ((), ((), ((), ((), ((), ((), ((), ((), ((), ((), ()))))))))))))))))))))))))))))))))))))))))))))))))))))))))))))))))))))))), (), (l0, ()))
def f44_p1_o0_x7 (z : f44_p1_o0.den) : Int := z.1.2.2.2.2.2.2.2.1
def f44_p1_o0_l0 (z : f44_p1_o0.den) : List ((Int × List UInt8)) := z.2.2.1
@[simp] theorem f44_p1_o0_x7_y x7 l0 : f44_p1_o0_x7 (f44_p1_o0_y x7 l0) = x7 := id rfl
@[simp] theorem f44_p1_o0_l0_y x7 l0 : f44_p1_o0_l0 (f44_p1_o0_y x7 l0) = l0 := id rfl
def h47_y (x0 : List ((Int × List UInt8))) : h47_I.den := ((x0, ()), (), ())
def h47_o_y (l0 : List ((Int × List UInt8))) : h47_O.den := (((), ()), (), (l0, ()))
def h47_o_l0 (z : h47_O.den) : List ((Int × List UInt8)) := z.2.2.1
@[simp] theorem h47_o_l0_y l0 : h47_o_l0 (h47_o_y l0) = l0 := id rfl
def f45_p0_y (x1 : Int) (x9 : Int) (x10 : Int) (l0 : List ((Int × List UInt8))) : f45_p0_sh.den := (((), (x1, ((), ((), ((), ((), ((), ((), ((), (x9, (x10, ((), ((), ((), ((), ((), ((), ((), ((), ((), ((), ((), ((), ((), ((), ()))))))))))))))))))))))))), (), (l0, ()))
def f45_p0_o0_y (l0 : List ((Int × List UInt8))) : f45_p0_o0.den := (((), ((), ((), ((), ((), ((), ((), ((), ((), ((), ((), ((), ((), ((), ((), ((), ((), ((), ((), ((), ((), ((), ((), ((), ((), ()))))))))))))))))))))))))), (), (l0, ()))
def f45_p0_o0_l0 (z : f45_p0_o0.den) : List ((Int × List UInt8)) := z.2.2.1
def f18_p1_y (x1 : List (List UInt8)) (r0_0 : List (List UInt8)) (r0_1 : List ((Int × List UInt8))) (r0_2 : List (List UInt8)) (r0_3 : List (List UInt8)) (r0_4 : Int) (r0_5 : Int) (r0_6 : Int) : f18_p1_sh.den := (((), (x1, ((), ((), ((), ((), ((), ((), ((), ((), ((), ((), ((), ((), ((), ((), ((), ((), ((), ((), ((), ((), ((), ((), ((), ((), ((), ((), ((), ((), ((), ((), ((), ((), ((), ((), ((), ((), ((), ((), ((), ((), ((), ((), ((), ((), ((), ((), ((), ((), ((), ((), ((), ((), ((), ((), ((), ((), ((), ((), ((), ((), ((), ((), ((), ((), ((), ((), ((), ((), ((), ((), ((), ((), ((), ((), ((), ((), ((), ((), ((), ((), ((), ((), ((), ((), ((), ((), ((), ((), ((), ((), ((), ((), ((), ((), ((), ((), ((), ((), ((), ((), ((), ((), ((), ((), ((), ((), ((), ((), ((), ()))))))))))))))))))))))))))))))))))))))))))))))))))))))))))))))))))))))))))))))))))))))))))))))))))))))))))))))), ((r0_0, (r0_1, (r0_2, (r0_3, (r0_4, (r0_5, (r0_6, ()))))))), ()), ())
def f18_p1_o0_x4 (z : f18_p1_o0.den) : List (List ((Int × List UInt8))) := z.1.2.2.2.2.1
def f18_p1_o0_x5 (z : f18_p1_o0.den) : Int := z.1.2.2.2.2.2.1
def f18_p2_y (x1 : List (List UInt8)) (r0_0 : List (List UInt8)) (r0_1 : List ((Int × List UInt8))) (r0_2 : List (List UInt8)) (r0_3 : List (List UInt8)) (r0_4 : Int) (r0_5 : Int) (r0_6 : Int) : f18_p2_sh.den := (((), (x1, ((), ((), ((), ((), ((), ((), ((), ((), ((), ((), ((), ((), ((), ((), ((), ((), ((), ((), ((), ((), ((), ((), ((), ((), ((), ((), ((), ((), ((), ((), ((), ((), ((), ((), ((), ((), ((), ((), ((), ((), ((), ((), ((), ((), ((), ((), ((), ((), ((), ((), ((), ((), ((), ((), ((), ((), ((), ((), ((), ((), ((), ((), ((), ((), ((), ((), ((), ((), ((), ((), ((), ((), ((), ((), ((), ((), ((), ((), ((), ((), ((), ((), ((), ((), ((), ((), ((), ((), ((), ((), ((), ((), ((), ((), ((), ((), ((), ((), ((), ((), ((), ((), ((), ((), ((), ((), ((), ((), ((), ()))))))))))))))))))))))))))))))))))))))))))))))))))))))))))))))))))))))))))))))))))))))))))))))))))))))))))))))), ((r0_0, (r0_1, (r0_2, (r0_3, (r0_4, (r0_5, (r0_6, ()))))))), ()), ())
def f18_p2_o0_y (x1 : List (List UInt8)) (x22 : Bool) (r0_0 : List (List UInt8)) (r0_1 : List ((Int × List UInt8))) (r0_2 : List (List UInt8)) (r0_3 : List (List UInt8)) (r0_4 : Int) (r0_5 : Int) (r0_6 : Int) : f18_p2_o0.den := (((), (x1, ((), ((), ((), ((), ((), ((), ((), ((), ((), ((), ((), ((), ((), ((), ((), ((), ((), ((), ((), ((), (x22, ((), ((), ((), ((), ((), ((), ((), ((), ((), ((), ((), ((), ((), ((), ((), ((), ((), ((), ((), ((), ((), ((), ((), ((), ((), ((), ((), ((), ((), ((), ((), ((), ((), ((), ((), ((), ((), ((), ((), ((), ((), ((), ((), ((), ((), ((), ((), ((), ((), ((), ((), ((), ((), ((), ((), ((), ((), ((), ((), ((), ((), ((), ((), ((), ((), ((), ((), ((), ((), ((), ((), ((), ((), ((), ((), ((), ((), ((), ((), ((), ((), ((), ((), ((), ((), ((), ((), ((), ()))))))))))))))))))))))))))))))))))))))))))))))))))))))))))))))))))))))))))))))))))))))))))))))))))))))))))))))), ((r0_0, (r0_1, (r0_2, (r0_3, (r0_4, (r0_5, (r0_6, ()))))))), ()), ())
def f18_p2_o0_x1 (z : f18_p2_o0.den) : List (List UInt8) := z.1.2.1
def f18_p2_o0_x22 (z : f18_p2_o0.den) : Bool := z.1.2.2.2.2.2.2.2.2.2.2.2.2.2.2.2.2.2.2.2.2.2.2.1
def f18_p2_o0_r0_0 (z : f18_p2_o0.den) : List (List UInt8) := z.2.1.1.1
def f18_p2_o0_r0_1 (z : f18_p2_o0.den) : List ((Int × List UInt8)) := z.2.1.1.2.1
def f18_p2_o0_r0_2 (z : f18_p2_o0.den) : List (List UInt8) := z.2.1.1.2.2.1
def f18_p2_o0_r0_3 (z : f18_p2_o0.den) : List (List UInt8) := z.2.1.1.2.2.2.1
def f18_p2_o0_r0_4 (z : f18_p2_o0.den) : Int := z.2.1.1.2.2.2.2.1
def f18_p2_o0_r0_5 (z : f18_p2_o0.den) : Int := z.2.1.1.2.2.2.2.2.1
def f18_p2_o0_r0_6 (z : f18_p2_o0.den) : Int := z.2.1.1.2.2.2.2.2.2.1
@[simp] theorem f18_p2_o0_x1_y x1 x22 r0_0 r0_1 r0_2 r0_3 r0_4 r0_5 r0_6 : f18_p2_o0_x1 (f18_p2_o0_y x1 x22 r0_0 r0_1 r0_2 r0_3 r0_4 r0_5 r0_6) = x1 := id rfl
@[simp] theorem f18_p2_o0_x22_y x1 x22 r0_0 r0_1 r0_2 r0_3 r0_4 r0_5 r0_6 : f18_p2_o0_x22 (f18_p2_o0_y x1 x22 r0_0 r0_1 r0_2 r0_3 r0_4 r0_5 r0_6) = x22 := id rfl
@[simp] theorem f18_p2_o0_r0_0_y x1 x22 r0_0 r0_1 r0_2 r0_3 r0_4 r0_5 r0_6 : f18_p2_o0_r0_0 (f18_p2_o0_y x1 x22 r0_0 r0_1 r0_2 r0_3 r0_4 r0_5 r0_6) = r0_0 := id rfl
@[simp] theorem f18_p2_o0_r0_1_y x1 x22 r0_0 r0_1 r0_2 r0_3 r0_4 r0_5 r0_6 : f18_p2_o0_r0_1 (f18_p2_o0_y x1 x22 r0_0 r0_1 r0_2 r0_3 r0_4 r0_5 r0_6) = r0_1 := id rfl
@[simp] theorem f18_p2_o0_r0_2_y x1 x22 r0_0 r0_1 r0_2 r0_3 r0_4 r0_5 r0_6 : f18_p2_o0_r0_2 (f18_p2_o0_y x1 x22 r0_0 r0_1 r0_2 r0_3 r0_4 r0_5 r0_6) = r0_2 := id rfl
@[simp] theorem f18_p2_o0_r0_3_y x1 x22 r0_0 r0_1 r0_2 r0_3 r0_4 r0_5 r0_6 : f18_p2_o0_r0_3 (f18_p2_o0_y x1 x22 r0_0 r0_1 r0_2 r0_3 r0_4 r0_5 r0_6) = r0_3 := id rfl
@[simp] theorem f18_p2_o0_r0_4_y x1 x22 r0_0 r0_1 r0_2 r0_3 r0_4 r0_5 r0_6 : f18_p2_o0_r0_4 (f18_p2_o0_y x1 x22 r0_0 r0_1 r0_2 r0_3 r0_4 r0_5 r0_6) = r0_4 := id rfl
@[simp] theorem f18_p2_o0_r0_5_y x1 x22 r0_0 r0_1 r0_2 r0_3 r0_4 r0_5 r0_6 : f18_p2_o0_r0_5 (f18_p2_o0_y x1 x22 r0_0 r0_1 r0_2 r0_3 r0_4 r0_5 r0_6) = r0_5 := id rfl
@[simp] theorem f18_p2_o0_r0_6_y x1 x22 r0_0 r0_1 r0_2 r0_3 r0_4 r0_5 r0_6 : f18_p2_o0_r0_6 (f18_p2_o0_y x1 x22 r0_0 r0_1 r0_2 r0_3 r0_4 r0_5 r0_6) = r0_6 := id rfl
def f19_p0_y (x1 : Int) (x2 : List UInt8) (r0_0 : List (List UInt8)) (r0_1 : List ((Int × List UInt8))) : f19_p0_sh.den := (((), (x1, (x2, ((), ((), ((), ((), ((), ((), ((), ((), ((), ((), ((), ((), ((), ((), ((), ((), ((), ((), ((), ((), ((), ((), ((), ((), ((), ((), ((), ((), ((), ((), ((), ((), ((), ((), ((), ((), ((), ((), ((), ((), ((), ((), ()))))))))))))))))))))))))))))))))))))))))))))), ((r0_0, (r0_1, ())), (((), ((), ())), ())), ())
def f19_p0_o0_y (x1 : Int) (x2 : List UInt8) (x8 : Bool) (r0_0 : List (List UInt8)) (r0_1 : List ((Int × List UInt8))) : f19_p0_o0.den := (((), (x1, (x2, ((), ((), ((), ((), ((), (x8, ((), ((), ((), ((), ((), ((), ((), ((), ((), ((), ((), ((), ((), ((), ((), ((), ((), ((), ((), ((), ((), ((), ((), ((), ((), ((), ((), ((), ((), ((), ((), ((), ((), ((), ((), ((), ()))))))))))))))))))))))))))))))))))))))))))))), ((r0_0, (r0_1, ())), (((), ((), ())), ())), ())
def f19_p0_o0_x1 (z : f19_p0_o0.den) : Int := z.1.2.1
def f19_p0_o0_x2 (z : f19_p0_o0.den) : List UInt8 := z.1.2.2.1
def f19_p0_o0_x8 (z : f19_p0_o0.den) : Bool := z.1.2.2.2.2.2.2.2.2.1
def f19_p0_o0_r0_0 (z : f19_p0_o0.den) : List (List UInt8) := z.2.1.1.1
def f19_p0_o0_r0_1 (z : f19_p0_o0.den) : List ((Int × List UInt8)) := z.2.1.1.2.1
@[simp] theorem f19_p0_o0_x1_y x1 x2 x8 r0_0 r0_1 : f19_p0_o0_x1 (f19_p0_o0_y x1 x2 x8 r0_0 r0_1) = x1 := id rfl
@[simp] theorem f19_p0_o0_x2_y x1 x2 x8 r0_0 r0_1 : f19_p0_o0_x2 (f19_p0_o0_y x1 x2 x8 r0_0 r0_1) = x2 := id rfl
@[simp] theorem f19_p0_o0_x8_y x1 x2 x8 r0_0 r0_1 : f19_p0_o0_x8 (f19_p0_o0_y x1 x2 x8 r0_0 r0_1) = x8 := id rfl
@[simp] theorem f19_p0_o0_r0_0_y x1 x2 x8 r0_0 r0_1 : f19_p0_o0_r0_0 (f19_p0_o0_y x1 x2 x8 r0_0 r0_1) = r0_0 := id rfl
@[simp] theorem f19_p0_o0_r0_1_y x1 x2 x8 r0_0 r0_1 : f19_p0_o0_r0_1 (f19_p0_o0_y x1 x2 x8 r0_0 r0_1) = r0_1 := id rfl
def h73_y (x0 : List (List UInt8)) : h73_I.den := ((x0, ()), (), ())
def h73_o_y (l0 : List (List UInt8)) : h73_O.den := (((), ()), (), (l0, ()))
def h73_o_l0 (z : h73_O.den) : List (List UInt8) := z.2.2.1
@[simp] theorem h73_o_l0_y l0 : h73_o_l0 (h73_o_y l0) = l0 := id rfl
def h48_y (x0_0 : List (List UInt8)) (x0_1 : List ((Int × List UInt8))) : h48_I.den := (((x0_0, (x0_1, ())), (((), ()), ())), (), ())
def h48_o_y (l0 : List (List UInt8)) : h48_O.den := ((((), ((), ())), ()), (), (l0, ()))
def h48_o_l0 (z : h48_O.den) : List (List UInt8) := z.2.2.1
@[simp] theorem h48_o_l0_y l0 : h48_o_l0 (h48_o_y l0) = l0 := id rfl
def h48_p0_y (x12 : List ((Int × List UInt8))) (x13 : Int) (x14 : Int) (l0 : List (List UInt8)) : h48_p0_sh.den := (((), (((), ()), ((), ((), ((), ((), ((), ((), ((), ((), ((), ((), (x12, (x13, (x14, ((), ((), ((), ((), ((), ((), ((), ((), ((), ((), ((), ((), ((), ((), ((), ((), ()))))))))))))))))))))))))))))))), (((), ((), ())), ()), (l0, ()))
def h48_p0_o0_y (x12 : List ((Int × List UInt8))) (x13 : Int) (x14 : Int) (l0 : List (List UInt8)) : h48_p0_o0.den := (((), (((), ()), ((), ((), ((), ((), ((), ((), ((), ((), ((), ((), (x12, (x13, (x14, ((), ((), ((), ((), ((), ((), ((), ((), ((), ((), ((), ((), ((), ((), ((), ((), ()))))))))))))))))))))))))))))))), (((), ((), ())), ()), (l0, ()))
def h48_p0_o0_x12 (z : h48_p0_o0.den) : List ((Int × List UInt8)) := z.1.2.2.2.2.2.2.2.2.2.2.2.2.1
def h48_p0_o0_x13 (z : h48_p0_o0.den) : Int := z.1.2.2.2.2.2.2.2.2.2.2.2.2.2.1
def h48_p0_o0_x14 (z : h48_p0_o0.den) : Int := z.1.2.2.2.2.2.2.2.2.2.2.2.2.2.2.1
def h48_p0_o0_l0 (z : h48_p0_o0.den) : List (List UInt8) := z.2.2.1
@[simp] theorem h48_p0_o0_x12_y x12 x13 x14 l0 : h48_p0_o0_x12 (h48_p0_o0_y x12 x13 x14 l0) = x12 := id rfl
@[simp] theorem h48_p0_o0_x13_y x12 x13 x14 l0 : h48_p0_o0_x13 (h48_p0_o0_y x12 x13 x14 l0) = x13 := id rfl
@[simp] theorem h48_p0_o0_x14_y x12 x13 x14 l0 : h48_p0_o0_x14 (h48_p0_o0_y x12 x13 x14 l0) = x14 := id rfl
@[simp] theorem h48_p0_o0_l0_y x12 x13 x14 l0 : h48_p0_o0_l0 (h48_p0_o0_y x12 x13 x14 l0) = l0 := id rfl
def h48_p1_y (x12 : List ((Int × List UInt8))) (x13 : Int) (x14 : Int) (l0 : List (List UInt8)) : h48_p1_sh.den := (((), (((), ()), ((), ((), ((), ((), ((), ((), ((), ((), ((), ((), (x12, (x13, (x14, ((), ((), ((), ((), ((), ((), ((), ((), ((), ((), ((), ((), ((), ((), ((), ((), ()))))))))))))))))))))))))))))))), (((), ((), ())), ()), (l0, ()))
def h48_p1_o0_y (l0 : List (List UInt8)) : h48_p1_o0.den := (((), ((), ((), ((), ((), ((), ((), ((), ((), ((), ((), ((), ((), ((), ((), ((), ((), ((), ((), ((), ((), ((), ((), ((), ((), ((), ((), ((), ((), ((), ((), ()))))))))))))))))))))))))))))))), (((), ((), ())), ()), (l0, ()))
def h48_p1_o0_l0 (z : h48_p1_o0.den) : List (List UInt8) := z.2.2.1
def f10_p0_y (x25 : List (List ((Int × List UInt8)))) (x26 : Int) (x27 : Int) (x31 : List ((Int × List UInt8))) (x32 : Int) (x33 : Int) (r1_4 : Int) (r1_5 : Int) (r1_6 : Int) (r2_0 : List (List UInt8)) (r2_1 : List ((Int × List UInt8))) : f10_p0_sh.den := (((), ((), ((), ((), ((), ((), ((), ((), ((), ((), ((), ((), ((), ((), ((), ((), ((), ((), ((), ((), ((), ((), ((), ((), ((), (x25, (x26, (x27, ((), ((), ((), (x31, (x32, (x33, ((), ((), ((), ((), ((), ((), ((), ((), ((), ((), ((), ((), ((), ((), ((), ((), ((), ((), ((), ((), ((), ((), ((), ()))))))))))))))))))))))))))))))))))))))))))))))))))))))))), (((), ((), ((), ((), (r1_4, (r1_5, (r1_6, ()))))))), ((r2_0, (r2_1, ())), ())), ())
def f10_p0_o0_y (x25 : List (List ((Int × List UInt8)))) (x26 : Int) (x27 : Int) (r1_4 : Int) (r1_5 : Int) (r1_6 : Int) (r2_0 : List (List UInt8)) (r2_1 : List ((Int × List UInt8))) : f10_p0_o0.den := (((), ((), ((), ((), ((), ((), ((), ((), ((), ((), ((), ((), ((), ((), ((), ((), ((), ((), ((), ((), ((), ((), ((), ((), ((), (x25, (x26, (x27, ((), ((), ((), ((), ((), ((), ((), ((), ((), ((), ((), ((), ((), ((), ((), ((), ((), ((), ((), ((), ((), ((), ((), ((), ((), ((), ((), ((), ((), ()))))))))))))))))))))))))))))))))))))))))))))))))))))))))), (((), ((), ((), ((), (r1_4, (r1_5, (r1_6, ()))))))), ((r2_0, (r2_1, ())), ())), ())
def f10_p0_o0_x25 (z : f10_p0_o0.den) : List (List ((Int × List UInt8))) := z.1.2.2.2.2.2.2.2.2.2.2.2.2.2.2.2.2.2.2.2.2.2.2.2.2.2.1
def f10_p0_o0_x26 (z : f10_p0_o0.den) : Int := z.1.2.2.2.2.2.2.2.2.2.2.2.2.2.2.2.2.2.2.2.2.2.2.2.2.2.2.1
def f10_p0_o0_x27 (z : f10_p0_o0.den) : Int := z.1.2.2.2.2.2.2.2.2.2.2.2.2.2.2.2.2.2.2.2.2.2.2.2.2.2.2.2.1
def f10_p0_o0_r1_4 (z : f10_p0_o0.den) : Int := z.2.1.1.2.2.2.2.1
def f10_p0_o0_r1_5 (z : f10_p0_o0.den) : Int := z.2.1.1.2.2.2.2.2.1
def f10_p0_o0_r1_6 (z : f10_p0_o0.den) : Int := z.2.1.1.2.2.2.2.2.2.1
def f10_p0_o0_r2_0 (z : f10_p0_o0.den) : List (List UInt8) := z.2.1.2.1.1
def f10_p0_o0_r2_1 (z : f10_p0_o0.den) : List ((Int × List UInt8)) := z.2.1.2.1.2.1
@[simp] theorem f10_p0_o0_x25_y x25 x26 x27 r1_4 r1_5 r1_6 r2_0 r2_1 : f10_p0_o0_x25 (f10_p0_o0_y x25 x26 x27 r1_4 r1_5 r1_6 r2_0 r2_1) = x25 := id rfl
@[simp] theorem f10_p0_o0_x26_y x25 x26 x27 r1_4 r1_5 r1_6 r2_0 r2_1 : f10_p0_o0_x26 (f10_p0_o0_y x25 x26 x27 r1_4 r1_5 r1_6 r2_0 r2_1) = x26 := id rfl
@[simp] theorem f10_p0_o0_x27_y x25 x26 x27 r1_4 r1_5 r1_6 r2_0 r2_1 : f10_p0_o0_x27 (f10_p0_o0_y x25 x26 x27 r1_4 r1_5 r1_6 r2_0 r2_1) = x27 := id rfl
@[simp] theorem f10_p0_o0_r1_4_y x25 x26 x27 r1_4 r1_5 r1_6 r2_0 r2_1 : f10_p0_o0_r1_4 (f10_p0_o0_y x25 x26 x27 r1_4 r1_5 r1_6 r2_0 r2_1) = r1_4 := id rfl
@[simp] theorem f10_p0_o0_r1_5_y x25 x26 x27 r1_4 r1_5 r1_6 r2_0 r2_1 : f10_p0_o0_r1_5 (f10_p0_o0_y x25 x26 x27 r1_4 r1_5 r1_6 r2_0 r2_1) = r1_5 := id rfl
@[simp] theorem f10_p0_o0_r1_6_y x25 x26 x27 r1_4 r1_5 r1_6 r2_0 r2_1 : f10_p0_o0_r1_6 (f10_p0_o0_y x25 x26 x27 r1_4 r1_5 r1_6 r2_0 r2_1) = r1_6 := id rfl
@[simp] theorem f10_p0_o0_r2_0_y x25 x26 x27 r1_4 r1_5 r1_6 r2_0 r2_1 : f10_p0_o0_r2_0 (f10_p0_o0_y x25 x26 x27 r1_4 r1_5 r1_6 r2_0 r2_1) = r2_0 := id rfl
@[simp] theorem f10_p0_o0_r2_1_y x25 x26 x27 r1_4 r1_5 r1_6 r2_0 r2_1 : f10_p0_o0_r2_1 (f10_p0_o0_y x25 x26 x27 r1_4 r1_5 r1_6 r2_0 r2_1) = r2_1 := id rfl
def f10_p1_y (x25 : List (List ((Int × List UInt8)))) (x26 : Int) (x27 : Int) (r1_4 : Int) (r1_5 : Int) (r1_6 : Int) (r2_0 : List (List UInt8)) (r2_1 : List ((Int × List UInt8))) : f10_p1_sh.den := (((), ((), ((), ((), ((), ((), ((), ((), ((), ((), ((), ((), ((), ((), ((), ((), ((), ((), ((), ((), ((), ((), ((), ((), ((), (x25, (x26, (x27, ((), ((), ((), ((), ((), ((), ((), ((), ((), ((), ((), ((), ((), ((), ((), ((), ((), ((), ((), ((), ((), ((), ((), ((), ((), ((), ((), ((), ((), ()))))))))))))))))))))))))))))))))))))))))))))))))))))))))), (((), ((), ((), ((), (r1_4, (r1_5, (r1_6, ()))))))), ((r2_0, (r2_1, ())), ())), ())
def f10_p1_o0_y (r1_4 : Int) (r1_5 : Int) (r1_6 : Int) (r2_0 : List (List UInt8)) (r2_1 : List ((Int × List UInt8))) : f10_p1_o0.den := (((), ((), ((), ((), ((), ((), ((), ((), ((), ((), ((), ((), ((), ((), ((), ((), ((), ((), ((), ((), ((), ((), ((), ((), ((), ((), ((), ((), ((), ((), ((), ((), ((), ((), ((), ((), ((), ((), ((), ((), ((), ((), ((), ((), ((), ((), ((), ((), ((), ((), ((), ((), ((), ((), ((), ((), ((), ()))))))))))))))))))))))))))))))))))))))))))))))))))))))))), (((), ((), ((), ((), (r1_4, (r1_5, (r1_6, ()))))))), ((r2_0, (r2_1, ())), ())), ())
def f10_p1_o0_r2_0 (z : f10_p1_o0.den) : List (List UInt8) := z.2.1.2.1.1
def f10_p1_o0_r2_1 (z : f10_p1_o0.den) : List ((Int × List UInt8)) := z.2.1.2.1.2.1
@[simp] theorem f10_p1_o0_r2_0_y r1_4 r1_5 r1_6 r2_0 r2_1 : f10_p1_o0_r2_0 (f10_p1_o0_y r1_4 r1_5 r1_6 r2_0 r2_1) = r2_0 := id rfl
@[simp] theorem f10_p1_o0_r2_1_y r1_4 r1_5 r1_6 r2_0 r2_1 : f10_p1_o0_r2_1 (f10_p1_o0_y r1_4 r1_5 r1_6 r2_0 r2_1) = r2_1 := id rfl
def f33_p0_y (x0 : List (List UInt8)) (x1 : List UInt8) (x6 : Int) (x7 : Int) (x8 : Int) : f33_p0_sh.den := ((x0, (x1, ((), ((), ((), ((), (x6, (x7, (x8, ((), ((), ((), ((), ((), ((), ((), ((), ((), ((), ((), ((), ((), ((), ((), ((), ((), ((), ((), ((), ((), ((), ((), ((), ((), ((), ((), ((), ((), ((), ((), ((), ((), ((), ((), ((), ((), ((), ((), ((), ((), ((), ((), ((), ((), ())))))))))))))))))))))))))))))))))))))))))))))))))))))), (), ())
def f33_p0_o0_y (x0 : List (List UInt8)) (x1 : List UInt8) (x6 : Int) (x7 : Int) : f33_p0_o0.den := ((x0, (x1, ((), ((), ((), ((), (x6, (x7, ((), ((), ((), ((), ((), ((), ((), ((), ((), ((), ((), ((), ((), ((), ((), ((), ((), ((), ((), ((), ((), ((), ((), ((), ((), ((), ((), ((), ((), ((), ((), ((), ((), ((), ((), ((), ((), ((), ((), ((), ((), ((), ((), ((), ((), ((), ())))))))))))))))))))))))))))))))))))))))))))))))))))))), (), ())
def f33_p0_o0_x0 (z : f33_p0_o0.den) : List (List UInt8) := z.1.1
def f33_p0_o0_x1 (z : f33_p0_o0.den) : List UInt8 := z.1.2.1
def f33_p0_o0_x6 (z : f33_p0_o0.den) : Int := z.1.2.2.2.2.2.2.1
def f33_p0_o0_x7 (z : f33_p0_o0.den) : Int := z.1.2.2.2.2.2.2.2.1
def f4_p0_y (x1 : List UInt8) (x3 : List UInt8) (x10 : Int) (x12 : Int) (r1_0 : List (List UInt8)) (r1_1 : List ((Int × List UInt8))) (r1_2 : List (List UInt8)) (r1_3 : List (List UInt8)) (r1_4 : Int) (r1_5 : Int) (r1_6 : Int) : f4_p0_sh.den := (((), (x1, ((), (x3, ((), ((), ((), ((), ((), ((), (x10, ((), (x12, ((), ((), ((), ((), ((), ((), ((), ((), ((), ((), ((), ((), ((), ((), ((), ((), ((), ((), ((), ((), ((), ((), ((), ((), ((), ((), ((), ((), ((), ((), ((), ((), ((), ((), ((), ((), ((), ((), ((), ((), ((), ((), ((), ((), ((), ((), ((), ((), ((), ((), ((), ((), ((), ((), ((), ((), ((), ((), ((), ((), ((), ((), ((), ((), ((), ((), ((), ((), ((), ((), ((), ((), ((), ((), ((), ((), ((), ((), ((), ((), ((), ((), ((), ((), ((), ((), ((), ((), ((), ((), ((), ((), ((), ((), ((), ((), ((), ((), ((), ((), ((), ((), ((), ((), ((), ((), ((), ((), ((), ((), ((), ((), ((), ((), ()))))))))))))))))))))))))))))))))))))))))))))))))))))))))))))))))))))))))))))))))))))))))))))))))))))))))))))))))))))))))))))))), ((r1_0, (r1_1, (r1_2, (r1_3, (r1_4, (r1_5, (r1_6, ()))))))), ()), ())
def f4_p0_o0_y (x8 : Bool) : f4_p0_o0.den := (((), ((), ((), ((), ((), ((), ((), ((), (x8, ((), ((), ((), ((), ((), ((), ((), ((), ((), ((), ((), ((), ((), ((), ((), ((), ((), ((), ((), ((), ((), ((), ((), ((), ((), ((), ((), ((), ((), ((), ((), ((), ((), ((), ((), ((), ((), ((), ((), ((), ((), ((), ((), ((), ((), ((), ((), ((), ((), ((), ((), ((), ((), ((), ((), ((), ((), ((), ((), ((), ((), ((), ((), ((), ((), ((), ((), ((), ((), ((), ((), ((), ((), ((), ((), ((), ((), ((), ((), ((), ((), ((), ((), ((), ((), ((), ((), ((), ((), ((), ((), ((), ((), ((), ((), ((), ((), ((), ((), ((), ((), ((), ((), ((), ((), ((), ((), ((), ((), ((), ((), ((), ((), ((), ((), ((), ((), ((), ()))))))))))))))))))))))))))))))))))))))))))))))))))))))))))))))))))))))))))))))))))))))))))))))))))))))))))))))))))))))))))))))), (), ())
def f4_p0_o0_x8 (z : f4_p0_o0.den) : Bool := z.1.2.2.2.2.2.2.2.2.1
end Go.Pe.Try
end
section
namespace Go.Pe.Try
open Go.Proofs Go.RowKit
set_option maxRecDepth 100000
set_option linter.unusedVariables false
theorem h22_p0_eq x0 : h22_p0_F (h22_p0_y x0) = (bif (decide (x0 < (4 : Int))) then (some ((h22_p0_o0_y x0 true))) else (some ((h22_p0_o0_y x0 (decide (x0 > (64 : Int))))))) := by kernel_rfl
theorem h22_eq x0 : h22_F (h22_y x0) = ((h22_p0_F (h22_p0_y x0)).bind fun o1 => bif (h22_p0_o0_x10 o1) then (some (h22_o_y (1 : Int) ([] : List (List UInt8)))) else ((repeatF (([0] : List UInt8), ((128 : Int), ()))).bind fun r2 => (h51_F (h51_y [r2.1] (h22_p0_o0_x0 o1))).bind fun z3 => some (h22_o_y (0 : Int) (h51_o_l0 z3)))) := by kernel_rfl
theorem f52_p0_eq rec x0 x1 x28 x29 l0 : f52_p0_st rec (f52_p0_y x0 x1 x28 x29 l0) = (bif (decide (x29 < x28)) then (if (IntKind.i64.wrap ((8 : Int) * x29)) < 0 then none else (within (IntKind.i64.wrap ((IntKind.i64.wrap (x1 - (1 : Int))) - x29)) l0.length ((l0[(Int.toNat (IntKind.i64.wrap ((IntKind.i64.wrap (x1 - (1 : Int))) - x29)))]?).bind fun e4 => rec (f52_p0_y x0 x1 x28 (IntKind.i64.wrap (x29 + (1 : Int))) (l0.set (Int.toNat (IntKind.i64.wrap ((IntKind.i64.wrap (x1 - (1 : Int))) - x29))) (IntKind.u8.wrap (Int.fdiv x0 (2 ^ (min (Int.toNat (IntKind.i64.wrap ((8 : Int) * x29))) 64))))))))) else (some ((f52_p0_o0_y l0)))) := by kernel_rfl
theorem f52_p1_eq x0 x1 : f52_p1_F (f52_p1_y x0 x1) = (bif (decide (x1 < (0 : Int))) then (some ((f52_p1_o0_y x0 x1 true))) else (bif (decide (x1 > (8 : Int))) then (some ((f52_p1_o0_y x0 x1 true))) else (bif (decide (x1 < (8 : Int))) then (if (IntKind.i64.wrap ((8 : Int) * x1)) < 0 then none else (some ((f52_p1_o0_y x0 x1 ((Int.fdiv x0 (2 ^ (min (Int.toNat (IntKind.i64.wrap ((8 : Int) * x1))) 64))) != (0 : Int)))))) else (some ((f52_p1_o0_y x0 x1 false)))))) := by kernel_rfl
theorem f52_eq a0 a1 : f52_F (a0, (a1, ())) = ((f52_p1_F (f52_p1_y a0 a1)).bind fun o5 => bif (f52_p1_o0_x24 o5) then (some (([] : List UInt8), ((1 : Int), ()))) else (makeOk (f52_p1_o0_x1 o5) (f52_p1_o0_x1 o5) ((go f52_p0_st (f52_p0_y (f52_p1_o0_x0 o5) (f52_p1_o0_x1 o5) ((List.replicate (Int.toNat (f52_p1_o0_x1 o5)) (0 : Int)).length : Int) (0 : Int) (List.replicate (Int.toNat (f52_p1_o0_x1 o5)) (0 : Int)))).bind fun o6 => some ((strOf (f52_p0_o0_l0 o6)), ((0 : Int), ()))))) := by kernel_rfl
theorem h37a_eq x1 l0 : h37a_F (h37a_y x1 l0) = ((h71_F (h71_y l0)).bind fun z8 => appOk ((h71_o_l0 z8).length + (bytesOf x1).length) (some (h37a_o_y (x1.length : Int) ((h71_o_l0 z8) ++ (bytesOf x1))))) := by kernel_rfl
theorem h38a_eq l0 : h38a_F (h38a_y l0) = (some (h38a_o_y (l0.length : Int) l0)) := by kernel_rfl
theorem f42_p0_eq x6 x12 x13 x14 l0 : f42_p0_F (f42_p0_y x6 x12 x13 x14 l0) = (bif (decide ((x6.length : Int) > (65536 : Int))) then (some ((f42_p0_o0_y x6 x12 x13 x14 true l0))) else ((h38a_F (h38a_y l0)).bind fun z9 => some ((f42_p0_o0_y x6 x12 x13 x14 (decide ((IntKind.i64.wrap ((IntKind.i64.wrap ((h38a_o_x0 z9) + (4 : Int))) + (x6.length : Int))) > (65536 : Int))) (h38a_o_l0 z9))))) := by kernel_rfl
theorem f42_p1_eq rec x12 x13 x14 l0 : f42_p1_st rec (f42_p1_y x12 x13 x14 l0) = (bif (decide (x14 < x13)) then ((nth x12 x14).bind fun y10 => (f42_p0_F (f42_p0_y y10 x12 x13 x14 l0)).bind fun o11 => bif (f42_p0_o0_x28 o11) then (some (.inr ((f42_p1_o1_y ([] : List UInt8) (2 : Int))))) else ((f52_F ((IntKind.u64.wrap ((f42_p0_o0_x6 o11).length : Int)), ((4 : Int), ()))).bind fun r12 => (h37a_F (h37a_y r12.1 (f42_p0_o0_l0 o11))).bind fun z13 => (h37a_F (h37a_y (f42_p0_o0_x6 o11) (h37a_o_l0 z13))).bind fun z14 => rec (f42_p1_y (f42_p0_o0_x12 o11) (f42_p0_o0_x13 o11) (IntKind.i64.wrap ((f42_p0_o0_x14 o11) + (1 : Int))) (h37a_o_l0 z14)))) else (some (.inl (f42_p1_o0_y l0)))) := by kernel_rfl
theorem f42_eq a0 : f42_F (a0, ()) = (bif (decide ((a0.length : Int) > (64 : Int))) then (some (([] : List UInt8), ((22 : Int), ()))) else ((go f42_p1_st (f42_p1_y a0 (a0.length : Int) (0 : Int) ([] : List (Int)))).bind fun o15 => (match o15 with | .inl z16 => (h39_F (h39_y (f42_p1_o0_l0 z16))).bind fun z18 => some ((h39_o_x0 z18), ((0 : Int), ())) | .inr o17 => some ((f42_p1_o1_x2 o17), ((f42_p1_o1_x3 o17), ()))))) := by kernel_rfl
theorem f23_eq a0 a1 : f23_F (a0, (a1, ())) = ((f52_F ((IntKind.u64.wrap a0), ((8 : Int), ()))).bind fun r19 => (f52_F ((IntKind.u64.wrap a1), ((4 : Int), ()))).bind fun r20 => (f42_F ([([107, 118] : List UInt8), r19.1, r20.1], ())).bind fun r21 => (repeatF (([0] : List UInt8), ((IntKind.i64.wrap ((128 : Int) - (r21.1.length : Int))), ()))).bind fun r22 => if r21.1.length + r22.1.length ≤ 4611686018427387904 then (some ((r21.1 ++ r22.1), ())) else none) := by kernel_rfl
theorem f54_eq a0 : f54_F (a0, ()) = (some (((a0.length : Int) != (128 : Int)), ())) := by kernel_rfl
theorem h74_p0_eq rec x0 x7 x8 : h74_p0_st rec (h74_p0_y x0 x7 x8) = (bif (decide (x8 < x7)) then ((nth x0 x8).bind fun y23 => (f54_F (y23, ())).bind fun r24 => bif r24.1 then (some (.inr ((h74_p0_o1_y x8)))) else (rec (h74_p0_y x0 x7 (IntKind.i64.wrap (x8 + (1 : Int)))))) else (some (.inl h74_p0_o0_y))) := by kernel_rfl
theorem h74_eq x0 : h74_F (h74_y x0) = ((go h74_p0_st (h74_p0_y x0 (x0.length : Int) (0 : Int))).bind fun o25 => (match o25 with | .inl z26 => some (h74_o_y (-1 : Int)) | .inr o27 => some (h74_o_y (h74_p0_o1_x4 o27)))) := by kernel_rfl
theorem h56_eq x0 : h56_F (h56_y x0) = ((h74_F (h74_y x0)).bind fun z28 => some (h56_o_y (decide ((h74_o_x0 z28) ≥ (0 : Int))))) := by kernel_rfl
theorem h55_eq x0_0 x0_1 r0_0 : h55_F (h55_y x0_0 x0_1 r0_0) = (bif (decide (x0_0 < (0 : Int))) then (some (h55_o_y true r0_0)) else (bif (decide (x0_0 ≥ r0_0)) then (some (h55_o_y true r0_0)) else ((f54_F (x0_1, ())).bind fun r29 => some (h55_o_y r29.1 r0_0)))) := by kernel_rfl
theorem h75_p0_eq rec x0 x7 x8 r0_0 : h75_p0_st rec (h75_p0_y x0 x7 x8 r0_0) = (bif (decide (x8 < x7)) then ((nth x0 x8).bind fun y30 => (h55_F (h55_y y30.1 y30.2 r0_0)).bind fun z31 => bif (h55_o_x0 z31) then (some (.inr ((h75_p0_o1_y x8 (h55_o_r0_0 z31))))) else (rec (h75_p0_y x0 x7 (IntKind.i64.wrap (x8 + (1 : Int))) (h55_o_r0_0 z31)))) else (some (.inl (h75_p0_o0_y r0_0)))) := by kernel_rfl
theorem h75_eq x0 r0_0 : h75_F (h75_y x0 r0_0) = ((go h75_p0_st (h75_p0_y x0 (x0.length : Int) (0 : Int) r0_0)).bind fun o32 => (match o32 with | .inl z33 => some (h75_o_y (-1 : Int) (h75_p0_o0_r0_0 z33)) | .inr o34 => some (h75_o_y (h75_p0_o1_x4 o34) (h75_p0_o1_r0_0 o34)))) := by kernel_rfl
theorem h57_eq x0 r0_0 : h57_F (h57_y x0 r0_0) = ((h75_F (h75_y x0 r0_0)).bind fun z35 => some (h57_o_y (decide ((h75_o_x0 z35) ≥ (0 : Int))) (h75_o_r0_0 z35))) := by kernel_rfl
theorem f25_p0_eq r0_0 r0_1 r1_0 : f25_p0_F (f25_p0_y r0_0 r0_1 r1_0) = (bif (decide (r1_0 < (4 : Int))) then (some ((f25_p0_o0_y true r0_0 r0_1 r1_0))) else (bif (decide (r1_0 > (64 : Int))) then (some ((f25_p0_o0_y true r0_0 r0_1 r1_0))) else (some ((f25_p0_o0_y (decide ((r0_1.length : Int) > (200 : Int))) r0_0 r0_1 r1_0))))) := by kernel_rfl
theorem f25_eq a0_0 a0_1 : f25_F ((a0_0, (a0_1, ())), ()) = ((f25_p0_F (f25_p0_y a0_0 a0_1 (a0_0.length : Int))).bind fun o36 => bif (f25_p0_o0_x20 o36) then (some (false, ())) else ((h56_F (h56_y (f25_p0_o0_r0_0 o36))).bind fun z37 => bif (!(h56_o_x0 z37)) then ((h57_F (h57_y (f25_p0_o0_r0_1 o36) (f25_p0_o0_r1_0 o36))).bind fun z38 => some ((!(h57_o_x0 z38)), ())) else (some (false, ())))) := by kernel_rfl
theorem f27_eq a0_0 a0_1 a1 : f27_F ((a0_0, (a0_1, ())), (a1, ())) = (cutMid a0_0 (IntKind.i64.wrap ((IntKind.i64.wrap (a1 * (IntKind.i64.wrap (Int.tdiv (a0_0.length : Int) (2 : Int))))) + (1 : Int))) (IntKind.i64.wrap ((IntKind.i64.wrap (a1 + (1 : Int))) * (IntKind.i64.wrap (Int.tdiv (a0_0.length : Int) (2 : Int))))) fun s39 => some ((IntKind.i64.wrap (a1 * (IntKind.i64.wrap (Int.tdiv (a0_0.length : Int) (2 : Int))))), (s39, ()))) := by kernel_rfl
theorem f59_p0_eq rec x0 x4 x10 x11 : f59_p0_st rec (f59_p0_y x0 x4 x10 x11) = (bif (decide (x11 < x10)) then ((nth x0 x11).bind fun c40 => rec (f59_p0_y x0 (IntKind.u64.wrap (((BitVec.ofInt 64 (IntKind.u64.wrap (x4 * 2 ^ (min (Int.toNat (8 : Int)) 64))) ||| BitVec.ofInt 64 (IntKind.u64.wrap (c40.toNat : Int))).toNat : Int))) x10 (IntKind.i64.wrap (x11 + (1 : Int))))) else (some ((f59_p0_o0_y x4)))) := by kernel_rfl
theorem f59_eq a0 : f59_F (a0, ()) = (bif (decide ((a0.length : Int) > (8 : Int))) then (some ((0 : Int), ((1 : Int), ()))) else ((go f59_p0_st (f59_p0_y a0 (0 : Int) (a0.length : Int) (0 : Int))).bind fun o41 => some ((f59_p0_o0_x4 o41), ((0 : Int), ())))) := by kernel_rfl
theorem f58_p0_eq rec x0 l0 : f58_p0_st rec (f58_p0_y x0 l0) = (bif (x0 != ([] : List UInt8)) then (bif ((l0.length : Int) == (64 : Int)) then (some (.inr ((f58_p0_o1_y (22 : Int))))) else (bif (decide ((x0.length : Int) < (4 : Int))) then (some (.inr ((f58_p0_o1_y (3 : Int))))) else (cutHi x0 (4 : Int) fun s42 => (f59_F (s42, ())).bind fun r43 => cutLo x0 (4 : Int) fun s44 => bif (decide (r43.1 > (IntKind.u64.wrap (s44.length : Int)))) then (some (.inr ((f58_p0_o1_y (3 : Int))))) else (cutHi s44 r43.1 fun s45 => appOk (l0.length + [s45].length) (cutLo s44 r43.1 fun s46 => rec (f58_p0_y s46 (l0 ++ [s45]))))))) else (some (.inl (f58_p0_o0_y l0)))) := by kernel_rfl
theorem f58_eq a0 : f58_F (a0, ()) = (bif (decide ((a0.length : Int) > (65536 : Int))) then (some (([] : List (List UInt8)), ((2 : Int), ()))) else ((go f58_p0_st (f58_p0_y a0 ([] : List (List UInt8)))).bind fun o47 => (match o47 with | .inl z48 => some ((f58_p0_o0_l0 z48), ((0 : Int), ())) | .inr o49 => some (([] : List (List UInt8)), ((f58_p0_o1_x3 o49), ()))))) := by kernel_rfl
theorem f26_p0_eq x7 x8 x12 x14 : f26_p0_F (f26_p0_y x7 x8 x12 x14) = (bif (decide (x12 < (1 : Int))) then (some ((f26_p0_o0_y x12 x14 true))) else (bif (decide (x12 > (1099511627776 : Int))) then (some ((f26_p0_o0_y x12 x14 true))) else (bif (decide (x14 > (IntKind.u64.wrap (IntKind.i64.wrap ((x7.length : Int) * (128 : Int)))))) then (some ((f26_p0_o0_y x12 x14 true))) else ((f23_F ((IntKind.i64.wrap x12), ((IntKind.i64.wrap x14), ()))).bind fun r50 => some ((f26_p0_o0_y x12 x14 (r50.1 != x8))))))) := by kernel_rfl
theorem f26_p1_eq x7 x8 x10 x12 : f26_p1_F (f26_p1_y x7 x8 x10 x12) = ((nth x10 (2 : Int)).bind fun y51 => (f59_F (y51, ())).bind fun r52 => (f26_p0_F (f26_p0_y x7 x8 x12 r52.1)).bind fun o53 => bif (f26_p0_o0_x73 o53) then (some ((f26_p1_o0_y (0 : Int) (0 : Int)))) else (some ((f26_p1_o0_y (IntKind.i64.wrap (f26_p0_o0_x12 o53)) (IntKind.i64.wrap (f26_p0_o0_x14 o53)))))) := by kernel_rfl
theorem f26_eq a0_0 a0_1 a1 : f26_F ((a0_0, (a0_1, ())), (a1, ())) = ((f27_F ((a0_0, (a0_1, ())), (a1, ()))).bind fun r54 => (nth a0_0 r54.1).bind fun y55 => cutHi y55 (26 : Int) fun s56 => (f58_F (s56, ())).bind fun r57 => bif ((r57.1.length : Int) != (3 : Int)) then (some ((0 : Int), ((0 : Int), ()))) else ((nth r57.1 (1 : Int)).bind fun y58 => (f59_F (y58, ())).bind fun r59 => (f26_p1_F (f26_p1_y r54.2.1 y55 r57.1 r59.1)).bind fun o60 => some ((f26_p1_o0_x4 o60), ((f26_p1_o0_x5 o60), ())))) := by kernel_rfl
theorem f76_eq a0 : f76_F (a0, ()) = (some (((a0.length : Int) != (128 : Int)), ())) := by kernel_rfl
theorem h74a_p0_eq rec x0 x7 x8 : h74a_p0_st rec (h74a_p0_y x0 x7 x8) = (bif (decide (x8 < x7)) then ((nth x0 x8).bind fun y61 => (f76_F (y61, ())).bind fun r62 => bif r62.1 then (some (.inr ((h74a_p0_o1_y x8)))) else (rec (h74a_p0_y x0 x7 (IntKind.i64.wrap (x8 + (1 : Int)))))) else (some (.inl h74a_p0_o0_y))) := by kernel_rfl
theorem h74a_eq x0 : h74a_F (h74a_y x0) = ((go h74a_p0_st (h74a_p0_y x0 (x0.length : Int) (0 : Int))).bind fun o63 => (match o63 with | .inl z64 => some (h74a_o_y (-1 : Int)) | .inr o65 => some (h74a_o_y (h74a_p0_o1_x4 o65)))) := by kernel_rfl
end Go.Pe.Try
end
section
namespace Go.Pe.Try
open Go.Proofs Go.RowKit
set_option maxRecDepth 100000
set_option linter.unusedVariables false
theorem h56a_eq x0 : h56a_F (h56a_y x0) = ((h74a_F (h74a_y x0)).bind fun z66 => some (h56a_o_y (decide ((h74a_o_x0 z66) ≥ (0 : Int))))) := by kernel_rfl
theorem f60_eq a0_0 a0_1 : f60_F ((a0_0, (a0_1, ())), ()) = (bif (decide ((a0_0.length : Int) ≤ (64 : Int))) then ((h56a_F (h56a_y a0_0)).bind fun z67 => bif (!(h56a_o_x0 z67)) then (bif (decide (a0_1 ≥ (0 : Int))) then (some ((decide (a0_1 ≤ (IntKind.i64.wrap ((a0_0.length : Int) * (128 : Int))))), ())) else (some (false, ()))) else (some (false, ()))) else (some (false, ()))) := by kernel_rfl
theorem f61_eq a0_0 : f61_F ((a0_0, ()), ()) = ((joinF (a0_0, (([] : List UInt8), ()))).bind fun r68 => some (r68.1, ())) := by kernel_rfl
theorem f28_eq a0 a1 : f28_F (a0, (a1, ())) = ((f60_F ((a0, (a1, ())), ())).bind fun r69 => bif (!r69.1) then (some (([] : List UInt8), ((1 : Int), ()))) else ((f61_F ((a0, ()), ())).bind fun r70 => cutHi r70.1 a1 fun s71 => some (s71, ((0 : Int), ())))) := by kernel_rfl
theorem f62_p0_eq x0 x5 l0 : f62_p0_F (f62_p0_y x0 x5 l0) = (bif (decide (x5 > (4096 : Int))) then (some ((f62_p0_o0_y x0 x5 true l0))) else (some ((f62_p0_o0_y x0 x5 (decide (x5 > (IntKind.u64.wrap (x0.length : Int)))) l0)))) := by kernel_rfl
theorem f62_p1_eq rec x0 l0 : f62_p1_st rec (f62_p1_y x0 l0) = (bif (x0 != ([] : List UInt8)) then (bif (decide ((x0.length : Int) < (4 : Int))) then (some (.inr ((f62_p1_o1_y (41 : Int))))) else (cutHi x0 (4 : Int) fun s72 => (f59_F (s72, ())).bind fun r73 => cutLo x0 (4 : Int) fun s74 => (f62_p0_F (f62_p0_y s74 r73.1 l0)).bind fun o75 => bif (f62_p0_o0_x28 o75) then (some (.inr ((f62_p1_o1_y (41 : Int))))) else (cutHi (f62_p0_o0_x0 o75) (f62_p0_o0_x5 o75) fun s76 => appOk ((f62_p0_o0_l0 o75).length + [s76].length) (cutLo (f62_p0_o0_x0 o75) (f62_p0_o0_x5 o75) fun s77 => rec (f62_p1_y s77 ((f62_p0_o0_l0 o75) ++ [s76])))))) else (some (.inl (f62_p1_o0_y l0)))) := by kernel_rfl
theorem f62_eq a0 : f62_F (a0, ()) = ((go f62_p1_st (f62_p1_y a0 ([] : List (List UInt8)))).bind fun o78 => (match o78 with | .inl z79 => some ((f62_p1_o0_l0 z79), ((0 : Int), ())) | .inr o80 => some (([] : List (List UInt8)), ((f62_p1_o1_x3 o80), ())))) := by kernel_rfl
theorem f41_p0_eq x0 x3 : f41_p0_F (f41_p0_y x0 x3) = ((nth x0 x3).bind fun y81 => bif (decide ((y81.length : Int) < (1 : Int))) then (some ((f41_p0_o0_y x0 x3 true))) else ((nth x0 x3).bind fun y82 => bif (decide ((y82.length : Int) > (200 : Int))) then (some ((f41_p0_o0_y x0 x3 true))) else ((nth x0 (IntKind.i64.wrap (x3 + (1 : Int)))).bind fun y83 => some ((f41_p0_o0_y x0 x3 (decide ((y83.length : Int) > (3000 : Int)))))))) := by kernel_rfl
theorem f41_p1_eq rec x0 x3 : f41_p1_st rec (f41_p1_y x0 x3) = (bif (decide (x3 < (x0.length : Int))) then ((f41_p0_F (f41_p0_y x0 x3)).bind fun o84 => bif (f41_p0_o0_x46 o84) then (some (.inr ((f41_p1_o1_y false)))) else (rec (f41_p1_y (f41_p0_o0_x0 o84) (IntKind.i64.wrap ((f41_p0_o0_x3 o84) + (2 : Int)))))) else (some (.inl f41_p1_o0_y))) := by kernel_rfl
theorem f41_p2_eq x0 : f41_p2_F (f41_p2_y x0) = (bif ((x0.length : Int) == (0 : Int)) then (some ((f41_p2_o0_y x0 true))) else (bif ((Int.tmod (x0.length : Int) (2 : Int)) != (0 : Int)) then (some ((f41_p2_o0_y x0 true))) else (some ((f41_p2_o0_y x0 (decide ((x0.length : Int) > (64 : Int)))))))) := by kernel_rfl
theorem f41_eq a0 : f41_F (a0, ()) = ((f41_p2_F (f41_p2_y a0)).bind fun o85 => bif (f41_p2_o0_x17 o85) then (some (false, ())) else ((go f41_p1_st (f41_p1_y (f41_p2_o0_x0 o85) (0 : Int))).bind fun o86 => (match o86 with | .inl z87 => some (true, ()) | .inr o88 => some ((f41_p1_o1_x2 o88), ())))) := by kernel_rfl
theorem f29_p0_eq x5 x9 x10 x16 x17 x18 l0 : f29_p0_F (f29_p0_y x5 x9 x10 x16 x17 x18 l0) = (bif (x10 != (0 : Int)) then (some ((f29_p0_o0_y x5 x9 x16 x17 x18 true l0))) else ((f41_F (x9, ())).bind fun r89 => some ((f29_p0_o0_y x5 x9 x16 x17 x18 (!r89.1) l0)))) := by kernel_rfl
theorem f29_p1_eq rec x5 x16 x17 x18 l0 : f29_p1_st rec (f29_p1_y x5 x16 x17 x18 l0) = (bif (decide (x18 < x17)) then ((nth x16 x18).bind fun y90 => (f58_F (y90, ())).bind fun r91 => (f29_p0_F (f29_p0_y x5 r91.1 r91.2.1 x16 x17 x18 l0)).bind fun o92 => bif (f29_p0_o0_x33 o92) then (some (.inr ((f29_p1_o1_y false)))) else (appOk ((f29_p0_o0_l0 o92).length + [(f29_p0_o0_x9 o92)].length) (rec (f29_p1_y (f29_p0_o0_x5 o92) (f29_p0_o0_x16 o92) (f29_p0_o0_x17 o92) (IntKind.i64.wrap ((f29_p0_o0_x18 o92) + (1 : Int))) ((f29_p0_o0_l0 o92) ++ [(f29_p0_o0_x9 o92)]))))) else (some (.inl (f29_p1_o0_y x5 l0)))) := by kernel_rfl
theorem f29_eq a0 : f29_F (a0, ()) = ((f62_F (a0, ())).bind fun r93 => (go f29_p1_st (f29_p1_y r93.2.1 r93.1 (r93.1.length : Int) (0 : Int) ([] : List (List (List UInt8))))).bind fun o94 => (match o94 with | .inl z95 => some ((f29_p1_o0_l0 z95), (((f29_p1_o0_x5 z95) == (0 : Int)), ())) | .inr o96 => some (([] : List (List (List UInt8))), ((f29_p1_o1_x3 o96), ())))) := by kernel_rfl
theorem h30_p0_eq x1 x4 l0 : h30_p0_F (h30_p0_y x1 x4 l0) = ((nth x1 x4).bind fun y97 => (nth x1 (IntKind.i64.wrap (x4 + (1 : Int)))).bind fun y98 => appOk ((mpairs .str .str false l0).length + 1) (lenOk (keyLen .str y97) ((nth x1 (IntKind.i64.wrap (x4 + (1 : Int)))).bind fun y99 => bif (y99 == ([] : List UInt8)) then ((nth x1 x4).bind fun y100 => some ((h30_p0_o0_y x1 x4 (mdel .str .str false (mput .str .str false l0 y97 y98) y100)))) else (some ((h30_p0_o0_y x1 x4 (mput .str .str false l0 y97 y98))))))) := by kernel_rfl
theorem h30_p1_eq rec x1 x4 l0 : h30_p1_st rec (h30_p1_y x1 x4 l0) = (bif (decide (x4 < (x1.length : Int))) then ((h30_p0_F (h30_p0_y x1 x4 l0)).bind fun o101 => rec (h30_p1_y (h30_p0_o0_x1 o101) (IntKind.i64.wrap ((h30_p0_o0_x4 o101) + (2 : Int))) (h30_p0_o0_l0 o101))) else (some ((h30_p1_o0_y l0)))) := by kernel_rfl
theorem h30_eq x1 l0 : h30_F (h30_y x1 l0) = ((go h30_p1_st (h30_p1_y x1 (0 : Int) l0)).bind fun o102 => some (h30_o_y (h30_p1_o0_l0 o102))) := by kernel_rfl
theorem h32_eq l0 : h32_F (h32_y l0) = (some (h32_o_y l0)) := by kernel_rfl
theorem f13_p0_eq rec x92 x93 r1_4 r1_5 r1_6 r2_0 r2_1 r2_4 r2_5 r2_6 l0 l1 l2 l3 : f13_p0_st rec (f13_p0_y x92 x93 r1_4 r1_5 r1_6 r2_0 r2_1 r2_4 r2_5 r2_6 l0 l1 l2 l3) = (bif (decide (x93 < x92)) then (within x93 l1.length ((l1[(Int.toNat x93)]?).bind fun e103 => appOk (l2.length + [e103].length) (appOk (l3.length + [((mget .str .str false l0 e103).getD ([] : List UInt8))].length) (rec (f13_p0_y x92 (IntKind.i64.wrap (x93 + (1 : Int))) r1_4 r1_5 r1_6 r2_0 r2_1 r2_4 r2_5 r2_6 l0 l1 (l2 ++ [e103]) (l3 ++ [((mget .str .str false l0 e103).getD ([] : List UInt8))])))))) else (some ((f13_p0_o0_y r1_4 r1_5 r1_6 r2_0 r2_1 r2_4 r2_5 r2_6 l2 l3)))) := by kernel_rfl
theorem f13_p1_eq rec x79 x80 x81 r1_4 r1_5 r1_6 r2_0 r2_1 r2_4 r2_5 r2_6 l0 : f13_p1_st rec (f13_p1_y x79 x80 x81 r1_4 r1_5 r1_6 r2_0 r2_1 r2_4 r2_5 r2_6 l0) = (bif (decide (x81 < x80)) then ((nth x79 x81).bind fun y104 => (h30_F (h30_y y104 l0)).bind fun z105 => rec (f13_p1_y x79 x80 (IntKind.i64.wrap (x81 + (1 : Int))) r1_4 r1_5 r1_6 r2_0 r2_1 r2_4 r2_5 r2_6 (h30_o_l0 z105))) else (some ((f13_p1_o0_y r1_4 r1_5 r1_6 r2_0 r2_1 r2_4 r2_5 r2_6 l0)))) := by kernel_rfl
theorem f13_p2_eq x31 r0_0 r0_1 r1_4 r1_5 r1_6 r2_0 r2_1 r2_4 r2_5 r2_6 : f13_p2_F (f13_p2_y x31 r0_0 r0_1 r1_4 r1_5 r1_6 r2_0 r2_1 r2_4 r2_5 r2_6) = ((f26_F ((r0_0, (r0_1, ())), (x31, ()))).bind fun r106 => bif (decide (r106.1 > r2_5)) then (some ((f13_p2_o0_y x31 r0_0 r0_1 r1_4 r1_5 r1_6 r2_0 r2_1 x31 r106.1 r106.2.1))) else (some ((f13_p2_o0_y x31 r0_0 r0_1 r1_4 r1_5 r1_6 r2_0 r2_1 r2_4 r2_5 r2_6)))) := by kernel_rfl
theorem f13_p3_eq x12 x13 r1_4 r1_5 r1_6 r2_0 r2_1 r2_4 r2_5 r2_6 : f13_p3_F (f13_p3_y x12 x13 r1_4 r1_5 r1_6 r2_0 r2_1 r2_4 r2_5 r2_6) = (bif (r2_5 == (0 : Int)) then (some ((f13_p3_o0_y x12 true r1_4 r1_5 r1_6 r2_0 r2_1 r2_4 r2_5 r2_6))) else (some ((f13_p3_o0_y x12 (!x13) r1_4 r1_5 r1_6 r2_0 r2_1 r2_4 r2_5 r2_6)))) := by kernel_rfl
theorem f13_p4_eq rec x31 r0_0 r0_1 r1_4 r1_5 r1_6 r2_0 r2_1 r2_4 r2_5 r2_6 : f13_p4_st rec (f13_p4_y x31 r0_0 r0_1 r1_4 r1_5 r1_6 r2_0 r2_1 r2_4 r2_5 r2_6) = (bif (decide (x31 < (2 : Int))) then ((f13_p2_F (f13_p2_y x31 r0_0 r0_1 r1_4 r1_5 r1_6 r2_0 r2_1 r2_4 r2_5 r2_6)).bind fun o107 => rec (f13_p4_y (IntKind.i64.wrap ((f13_p2_o0_x31 o107) + (1 : Int))) (f13_p2_o0_r0_0 o107) (f13_p2_o0_r0_1 o107) (f13_p2_o0_r1_4 o107) (f13_p2_o0_r1_5 o107) (f13_p2_o0_r1_6 o107) (f13_p2_o0_r2_0 o107) (f13_p2_o0_r2_1 o107) (f13_p2_o0_r2_4 o107) (f13_p2_o0_r2_5 o107) (f13_p2_o0_r2_6 o107))) else (some ((f13_p4_o0_y r0_0 r0_1 r1_4 r1_5 r1_6 r2_0 r2_1 r2_4 r2_5 r2_6)))) := by kernel_rfl
theorem f13_p5_eq r0_0 r0_1 r1_4 r1_5 r1_6 : f13_p5_F (f13_p5_y r0_0 r0_1 r1_4 r1_5 r1_6) = ((f25_F ((r0_0, (r0_1, ())), ())).bind fun r108 => bif (!r108.1) then (some ((f13_p5_o0_y true r0_0 r0_1 r1_4 r1_5 r1_6))) else (some ((f13_p5_o0_y (decide ((r0_1.length : Int) > (0 : Int))) r0_0 r0_1 r1_4 r1_5 r1_6)))) := by kernel_rfl
theorem f13_eq a0_0 a0_1 : f13_F ((a0_0, (a0_1, ())), ()) = ((f13_p5_F (f13_p5_y a0_0 a0_1 (0 : Int) (0 : Int) (0 : Int))).bind fun o109 => bif (f13_p5_o0_x27 o109) then (some ((([] : List (List UInt8)), (([] : List ((Int × List UInt8))), (([] : List (List UInt8)), (([] : List (List UInt8)), ((0 : Int), ((0 : Int), ((0 : Int), ()))))))), ((1 : Int), ()))) else ((go f13_p4_st (f13_p4_y (0 : Int) (f13_p5_o0_r0_0 o109) (f13_p5_o0_r0_1 o109) (f13_p5_o0_r1_4 o109) (f13_p5_o0_r1_5 o109) (f13_p5_o0_r1_6 o109) (f13_p5_o0_r0_0 o109) (f13_p5_o0_r0_1 o109) (0 : Int) (0 : Int) (0 : Int))).bind fun o110 => (f27_F (((f13_p4_o0_r0_0 o110), ((f13_p4_o0_r0_1 o110), ())), ((f13_p4_o0_r2_4 o110), ()))).bind fun r111 => (f28_F (r111.2.1, ((f13_p4_o0_r2_6 o110), ()))).bind fun r112 => (f29_F (r112.1, ())).bind fun r113 => (f13_p3_F (f13_p3_y r113.1 r113.2.1 (f13_p4_o0_r1_4 o110) (f13_p4_o0_r1_5 o110) (f13_p4_o0_r1_6 o110) (f13_p4_o0_r2_0 o110) (f13_p4_o0_r2_1 o110) (f13_p4_o0_r2_4 o110) (f13_p4_o0_r2_5 o110) (f13_p4_o0_r2_6 o110))).bind fun o114 => bif (f13_p3_o0_x76 o114) then (some ((([] : List (List UInt8)), (([] : List ((Int × List UInt8))), (([] : List (List UInt8)), (([] : List (List UInt8)), ((0 : Int), ((0 : Int), ((0 : Int), ()))))))), ((41 : Int), ()))) else ((go f13_p1_st (f13_p1_y (f13_p3_o0_x12 o114) ((f13_p3_o0_x12 o114).length : Int) (0 : Int) (f13_p3_o0_r1_4 o114) (f13_p3_o0_r1_5 o114) (f13_p3_o0_r1_6 o114) (f13_p3_o0_r2_0 o114) (f13_p3_o0_r2_1 o114) (f13_p3_o0_r2_4 o114) (f13_p3_o0_r2_5 o114) (f13_p3_o0_r2_6 o114) ([] : List ((Unit × (List UInt8 × List UInt8)))))).bind fun o115 => (h32_F (h32_y (f13_p1_o0_l0 o115))).bind fun z116 => (go f13_p0_st (f13_p0_y ((sortedKeys (mpairs .str .str false (h32_o_l0 z116))).length : Int) (0 : Int) (f13_p1_o0_r1_4 o115) (f13_p1_o0_r1_5 o115) (f13_p1_o0_r1_6 o115) (f13_p1_o0_r2_0 o115) (f13_p1_o0_r2_1 o115) (f13_p1_o0_r2_4 o115) (f13_p1_o0_r2_5 o115) (f13_p1_o0_r2_6 o115) (h32_o_l0 z116) (sortedKeys (mpairs .str .str false (h32_o_l0 z116))) ([] : List (List UInt8)) ([] : List (List UInt8)))).bind fun o117 => some (((f13_p0_o0_r2_0 o117), ((f13_p0_o0_r2_1 o117), ((f13_p0_o0_l2 o117), ((f13_p0_o0_l3 o117), ((f13_p0_o0_r2_4 o117), ((f13_p0_o0_r2_5 o117), ((f13_p0_o0_r2_6 o117), ()))))))), ((0 : Int), ()))))) := by kernel_rfl
end Go.Pe.Try
end
section
namespace Go.Pe.Try
open Go.Proofs Go.RowKit
set_option maxRecDepth 100000
set_option linter.unusedVariables false
theorem f7_eq a0 : f7_F (a0, ()) = ((h22_F (h22_y a0)).bind fun z118 => bif ((h22_o_x1 z118) != (0 : Int)) then (some ((([] : List (List UInt8)), (([] : List ((Int × List UInt8))), (([] : List (List UInt8)), (([] : List (List UInt8)), ((0 : Int), ((0 : Int), ((0 : Int), ()))))))), ((h22_o_x1 z118), ()))) else ((f23_F ((1 : Int), ((0 : Int), ()))).bind fun r119 => within (0 : Int) (h22_o_l0 z118).length (((h22_o_l0 z118)[(Int.toNat (0 : Int))]?).bind fun e120 => (f13_F ((((h22_o_l0 z118).set (Int.toNat (0 : Int)) r119.1), (([] : List ((Int × List UInt8))), ())), ())).bind fun r121 => some ((r121.1.1, (r121.1.2.1, (r121.1.2.2.1, (r121.1.2.2.2.1, (r121.1.2.2.2.2.1, (r121.1.2.2.2.2.2.1, (r121.1.2.2.2.2.2.2.1, ()))))))), (r121.2.1, ()))))) := by kernel_rfl
theorem f40_p0_eq rec x0 x1 x12 x13 : f40_p0_st rec (f40_p0_y x0 x1 x12 x13) = (bif (decide (x13 < x12)) then ((nth x0 x13).bind fun y122 => (nth x1 x13).bind fun y123 => bif (y122 != y123) then (some (.inr ((f40_p0_o1_y false)))) else (rec (f40_p0_y x0 x1 x12 (IntKind.i64.wrap (x13 + (1 : Int)))))) else (some (.inl f40_p0_o0_y))) := by kernel_rfl
theorem f40_eq a0 a1 : f40_F (a0, (a1, ())) = (bif ((a0.length : Int) != (a1.length : Int)) then (some (false, ())) else ((go f40_p0_st (f40_p0_y a0 a1 (a0.length : Int) (0 : Int))).bind fun o124 => (match o124 with | .inl z125 => some (true, ()) | .inr o126 => some ((f40_p0_o1_x4 o126), ())))) := by kernel_rfl
theorem f17_eq a0_0 a0_1 a0_2 a0_3 a0_4 a0_5 a0_6 : f17_F ((a0_0, (a0_1, (a0_2, (a0_3, (a0_4, (a0_5, (a0_6, ()))))))), ()) = ((f13_F ((a0_0, (a0_1, ())), ())).bind fun r127 => bif (r127.2.1 == (0 : Int)) then (bif (r127.1.2.2.2.2.1 == a0_4) then (bif (r127.1.2.2.2.2.2.1 == a0_5) then (bif (r127.1.2.2.2.2.2.2.1 == a0_6) then ((f40_F (r127.1.2.2.1, (a0_2, ()))).bind fun r128 => bif r128.1 then ((f40_F (r127.1.2.2.2.1, (a0_3, ()))).bind fun r129 => some (r129.1, ())) else (some (false, ()))) else (some (false, ()))) else (some (false, ()))) else (some (false, ()))) else (some (false, ()))) := by kernel_rfl
theorem f43_eq a0 : f43_F (a0, ()) = (bif (decide ((a0.length : Int) > (4096 : Int))) then (some (([] : List UInt8), ((2 : Int), ()))) else ((f52_F ((IntKind.u64.wrap (a0.length : Int)), ((4 : Int), ()))).bind fun r130 => if r130.1.length + a0.length ≤ 4611686018427387904 then (some ((r130.1 ++ a0), ((0 : Int), ()))) else none)) := by kernel_rfl
theorem f44_p0_eq rec x1 x2 x10 x12 l0 : f44_p0_st rec (f44_p0_y x1 x2 x10 x12 l0) = (bif (decide ((IntKind.i64.wrap (x12 * (128 : Int))) < (IntKind.i64.wrap (x1 + (x2.length : Int))))) then (cutMid x10 (IntKind.i64.wrap (x12 * (128 : Int))) (IntKind.i64.wrap ((IntKind.i64.wrap (x12 + (1 : Int))) * (128 : Int))) fun s131 => appOk (l0.length + [(x12, s131)].length) (rec (f44_p0_y x1 x2 x10 (IntKind.i64.wrap (x12 + (1 : Int))) (l0 ++ [(x12, s131)])))) else (some ((f44_p0_o0_y l0)))) := by kernel_rfl
theorem f44_p1_eq x1 x2 x10 : f44_p1_F (f44_p1_y x1 x2 x10) = ((go f44_p0_st (f44_p0_y x1 x2 x10 (IntKind.i64.wrap (Int.tdiv x1 (128 : Int))) ([] : List ((Int × List UInt8))))).bind fun o132 => some ((f44_p1_o0_y (0 : Int) (f44_p0_o0_l0 o132)))) := by kernel_rfl
theorem f44_eq a0 a1 a2 : f44_F (a0, (a1, (a2, ()))) = ((f60_F ((a0, (a1, ())), ())).bind fun r133 => bif (!r133.1) then (some (([] : List ((Int × List UInt8))), ((1 : Int), ()))) else (bif (decide ((a2.length : Int) > (IntKind.i64.wrap ((IntKind.i64.wrap ((a0.length : Int) * (128 : Int))) - a1)))) then (some (([] : List ((Int × List UInt8))), ((40 : Int), ()))) else (bif (a2 == ([] : List UInt8)) then (some (([] : List ((Int × List UInt8))), ((0 : Int), ()))) else ((f61_F ((a0, ()), ())).bind fun r134 => cutHi r134.1 a1 fun s135 => if s135.length + a2.length ≤ 4611686018427387904 then ((repeatF (([0] : List UInt8), ((IntKind.i64.wrap ((IntKind.i64.wrap ((IntKind.i64.wrap ((a0.length : Int) * (128 : Int))) - a1)) - (a2.length : Int))), ()))).bind fun r136 => if (s135 ++ a2).length + r136.1.length ≤ 4611686018427387904 then ((f44_p1_F (f44_p1_y a1 a2 ((s135 ++ a2) ++ r136.1))).bind fun o137 => some ((f44_p1_o0_l0 o137), ((f44_p1_o0_x7 o137), ()))) else none) else none)))) := by kernel_rfl
theorem h47_eq x0 : h47_F (h47_y x0) = (nilEq x0 (some (h47_o_y ([] : List ((Int × List UInt8))))) (appOk (([] : List ((Int × List UInt8))).length + x0.length) (some (h47_o_y (([] : List ((Int × List UInt8))) ++ x0))))) := by kernel_rfl
theorem f45_p0_eq rec x1 x9 x10 l0 : f45_p0_st rec (f45_p0_y x1 x9 x10 l0) = (bif (decide (x10 < x9)) then (within x10 l0.length ((l0[(Int.toNat x10)]?).bind fun e138 => within x10 l0.length ((l0[(Int.toNat x10)]?).bind fun e139 => rec (f45_p0_y x1 x9 (IntKind.i64.wrap (x10 + (1 : Int))) (l0.set (Int.toNat x10) ((IntKind.i64.wrap (e138.1 + (IntKind.i64.wrap (x1 + (1 : Int))))), e139.2)))))) else (some ((f45_p0_o0_y l0)))) := by kernel_rfl
theorem f45_eq a0 a1 : f45_F (a0, (a1, ())) = ((h47_F (h47_y a0)).bind fun z140 => (go f45_p0_st (f45_p0_y a1 ((h47_o_l0 z140).length : Int) (0 : Int) (h47_o_l0 z140))).bind fun o141 => some ((f45_p0_o0_l0 o141), ())) := by kernel_rfl
theorem f18_p2_eq x1 r0_0 r0_1 r0_2 r0_3 r0_4 r0_5 r0_6 : f18_p2_F (f18_p2_y x1 r0_0 r0_1 r0_2 r0_3 r0_4 r0_5 r0_6) = ((f17_F ((r0_0, (r0_1, (r0_2, (r0_3, (r0_4, (r0_5, (r0_6, ()))))))), ())).bind fun r159 => bif (!r159.1) then (some ((f18_p2_o0_y x1 true r0_0 r0_1 r0_2 r0_3 r0_4 r0_5 r0_6))) else ((f41_F (x1, ())).bind fun r160 => some ((f18_p2_o0_y x1 (!r160.1) r0_0 r0_1 r0_2 r0_3 r0_4 r0_5 r0_6)))) := by kernel_rfl
theorem f18_eq a0_0 a0_1 a0_2 a0_3 a0_4 a0_5 a0_6 a1 : f18_F ((a0_0, (a0_1, (a0_2, (a0_3, (a0_4, (a0_5, (a0_6, ()))))))), (a1, ())) = ((f18_p2_F (f18_p2_y a1 a0_0 a0_1 a0_2 a0_3 a0_4 a0_5 a0_6)).bind fun o161 => bif (f18_p2_o0_x22 o161) then (some (([] : List (List ((Int × List UInt8)))), ((1 : Int), ()))) else ((f42_F ((f18_p2_o0_x1 o161), ())).bind fun r162 => bif (r162.2.1 != (0 : Int)) then (some (([] : List (List ((Int × List UInt8)))), (r162.2.1, ()))) else ((f43_F (r162.1, ())).bind fun r163 => bif (r163.2.1 != (0 : Int)) then (some (([] : List (List ((Int × List UInt8)))), (r163.2.1, ()))) else ((f27_F (((f18_p2_o0_r0_0 o161), ((f18_p2_o0_r0_1 o161), ())), ((f18_p2_o0_r0_4 o161), ()))).bind fun r164 => (f44_F (r164.2.1, ((f18_p2_o0_r0_6 o161), (r163.1, ())))).bind fun r165 => bif (r165.2.1 == (0 : Int)) then ((f45_F (r165.1, (r164.1, ()))).bind fun r166 => (f23_F ((f18_p2_o0_r0_5 o161), ((IntKind.i64.wrap ((f18_p2_o0_r0_6 o161) + (r163.1.length : Int))), ()))).bind fun r167 => some ([r166.1, [(r164.1, r167.1)]], ((0 : Int), ()))) else ((f18_p1_F (f18_p1_y (f18_p2_o0_x1 o161) (f18_p2_o0_r0_0 o161) (f18_p2_o0_r0_1 o161) (f18_p2_o0_r0_2 o161) (f18_p2_o0_r0_3 o161) (f18_p2_o0_r0_4 o161) (f18_p2_o0_r0_5 o161) (f18_p2_o0_r0_6 o161))).bind fun o168 => some ((f18_p1_o0_x4 o168), ((f18_p1_o0_x5 o168), ()))))))) := by kernel_rfl
theorem f19_p0_eq x1 x2 r0_0 r0_1 : f19_p0_F (f19_p0_y x1 x2 r0_0 r0_1) = ((f25_F ((r0_0, (r0_1, ())), ())).bind fun r169 => bif (!r169.1) then (some ((f19_p0_o0_y x1 x2 true r0_0 r0_1))) else (bif (decide (x1 < (0 : Int))) then (some ((f19_p0_o0_y x1 x2 true r0_0 r0_1))) else (bif (decide (x1 ≥ (r0_0.length : Int))) then (some ((f19_p0_o0_y x1 x2 true r0_0 r0_1))) else (some ((f19_p0_o0_y x1 x2 ((x2.length : Int) != (128 : Int)) r0_0 r0_1)))))) := by kernel_rfl
theorem f19_eq a0_0 a0_1 a1 a2 : f19_F ((a0_0, (a0_1, ())), (a1, (a2, ()))) = ((f19_p0_F (f19_p0_y a1 a2 a0_0 a0_1)).bind fun o170 => bif (f19_p0_o0_x8 o170) then (some ((([] : List (List UInt8)), (([] : List ((Int × List UInt8))), ())), ((1 : Int), ()))) else (bif (((f19_p0_o0_r0_1 o170).length : Int) == (200 : Int)) then (some ((([] : List (List UInt8)), (([] : List ((Int × List UInt8))), ())), ((40 : Int), ()))) else ((h47_F (h47_y (f19_p0_o0_r0_1 o170))).bind fun z171 => appOk ((h47_o_l0 z171).length + [((f19_p0_o0_x1 o170), (f19_p0_o0_x2 o170))].length) (some (((f19_p0_o0_r0_0 o170), (((h47_o_l0 z171) ++ [((f19_p0_o0_x1 o170), (f19_p0_o0_x2 o170))]), ())), ((0 : Int), ())))))) := by kernel_rfl
theorem h73_eq x0 : h73_F (h73_y x0) = (nilEq x0 (some (h73_o_y ([] : List (List UInt8)))) (appOk (([] : List (List UInt8)).length + x0.length) (some (h73_o_y (([] : List (List UInt8)) ++ x0))))) := by kernel_rfl
theorem f49_eq a0 : f49_F (a0, ()) = (some (true, ())) := by kernel_rfl
end Go.Pe.Try
end
section
namespace Go.Pe
open Go.RowKit
set_option linter.unusedSectionVars false
variable [GI]
theorem go_seq {sh : Shape} {β : Type} {step : (sh.den → Option β) → sh.den → Option β} {y : Nat → sh.den} {n : Nat} {r : Option β}
    (hs : ∀ i, i < n → ∀ rec, step rec (y i) = rec (y (i + 1))) (he : ∀ rec, step rec (y n) = r) (hm : n + 1 ≤ fuelOf sh (y 0)) : go step (y 0) = r := by
  have key : ∀ d i, i + d = n → ∀ m, d + 1 ≤ m → iter step m (y i) = r := by
    intro d
    induction d with
    | zero =>
      intro i hi m hm
      obtain ⟨m, rfl⟩ : ∃ k, m = k + 1 := ⟨m - 1, by omega⟩
      have : i = n := by omega
      subst this
      rw [iter, he]
    | succ d ih =>
      intro i hi m hm
      obtain ⟨m, rfl⟩ : ∃ k, m = k + 1 := ⟨m - 1, by omega⟩
      rw [iter, hs i (by omega), ih (i + 1) (by omega) m (by omega)]
  exact key n 0 (by omega) _ hm
theorem wrap64 {x : Int} (h0 : -9223372036854775808 ≤ x) (h1 : x < 9223372036854775808) : IntKind.i64.wrap x = x := by
  simp only [IntKind.wrap, IntKind.bits, IntKind.signed]
  simp
  omega
theorem wrapU64 {x : Int} (h0 : 0 ≤ x) (h1 : x < 18446744073709551616) : IntKind.u64.wrap x = x := by
  simp only [IntKind.wrap, IntKind.bits, IntKind.signed]
  simp
  omega
theorem nth_nat {α : Type} (l : List α) (i : Nat) : nth l (i : Int) = l[i]? := by simp [nth]
theorem nth_lt {α : Type} {l : List α} {i : Nat} (h : i < l.length) : nth l (i : Int) = some l[i] := by rw [nth_nat, List.getElem?_eq_getElem h]
theorem cutHi_nat' {α S : Type} (l : List α) (n : Nat) (K : List α → Option S) (h : n ≤ l.length) : cutHi l (n : Int) K = K (l.take n) := by rw [cutHi, if_pos (by omega), Int.toNat_natCast]
theorem cutMid_nat' {α S : Type} (l : List α) (a b : Nat) (K : List α → Option S) (h : a ≤ b) (h2 : b ≤ l.length) : cutMid l (a : Int) (b : Int) K = K ((l.take b).drop a) := by
  rw [cutMid, if_pos (by omega), Int.toNat_natCast, Int.toNat_natCast]
theorem cut_min {α S : Type} (l : List α) (m : Nat) (K : List α → Option S) : cutHi l (minI (l.length : Int) (m : Int)) K = K (l.take m) := by
  have h : minI (l.length : Int) (m : Int) = ((min m l.length : Nat) : Int) := by
    rw [minI_eq]; split <;> omega
  rw [h, cutHi, if_pos (by omega), Int.toNat_natCast]
  congr 1
  rcases Nat.le_total m l.length with h | h
  · rw [Nat.min_eq_left h]
  · rw [Nat.min_eq_right h, List.take_of_length_le (Nat.le_refl _), List.take_of_length_le h]
theorem within_lt {S : Type} {i n : Nat} (h : i < n) (K : Option S) : within (i : Int) n K = K := by rw [within, if_pos (by omega)]
theorem appOk_lt {S : Type} {n : Nat} (h : n ≤ 4294967296) (K : Option S) : appOk n K = K := by
  unfold appOk; rw [if_pos (by omega)]
theorem first_bad {α : Type} (p : α → Prop) [DecidablePred p] : ∀ l : List α, (∀ x ∈ l, p x) ∨ ∃ k, ∃ h : k < l.length, ¬ p l[k] ∧ ∀ i (hi : i < k), p (l[i]'(Nat.lt_trans hi h))
  | [] => .inl (by simp)
  | x :: l => by
    by_cases hx : p x
    · rcases first_bad p l with h | ⟨k, hk, h1, h2⟩
      · exact .inl (by simp only [List.mem_cons, forall_eq_or_imp]; exact ⟨hx, h⟩)
      · refine .inr ⟨k + 1, by simp; omega, by simpa using h1, fun i hi => ?_⟩
        cases i with
        | zero => simpa using hx
        | succ i => simpa using h2 i (by omega)
    · exact .inr ⟨0, by simp, by simpa using hx, fun i hi => by omega⟩
theorem fuel_def (sh : Shape) (z : sh.den) : fuelOf sh z = 1000000 + (fuelL sh.slots z.1 + fuelR sh.recs z.2.1 + fuelT sh.lsts z.2.2) := rfl
end Go.Pe
end
