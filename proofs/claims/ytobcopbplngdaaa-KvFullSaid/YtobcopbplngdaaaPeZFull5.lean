/- Texts of the proof, what is used of them: GK. -/
import Derived.Test.YtobcopbplngdaaaProg
import Derived.Test.YtobcopbplngdaaaPeZFull4
section
namespace Go.Pe.Try
open Go.Proofs Go.RowKit
set_option maxRecDepth 100000
noncomputable section
theorem mixed : Try.prog.follows .mixedOrders = true := by kernel_rfl
@[reducible] noncomputable def f22_c : Code := codeOf Try.f22
@[reducible] noncomputable def h22_E : Env := envOf Try.prog 9999 [rowOf true repeat_ok] [⟨51, _, repsH_ok⟩]
theorem h22_E_okE : EnvOk Try.prog h22_E := envOf_ok _ _ _ mixed
@[reducible] noncomputable def h22_p0_sh : Shape := ⟨[.hole (.int .i64), .dead, .ptr 0 0, .dead, .dead, .dead, .dead, .dead, .dead, .dead, .dead, .dead, .dead, .dead, .dead, .dead, .dead, .dead], [some [.nilS, .nilS]], []⟩
@[reducible] noncomputable def h22_p0_o0 : Shape := ⟨[.hole (.int .i64), .dead, .ptr 0 0, .dead, .dead, .dead, .dead, .dead, .dead, .dead, .hole .bool, .dead, .dead, .dead, .dead, .dead, .dead, .dead], [some [.nilS, .nilS]], []⟩
@[reducible] noncomputable def h22_p0_outs : List (Ex × Shape) := [(.normal, h22_p0_o0)]
@[reducible] noncomputable def h22_p0_a : Ann Try.prog 0 true (f22_c.cr.cl.cl) := (.leaf _)
noncomputable def h22_p0_F (y : h22_p0_sh.den) : Option (OutDen h22_p0_outs) := evA h22_E h22_p0_a (fill h22_p0_sh y) (packOut h22_p0_outs)
theorem h22_p0_ok : PieceSound Try.prog 0 true (f22_c.cr.cl.cl) h22_p0_sh h22_p0_outs h22_p0_F := piece_of (h22_E_okE) h22_p0_a rfl rfl fun _ => rfl
@[reducible] noncomputable def h22_I : Shape := ⟨[.hole (.int .i64)], [], []⟩
@[reducible] noncomputable def h22_O : Shape := ⟨[.agg [.whole 0, .nilS], .hole (.int .i64)], [], [some .str]⟩
@[reducible] noncomputable def h22_a : Ann Try.prog 0 true f22_c := (.seq (.leaf _) (.seq (.seq (.piece _ _ _ h22_p0_ok) (.leaf _)) (.leaf _)))
noncomputable def h22_F (y : h22_I.den) : Option h22_O.den := evFunH h22_E Try.f22 h22_a h22_I h22_O y
theorem h22_ok : SoundH Try.prog 22 ⟨h22_I, h22_O, h22_F⟩ := sound_ofH (I := h22_I) (O := h22_O) (c := f22_c) (h22_E_okE) (by kernel_rfl) (by kernel_rfl) (by kernel_rfl) h22_a rfl rfl (fun _ => rfl)
@[reducible] noncomputable def f52_c : Code := codeOf Try.f52
@[reducible] noncomputable def f52_E : Env := envOf Try.prog 9999 [] []
theorem f52_E_okE : EnvOk Try.prog f52_E := envOf_ok _ _ _ mixed
@[reducible] noncomputable def f52_p0_sh : Shape := ⟨[.hole (.int .u64), .hole (.int .i64), .dead, .dead, .dead, .dead, .whole 0, .dead, .dead, .dead, .dead, .dead, .dead, .dead, .dead, .dead, .dead, .dead, .dead, .dead, .dead, .dead, .dead, .dead, .dead, .dead, .dead, .dead, .hole (.int .i64), .hole (.int .i64), .dead, .dead, .dead, .dead, .dead, .dead, .dead, .dead, .dead, .dead, .dead, .dead, .dead, .dead, .dead, .dead], [], [some (.int .u8)]⟩
@[reducible] noncomputable def f52_p0_o0 : Shape := ⟨[.dead, .dead, .dead, .dead, .dead, .dead, .whole 0, .dead, .dead, .dead, .dead, .dead, .dead, .dead, .dead, .dead, .dead, .dead, .dead, .dead, .dead, .dead, .dead, .dead, .dead, .dead, .dead, .dead, .dead, .dead, .dead, .dead, .dead, .dead, .dead, .dead, .dead, .dead, .dead, .dead, .dead, .dead, .dead, .dead, .dead, .dead], [], [some (.int .u8)]⟩
@[reducible] noncomputable def f52_p0_outs : List (Ex × Shape) := [(.exit 0, f52_p0_o0)]
@[reducible] noncomputable def f52_p0_a : Ann Try.prog 0 true (f52_c.cr.cr.cr.cl.cr.cb.cb) := (.leaf _)
noncomputable def f52_p0_st (rec : f52_p0_sh.den → Option (OutDen f52_p0_outs)) (y : f52_p0_sh.den) : Option (OutDen f52_p0_outs) := evA f52_E f52_p0_a (fill f52_p0_sh y) fun ex st => match ex with | .normal => (abs f52_p0_sh st).bind rec | e => packOut f52_p0_outs e st
theorem f52_p0_ok : PieceSound Try.prog 0 true (.loop (f52_c.cr.cr.cr.cl.cr.cb.cb)) f52_p0_sh f52_p0_outs (go f52_p0_st) := go_of (f52_E_okE) f52_p0_a rfl rfl fun _ _ => rfl
@[reducible] noncomputable def f52_p1_sh : Shape := ⟨[.hole (.int .u64), .hole (.int .i64), .dead, .dead, .dead, .dead, .dead, .dead, .dead, .dead, .dead, .dead, .dead, .dead, .dead, .dead, .dead, .dead, .dead, .dead, .dead, .dead, .dead, .dead, .dead, .dead, .dead, .dead, .dead, .dead, .dead, .dead, .dead, .dead, .dead, .dead, .dead, .dead, .dead, .dead, .dead, .dead, .dead, .dead, .dead, .dead], [], []⟩
@[reducible] noncomputable def f52_p1_o0 : Shape := ⟨[.hole (.int .u64), .hole (.int .i64), .dead, .dead, .dead, .dead, .dead, .dead, .dead, .dead, .dead, .dead, .dead, .dead, .dead, .dead, .dead, .dead, .dead, .dead, .dead, .dead, .dead, .dead, .hole .bool, .dead, .dead, .dead, .dead, .dead, .dead, .dead, .dead, .dead, .dead, .dead, .dead, .dead, .dead, .dead, .dead, .dead, .dead, .dead, .dead, .dead], [], []⟩
@[reducible] noncomputable def f52_p1_outs : List (Ex × Shape) := [(.normal, f52_p1_o0)]
@[reducible] noncomputable def f52_p1_a : Ann Try.prog 0 true (f52_c.cr.cl.cl) := (.leaf _)
noncomputable def f52_p1_F (y : f52_p1_sh.den) : Option (OutDen f52_p1_outs) := evA f52_E f52_p1_a (fill f52_p1_sh y) (packOut f52_p1_outs)
theorem f52_p1_ok : PieceSound Try.prog 0 true (f52_c.cr.cl.cl) f52_p1_sh f52_p1_outs f52_p1_F := piece_of (f52_E_okE) f52_p1_a rfl rfl fun _ => rfl
@[reducible] noncomputable def f52_ps : List KD := [.one (.int .u64), .one (.int .i64)]
@[reducible] noncomputable def f52_rs : List KD := [.one .str, .one (.int .i64)]
@[reducible] noncomputable def f52_a : Ann Try.prog 0 true f52_c := (.seq (.leaf _) (.seq (.seq (.piece _ _ _ f52_p1_ok) (.leaf _)) (.seq (.leaf _) (.seq (.seq (.leaf _) (.block (.piece _ _ _ f52_p0_ok))) (.leaf _)))))
noncomputable def f52_F (y : argsDen f52_ps) : Option (argsDen f52_rs) := evFunA f52_E Try.f52 f52_a (encArgs f52_ps y) (decRes f52_rs)
theorem f52_ok : Sound Try.prog 52 (pfun f52_F) := sound_of (c := f52_c) (f52_E_okE) (by kernel_rfl) (by kernel_rfl) (by kernel_rfl) f52_a (fun _ => rfl)
@[reducible] noncomputable def f38_c : Code := codeOf Try.f38
@[reducible] noncomputable def h38_E : Env := envOf Try.prog 9999 [] []
theorem h38_E_okE : EnvOk Try.prog h38_E := envOf_ok _ _ _ mixed
@[reducible] noncomputable def h38_I : Shape := ⟨[.ptr 0 0], [some [.bld 0, .nilS]], []⟩
@[reducible] noncomputable def h38_O : Shape := ⟨[.hole (.int .i64)], [some [.bld 0, .nilS]], []⟩
@[reducible] noncomputable def h38_a : Ann Try.prog 1 true f38_c := (.leaf _)
noncomputable def h38_F (y : h38_I.den) : Option h38_O.den := evFunH h38_E Try.f38 h38_a h38_I h38_O y
theorem h38_ok : SoundH Try.prog 38 ⟨h38_I, h38_O, h38_F⟩ := sound_ofH (I := h38_I) (O := h38_O) (c := f38_c) (h38_E_okE) (by kernel_rfl) (by kernel_rfl) (by kernel_rfl) h38_a rfl rfl (fun _ => rfl)
@[reducible] noncomputable def f37_c : Code := codeOf Try.f37
@[reducible] noncomputable def h37_E : Env := envOf Try.prog 9999 [] [⟨71, _, copy_ok⟩]
theorem h37_E_okE : EnvOk Try.prog h37_E := envOf_ok _ _ _ mixed
@[reducible] noncomputable def h37_I : Shape := ⟨[.ptr 0 0, .hole .str], [some [.bld 0, .nilS]], []⟩
@[reducible] noncomputable def h37_O : Shape := ⟨[.hole (.int .i64), .dead], [some [.bld 0, .whole 0]], [some (.int .u8)]⟩
@[reducible] noncomputable def h37_a : Ann Try.prog 1 true f37_c := (.leaf _)
noncomputable def h37_F (y : h37_I.den) : Option h37_O.den := evFunH h37_E Try.f37 h37_a h37_I h37_O y
theorem h37_ok : SoundH Try.prog 37 ⟨h37_I, h37_O, h37_F⟩ := sound_ofH (I := h37_I) (O := h37_O) (c := f37_c) (h37_E_okE) (by kernel_rfl) (by kernel_rfl) (by kernel_rfl) h37_a rfl rfl (fun _ => rfl)
@[reducible] noncomputable def h37a_E : Env := envOf Try.prog 9999 [] [⟨71, _, copy_ok⟩]
theorem h37a_E_okE : EnvOk Try.prog h37a_E := envOf_ok _ _ _ mixed
@[reducible] noncomputable def h37a_I : Shape := ⟨[.ptr 0 0, .hole .str], [some [.bld 0, .whole 0]], [some (.int .u8)]⟩
@[reducible] noncomputable def h37a_O : Shape := ⟨[.hole (.int .i64), .dead], [some [.bld 0, .whole 0]], [some (.int .u8)]⟩
@[reducible] noncomputable def h37a_a : Ann Try.prog 65 true f37_c := (.leaf _)
noncomputable def h37a_F (y : h37a_I.den) : Option h37a_O.den := evFunH h37a_E Try.f37 h37a_a h37a_I h37a_O y
theorem h37a_ok : SoundH Try.prog 37 ⟨h37a_I, h37a_O, h37a_F⟩ := sound_ofH (I := h37a_I) (O := h37a_O) (c := f37_c) (h37a_E_okE) (by kernel_rfl) (by kernel_rfl) (by kernel_rfl) h37a_a rfl rfl (fun _ => rfl)
@[reducible] noncomputable def h38a_E : Env := envOf Try.prog 9999 [] []
theorem h38a_E_okE : EnvOk Try.prog h38a_E := envOf_ok _ _ _ mixed
@[reducible] noncomputable def h38a_I : Shape := ⟨[.ptr 0 0], [some [.bld 0, .whole 0]], [some (.int .u8)]⟩
@[reducible] noncomputable def h38a_O : Shape := ⟨[.hole (.int .i64)], [some [.bld 0, .whole 0]], [some (.int .u8)]⟩
@[reducible] noncomputable def h38a_a : Ann Try.prog 65 true f38_c := (.leaf _)
noncomputable def h38a_F (y : h38a_I.den) : Option h38a_O.den := evFunH h38a_E Try.f38 h38a_a h38a_I h38a_O y
theorem h38a_ok : SoundH Try.prog 38 ⟨h38a_I, h38a_O, h38a_F⟩ := sound_ofH (I := h38a_I) (O := h38a_O) (c := f38_c) (h38a_E_okE) (by kernel_rfl) (by kernel_rfl) (by kernel_rfl) h38a_a rfl rfl (fun _ => rfl)
@[reducible] noncomputable def f42_c : Code := codeOf Try.f42
@[reducible] noncomputable def f42_E : Env := envOf Try.prog 9999 [rowOf true f52_ok] [⟨38, _, h38_ok⟩, ⟨37, _, h37_ok⟩, ⟨37, _, h37a_ok⟩, ⟨38, _, h38a_ok⟩, ⟨39, _, str_ok⟩]
theorem f42_E_okE : EnvOk Try.prog f42_E := envOf_ok _ _ _ mixed
@[reducible] noncomputable def f42_p0_sh : Shape := ⟨[.dead, .dead, .dead, .dead, .ptr 0 0, .dead, .hole .str, .dead, .dead, .dead, .dead, .dead, .hole (.list .str), .hole (.int .i64), .hole (.int .i64), .dead, .dead, .dead, .dead, .dead, .dead, .dead, .dead, .dead, .dead, .dead, .dead, .dead, .dead, .dead, .dead, .dead, .dead, .dead, .dead, .dead, .dead, .dead, .dead, .dead, .dead, .dead], [some [.bld 0, .whole 0]], [some (.int .u8)]⟩
@[reducible] noncomputable def f42_p0_o0 : Shape := ⟨[.dead, .dead, .dead, .dead, .ptr 0 0, .dead, .hole .str, .dead, .dead, .dead, .dead, .dead, .hole (.list .str), .hole (.int .i64), .hole (.int .i64), .dead, .dead, .dead, .dead, .dead, .dead, .dead, .dead, .dead, .dead, .dead, .dead, .dead, .hole .bool, .dead, .dead, .dead, .dead, .dead, .dead, .dead, .dead, .dead, .dead, .dead, .dead, .dead], [some [.bld 0, .whole 0]], [some (.int .u8)]⟩
@[reducible] noncomputable def f42_p0_outs : List (Ex × Shape) := [(.normal, f42_p0_o0)]
@[reducible] noncomputable def f42_p0_a : Ann Try.prog 0 true (f42_c.cr.cr.cr.cl.cr.cb.cb.cr.cr.cl.cb.cr.cl.cl) := (.leaf _)
noncomputable def f42_p0_F (y : f42_p0_sh.den) : Option (OutDen f42_p0_outs) := evA f42_E f42_p0_a (fill f42_p0_sh y) (packOut f42_p0_outs)
theorem f42_p0_ok : PieceSound Try.prog 0 true (f42_c.cr.cr.cr.cl.cr.cb.cb.cr.cr.cl.cb.cr.cl.cl) f42_p0_sh f42_p0_outs f42_p0_F := piece_of (f42_E_okE) f42_p0_a rfl rfl fun _ => rfl
@[reducible] noncomputable def f42_p1_sh : Shape := ⟨[.dead, .dead, .dead, .dead, .ptr 0 0, .dead, .dead, .dead, .dead, .dead, .dead, .dead, .hole (.list .str), .hole (.int .i64), .hole (.int .i64), .dead, .dead, .dead, .dead, .dead, .dead, .dead, .dead, .dead, .dead, .dead, .dead, .dead, .dead, .dead, .dead, .dead, .dead, .dead, .dead, .dead, .dead, .dead, .dead, .dead, .dead, .dead], [some [.bld 0, .whole 0]], [some (.int .u8)]⟩
@[reducible] noncomputable def f42_p1_o0 : Shape := ⟨[.dead, .dead, .dead, .dead, .ptr 0 0, .dead, .dead, .dead, .dead, .dead, .dead, .dead, .dead, .dead, .dead, .dead, .dead, .dead, .dead, .dead, .dead, .dead, .dead, .dead, .dead, .dead, .dead, .dead, .dead, .dead, .dead, .dead, .dead, .dead, .dead, .dead, .dead, .dead, .dead, .dead, .dead, .dead], [some [.bld 0, .whole 0]], [some (.int .u8)]⟩
@[reducible] noncomputable def f42_p1_o1 : Shape := ⟨[.dead, .dead, .hole .str, .hole (.int .i64), .dead, .dead, .dead, .dead, .dead, .dead, .dead, .dead, .dead, .dead, .dead, .dead, .dead, .dead, .dead, .dead, .dead, .dead, .dead, .dead, .dead, .dead, .dead, .dead, .dead, .dead, .dead, .dead, .dead, .dead, .dead, .dead, .dead, .dead, .dead, .dead, .dead, .dead], [], []⟩
@[reducible] noncomputable def f42_p1_outs : List (Ex × Shape) := [(.exit 0, f42_p1_o0), (.ret, f42_p1_o1)]
@[reducible] noncomputable def f42_p1_a : Ann Try.prog 0 true (f42_c.cr.cr.cr.cl.cr.cb.cb) := (.seq (.leaf _) (.seq (.leaf _) (.seq (.block (.seq (.leaf _) (.seq (.seq (.piece _ _ _ f42_p0_ok) (.leaf _)) (.leaf _)))) (.leaf _))))
noncomputable def f42_p1_st (rec : f42_p1_sh.den → Option (OutDen f42_p1_outs)) (y : f42_p1_sh.den) : Option (OutDen f42_p1_outs) := evA f42_E f42_p1_a (fill f42_p1_sh y) fun ex st => match ex with | .normal => (abs f42_p1_sh st).bind rec | e => packOut f42_p1_outs e st
theorem f42_p1_ok : PieceSound Try.prog 0 true (.loop (f42_c.cr.cr.cr.cl.cr.cb.cb)) f42_p1_sh f42_p1_outs (go f42_p1_st) := go_of (f42_E_okE) f42_p1_a rfl rfl fun _ _ => rfl
@[reducible] noncomputable def f42_ps : List KD := [.one (.list .str)]
@[reducible] noncomputable def f42_rs : List KD := [.one .str, .one (.int .i64)]
@[reducible] noncomputable def f42_a : Ann Try.prog 0 true f42_c := (.seq (.leaf _) (.seq (.leaf _) (.seq (.leaf _) (.seq (.seq (.leaf _) (.block (.piece _ _ _ f42_p1_ok))) (.leaf _)))))
noncomputable def f42_F (y : argsDen f42_ps) : Option (argsDen f42_rs) := evFunA f42_E Try.f42 f42_a (encArgs f42_ps y) (decRes f42_rs)
theorem f42_ok : Sound Try.prog 42 (pfun f42_F) := sound_of (c := f42_c) (f42_E_okE) (by kernel_rfl) (by kernel_rfl) (by kernel_rfl) f42_a (fun _ => rfl)
@[reducible] noncomputable def f23_c : Code := codeOf Try.f23
@[reducible] noncomputable def f23_E : Env := envOf Try.prog 9999 [rowOf true f52_ok, rowOf true f42_ok, rowOf true repeat_ok] []
theorem f23_E_okE : EnvOk Try.prog f23_E := envOf_ok _ _ _ mixed
@[reducible] noncomputable def f23_ps : List KD := [.one (.int .i64), .one (.int .i64)]
@[reducible] noncomputable def f23_rs : List KD := [.one .str]
@[reducible] noncomputable def f23_a : Ann Try.prog 0 true f23_c := (.leaf _)
noncomputable def f23_F (y : argsDen f23_ps) : Option (argsDen f23_rs) := evFunA f23_E Try.f23 f23_a (encArgs f23_ps y) (decRes f23_rs)
theorem f23_ok : Sound Try.prog 23 (pfun f23_F) := sound_of (c := f23_c) (f23_E_okE) (by kernel_rfl) (by kernel_rfl) (by kernel_rfl) f23_a (fun _ => rfl)
@[reducible] noncomputable def f54_c : Code := codeOf Try.f54
@[reducible] noncomputable def f54_E : Env := envOf Try.prog 9999 [] []
theorem f54_E_okE : EnvOk Try.prog f54_E := envOf_ok _ _ _ mixed
@[reducible] noncomputable def f54_ps : List KD := [.one .str]
@[reducible] noncomputable def f54_rs : List KD := [.one .bool]
@[reducible] noncomputable def f54_a : Ann Try.prog 0 true f54_c := (.leaf _)
noncomputable def f54_F (y : argsDen f54_ps) : Option (argsDen f54_rs) := evFunA f54_E Try.f54 f54_a (encArgs f54_ps y) (decRes f54_rs)
theorem f54_ok : Sound Try.prog 54 (pfun f54_F) := sound_of (c := f54_c) (f54_E_okE) (by kernel_rfl) (by kernel_rfl) (by kernel_rfl) f54_a (fun _ => rfl)
@[reducible] noncomputable def f74_c : Code := codeOf Try.f74
@[reducible] noncomputable def h74_E : Env := envOf Try.prog 9999 [rowOf true f54_ok] []
theorem h74_E_okE : EnvOk Try.prog h74_E := envOf_ok _ _ _ mixed
@[reducible] noncomputable def h74_p0_sh : Shape := ⟨[.hole (.list .str), .fn (.func 54) [] [], .dead, .dead, .dead, .dead, .dead, .hole (.int .i64), .hole (.int .i64), .dead, .dead, .dead, .dead, .dead, .dead, .dead, .dead, .dead, .dead], [], []⟩
@[reducible] noncomputable def h74_p0_o0 : Shape := ⟨[.dead, .dead, .dead, .dead, .dead, .dead, .dead, .dead, .dead, .dead, .dead, .dead, .dead, .dead, .dead, .dead, .dead, .dead, .dead], [], []⟩
@[reducible] noncomputable def h74_p0_o1 : Shape := ⟨[.dead, .dead, .dead, .dead, .hole (.int .i64), .dead, .dead, .dead, .dead, .dead, .dead, .dead, .dead, .dead, .dead, .dead, .dead, .dead, .dead], [], []⟩
@[reducible] noncomputable def h74_p0_outs : List (Ex × Shape) := [(.exit 0, h74_p0_o0), (.ret, h74_p0_o1)]
@[reducible] noncomputable def h74_p0_a : Ann Try.prog 0 true (f74_c.cr.cl.cr.cb.cb) := (.leaf _)
noncomputable def h74_p0_st (rec : h74_p0_sh.den → Option (OutDen h74_p0_outs)) (y : h74_p0_sh.den) : Option (OutDen h74_p0_outs) := evA h74_E h74_p0_a (fill h74_p0_sh y) fun ex st => match ex with | .normal => (abs h74_p0_sh st).bind rec | e => packOut h74_p0_outs e st
theorem h74_p0_ok : PieceSound Try.prog 0 true (.loop (f74_c.cr.cl.cr.cb.cb)) h74_p0_sh h74_p0_outs (go h74_p0_st) := go_of (h74_E_okE) h74_p0_a rfl rfl fun _ _ => rfl
@[reducible] noncomputable def h74_I : Shape := ⟨[.hole (.list .str), .fn (.func 54) [] []], [], []⟩
@[reducible] noncomputable def h74_O : Shape := ⟨[.hole (.int .i64)], [], []⟩
@[reducible] noncomputable def h74_a : Ann Try.prog 0 true f74_c := (.seq (.leaf _) (.seq (.seq (.leaf _) (.block (.piece _ _ _ h74_p0_ok))) (.leaf _)))
noncomputable def h74_F (y : h74_I.den) : Option h74_O.den := evFunH h74_E Try.f74 h74_a h74_I h74_O y
theorem h74_ok : SoundH Try.prog 74 ⟨h74_I, h74_O, h74_F⟩ := sound_ofH (I := h74_I) (O := h74_O) (c := f74_c) (h74_E_okE) (by kernel_rfl) (by kernel_rfl) (by kernel_rfl) h74_a rfl rfl (fun _ => rfl)
@[reducible] noncomputable def f56_c : Code := codeOf Try.f56
@[reducible] noncomputable def h56_E : Env := envOf Try.prog 9999 [] [⟨74, _, h74_ok⟩]
theorem h56_E_okE : EnvOk Try.prog h56_E := envOf_ok _ _ _ mixed
@[reducible] noncomputable def h56_I : Shape := ⟨[.hole (.list .str), .fn (.func 54) [] []], [], []⟩
@[reducible] noncomputable def h56_O : Shape := ⟨[.hole .bool], [], []⟩
@[reducible] noncomputable def h56_a : Ann Try.prog 0 true f56_c := (.leaf _)
noncomputable def h56_F (y : h56_I.den) : Option h56_O.den := evFunH h56_E Try.f56 h56_a h56_I h56_O y
theorem h56_ok : SoundH Try.prog 56 ⟨h56_I, h56_O, h56_F⟩ := sound_ofH (I := h56_I) (O := h56_O) (c := f56_c) (h56_E_okE) (by kernel_rfl) (by kernel_rfl) (by kernel_rfl) h56_a rfl rfl (fun _ => rfl)
@[reducible] noncomputable def f55_c : Code := codeOf Try.f55
@[reducible] noncomputable def h55_E : Env := envOf Try.prog 9999 [rowOf true f54_ok] []
theorem h55_E_okE : EnvOk Try.prog h55_E := envOf_ok _ _ _ mixed
@[reducible] noncomputable def h55_I : Shape := ⟨[.agg [.hole (.int .i64), .hole .str], .ptr 0 0, .ptr 1 0], [some [.hole (.int .i64)], some [.fn (.func 54) [] []]], []⟩
@[reducible] noncomputable def h55_O : Shape := ⟨[.hole .bool], [some [.hole (.int .i64)], some [.fn (.func 54) [] []]], []⟩
@[reducible] noncomputable def h55_a : Ann Try.prog 2 true f55_c := (.leaf _)
noncomputable def h55_F (y : h55_I.den) : Option h55_O.den := evFunH h55_E Try.f55 h55_a h55_I h55_O y
theorem h55_ok : SoundH Try.prog 55 ⟨h55_I, h55_O, h55_F⟩ := sound_ofH (I := h55_I) (O := h55_O) (c := f55_c) (h55_E_okE) (by kernel_rfl) (by kernel_rfl) (by kernel_rfl) h55_a rfl rfl (fun _ => rfl)
@[reducible] noncomputable def f75_c : Code := codeOf Try.f75
@[reducible] noncomputable def h75_E : Env := envOf Try.prog 9999 [] [⟨55, _, h55_ok⟩]
theorem h75_E_okE : EnvOk Try.prog h75_E := envOf_ok _ _ _ mixed
@[reducible] noncomputable def h75_p0_sh : Shape := ⟨[.hole (.list (.prod (.int .i64) .str)), .fn (.func 55) [] [.ptr 0 0, .ptr 1 0], .dead, .dead, .dead, .dead, .dead, .hole (.int .i64), .hole (.int .i64), .dead, .dead, .dead, .dead, .dead, .dead, .dead, .dead, .dead, .dead], [some [.hole (.int .i64)], some [.fn (.func 54) [] []]], []⟩
@[reducible] noncomputable def h75_p0_o0 : Shape := ⟨[.dead, .dead, .dead, .dead, .dead, .dead, .dead, .dead, .dead, .dead, .dead, .dead, .dead, .dead, .dead, .dead, .dead, .dead, .dead], [some [.hole (.int .i64)], some [.fn (.func 54) [] []]], []⟩
@[reducible] noncomputable def h75_p0_o1 : Shape := ⟨[.dead, .dead, .dead, .dead, .hole (.int .i64), .dead, .dead, .dead, .dead, .dead, .dead, .dead, .dead, .dead, .dead, .dead, .dead, .dead, .dead], [some [.hole (.int .i64)], some [.fn (.func 54) [] []]], []⟩
@[reducible] noncomputable def h75_p0_outs : List (Ex × Shape) := [(.exit 0, h75_p0_o0), (.ret, h75_p0_o1)]
@[reducible] noncomputable def h75_p0_a : Ann Try.prog 2 true (f75_c.cr.cl.cr.cb.cb) := (.leaf _)
noncomputable def h75_p0_st (rec : h75_p0_sh.den → Option (OutDen h75_p0_outs)) (y : h75_p0_sh.den) : Option (OutDen h75_p0_outs) := evA h75_E h75_p0_a (fill h75_p0_sh y) fun ex st => match ex with | .normal => (abs h75_p0_sh st).bind rec | e => packOut h75_p0_outs e st
theorem h75_p0_ok : PieceSound Try.prog 2 true (.loop (f75_c.cr.cl.cr.cb.cb)) h75_p0_sh h75_p0_outs (go h75_p0_st) := go_of (h75_E_okE) h75_p0_a rfl rfl fun _ _ => rfl
@[reducible] noncomputable def h75_I : Shape := ⟨[.hole (.list (.prod (.int .i64) .str)), .fn (.func 55) [] [.ptr 0 0, .ptr 1 0]], [some [.hole (.int .i64)], some [.fn (.func 54) [] []]], []⟩
@[reducible] noncomputable def h75_O : Shape := ⟨[.hole (.int .i64)], [some [.hole (.int .i64)], some [.fn (.func 54) [] []]], []⟩
@[reducible] noncomputable def h75_a : Ann Try.prog 2 true f75_c := (.seq (.leaf _) (.seq (.seq (.leaf _) (.block (.piece _ _ _ h75_p0_ok))) (.leaf _)))
noncomputable def h75_F (y : h75_I.den) : Option h75_O.den := evFunH h75_E Try.f75 h75_a h75_I h75_O y
theorem h75_ok : SoundH Try.prog 75 ⟨h75_I, h75_O, h75_F⟩ := sound_ofH (I := h75_I) (O := h75_O) (c := f75_c) (h75_E_okE) (by kernel_rfl) (by kernel_rfl) (by kernel_rfl) h75_a rfl rfl (fun _ => rfl)
@[reducible] noncomputable def f57_c : Code := codeOf Try.f57
@[reducible] noncomputable def h57_E : Env := envOf Try.prog 9999 [] [⟨75, _, h75_ok⟩]
theorem h57_E_okE : EnvOk Try.prog h57_E := envOf_ok _ _ _ mixed
@[reducible] noncomputable def h57_I : Shape := ⟨[.hole (.list (.prod (.int .i64) .str)), .fn (.func 55) [] [.ptr 0 0, .ptr 1 0]], [some [.hole (.int .i64)], some [.fn (.func 54) [] []]], []⟩
@[reducible] noncomputable def h57_O : Shape := ⟨[.hole .bool], [some [.hole (.int .i64)], some [.fn (.func 54) [] []]], []⟩
@[reducible] noncomputable def h57_a : Ann Try.prog 2 true f57_c := (.leaf _)
noncomputable def h57_F (y : h57_I.den) : Option h57_O.den := evFunH h57_E Try.f57 h57_a h57_I h57_O y
theorem h57_ok : SoundH Try.prog 57 ⟨h57_I, h57_O, h57_F⟩ := sound_ofH (I := h57_I) (O := h57_O) (c := f57_c) (h57_E_okE) (by kernel_rfl) (by kernel_rfl) (by kernel_rfl) h57_a rfl rfl (fun _ => rfl)
@[reducible] noncomputable def f25_c : Code := codeOf Try.f25
@[reducible] noncomputable def f25_E : Env := envOf Try.prog 9999 [] [⟨56, _, h56_ok⟩, ⟨57, _, h57_ok⟩]
theorem f25_E_okE : EnvOk Try.prog f25_E := envOf_ok _ _ _ mixed
@[reducible] noncomputable def f25_p0_sh : Shape := ⟨[.dead, .ptr 0 0, .dead, .ptr 1 0, .dead, .dead, .dead, .dead, .dead, .dead, .dead, .dead, .dead, .dead, .dead, .dead, .dead, .dead, .dead, .dead, .dead, .dead, .dead, .dead, .dead, .dead, .dead, .dead, .dead, .dead, .dead, .dead, .dead, .dead], [some [.hole (.list .str), .hole (.list (.prod (.int .i64) .str))], some [.hole (.int .i64)]], []⟩
@[reducible] noncomputable def f25_p0_o0 : Shape := ⟨[.dead, .ptr 0 0, .dead, .ptr 1 0, .dead, .dead, .dead, .dead, .dead, .dead, .dead, .dead, .dead, .dead, .dead, .dead, .dead, .dead, .dead, .dead, .hole .bool, .dead, .dead, .dead, .dead, .dead, .dead, .dead, .dead, .dead, .dead, .dead, .dead, .dead], [some [.hole (.list .str), .hole (.list (.prod (.int .i64) .str))], some [.hole (.int .i64)]], []⟩
@[reducible] noncomputable def f25_p0_outs : List (Ex × Shape) := [(.normal, f25_p0_o0)]
@[reducible] noncomputable def f25_p0_a : Ann Try.prog 0 true (f25_c.cr.cr.cl.cl) := (.leaf _)
noncomputable def f25_p0_F (y : f25_p0_sh.den) : Option (OutDen f25_p0_outs) := evA f25_E f25_p0_a (fill f25_p0_sh y) (packOut f25_p0_outs)
theorem f25_p0_ok : PieceSound Try.prog 0 true (f25_c.cr.cr.cl.cl) f25_p0_sh f25_p0_outs f25_p0_F := piece_of (f25_E_okE) f25_p0_a rfl rfl fun _ => rfl
@[reducible] noncomputable def f25_ps : List KD := [.agg [(.list .str), (.list (.prod (.int .i64) .str))]]
@[reducible] noncomputable def f25_rs : List KD := [.one .bool]
@[reducible] noncomputable def f25_a : Ann Try.prog 0 true f25_c := (.seq (.leaf _) (.seq (.leaf _) (.seq (.seq (.piece _ _ _ f25_p0_ok) (.leaf _)) (.leaf _))))
noncomputable def f25_F (y : argsDen f25_ps) : Option (argsDen f25_rs) := evFunA f25_E Try.f25 f25_a (encArgs f25_ps y) (decRes f25_rs)
theorem f25_ok : Sound Try.prog 25 (pfun f25_F) := sound_of (c := f25_c) (f25_E_okE) (by kernel_rfl) (by kernel_rfl) (by kernel_rfl) f25_a (fun _ => rfl)
@[reducible] noncomputable def f27_c : Code := codeOf Try.f27
@[reducible] noncomputable def f27_E : Env := envOf Try.prog 9999 [] []
theorem f27_E_okE : EnvOk Try.prog f27_E := envOf_ok _ _ _ mixed
@[reducible] noncomputable def f27_ps : List KD := [.agg [(.list .str), (.list (.prod (.int .i64) .str))], .one (.int .i64)]
@[reducible] noncomputable def f27_rs : List KD := [.one (.int .i64), .one (.list .str)]
@[reducible] noncomputable def f27_a : Ann Try.prog 0 true f27_c := (.leaf _)
noncomputable def f27_F (y : argsDen f27_ps) : Option (argsDen f27_rs) := evFunA f27_E Try.f27 f27_a (encArgs f27_ps y) (decRes f27_rs)
theorem f27_ok : Sound Try.prog 27 (pfun f27_F) := sound_of (c := f27_c) (f27_E_okE) (by kernel_rfl) (by kernel_rfl) (by kernel_rfl) f27_a (fun _ => rfl)
@[reducible] noncomputable def f59_c : Code := codeOf Try.f59
@[reducible] noncomputable def f59_E : Env := envOf Try.prog 9999 [] []
theorem f59_E_okE : EnvOk Try.prog f59_E := envOf_ok _ _ _ mixed
@[reducible] noncomputable def f59_p0_sh : Shape := ⟨[.hole .str, .dead, .dead, .dead, .hole (.int .u64), .dead, .dead, .dead, .dead, .dead, .hole (.int .i64), .hole (.int .i64), .dead, .dead, .dead, .dead, .dead, .dead, .dead, .dead, .dead, .dead, .dead], [], []⟩
@[reducible] noncomputable def f59_p0_o0 : Shape := ⟨[.dead, .dead, .dead, .dead, .hole (.int .u64), .dead, .dead, .dead, .dead, .dead, .dead, .dead, .dead, .dead, .dead, .dead, .dead, .dead, .dead, .dead, .dead, .dead, .dead], [], []⟩
@[reducible] noncomputable def f59_p0_outs : List (Ex × Shape) := [(.exit 0, f59_p0_o0)]
@[reducible] noncomputable def f59_p0_a : Ann Try.prog 0 true (f59_c.cr.cr.cr.cl.cr.cb.cb) := (.leaf _)
noncomputable def f59_p0_st (rec : f59_p0_sh.den → Option (OutDen f59_p0_outs)) (y : f59_p0_sh.den) : Option (OutDen f59_p0_outs) := evA f59_E f59_p0_a (fill f59_p0_sh y) fun ex st => match ex with | .normal => (abs f59_p0_sh st).bind rec | e => packOut f59_p0_outs e st
theorem f59_p0_ok : PieceSound Try.prog 0 true (.loop (f59_c.cr.cr.cr.cl.cr.cb.cb)) f59_p0_sh f59_p0_outs (go f59_p0_st) := go_of (f59_E_okE) f59_p0_a rfl rfl fun _ _ => rfl
@[reducible] noncomputable def f59_ps : List KD := [.one .str]
@[reducible] noncomputable def f59_rs : List KD := [.one (.int .u64), .one (.int .i64)]
@[reducible] noncomputable def f59_a : Ann Try.prog 0 true f59_c := (.seq (.leaf _) (.seq (.leaf _) (.seq (.leaf _) (.seq (.seq (.leaf _) (.block (.piece _ _ _ f59_p0_ok))) (.leaf _)))))
noncomputable def f59_F (y : argsDen f59_ps) : Option (argsDen f59_rs) := evFunA f59_E Try.f59 f59_a (encArgs f59_ps y) (decRes f59_rs)
theorem f59_ok : Sound Try.prog 59 (pfun f59_F) := sound_of (c := f59_c) (f59_E_okE) (by kernel_rfl) (by kernel_rfl) (by kernel_rfl) f59_a (fun _ => rfl)
@[reducible] noncomputable def f58_c : Code := codeOf Try.f58
@[reducible] noncomputable def f58_E : Env := envOf Try.prog 9999 [rowOf true f59_ok] []
theorem f58_E_okE : EnvOk Try.prog f58_E := envOf_ok _ _ _ mixed
@[reducible] noncomputable def f58_p0_sh : Shape := ⟨[.hole .str, .dead, .dead, .dead, .whole 0, .dead, .dead, .dead, .dead, .dead, .dead, .dead, .dead, .dead, .dead, .dead, .dead, .dead, .dead, .dead, .dead, .dead, .dead, .dead, .dead, .dead, .dead, .dead, .dead, .dead, .dead, .dead, .dead, .dead, .dead, .dead, .dead, .dead, .dead, .dead, .dead, .dead, .dead], [], [some .str]⟩
@[reducible] noncomputable def f58_p0_o0 : Shape := ⟨[.dead, .dead, .dead, .dead, .whole 0, .dead, .dead, .dead, .dead, .dead, .dead, .dead, .dead, .dead, .dead, .dead, .dead, .dead, .dead, .dead, .dead, .dead, .dead, .dead, .dead, .dead, .dead, .dead, .dead, .dead, .dead, .dead, .dead, .dead, .dead, .dead, .dead, .dead, .dead, .dead, .dead, .dead, .dead], [], [some .str]⟩
@[reducible] noncomputable def f58_p0_o1 : Shape := ⟨[.dead, .dead, .nilS, .hole (.int .i64), .dead, .dead, .dead, .dead, .dead, .dead, .dead, .dead, .dead, .dead, .dead, .dead, .dead, .dead, .dead, .dead, .dead, .dead, .dead, .dead, .dead, .dead, .dead, .dead, .dead, .dead, .dead, .dead, .dead, .dead, .dead, .dead, .dead, .dead, .dead, .dead, .dead, .dead, .dead], [], []⟩
@[reducible] noncomputable def f58_p0_outs : List (Ex × Shape) := [(.exit 0, f58_p0_o0), (.ret, f58_p0_o1)]
@[reducible] noncomputable def f58_p0_a : Ann Try.prog 0 true (f58_c.cr.cr.cr.cl.cb.cb) := (.leaf _)
noncomputable def f58_p0_st (rec : f58_p0_sh.den → Option (OutDen f58_p0_outs)) (y : f58_p0_sh.den) : Option (OutDen f58_p0_outs) := evA f58_E f58_p0_a (fill f58_p0_sh y) fun ex st => match ex with | .normal => (abs f58_p0_sh st).bind rec | e => packOut f58_p0_outs e st
theorem f58_p0_ok : PieceSound Try.prog 0 true (.loop (f58_c.cr.cr.cr.cl.cb.cb)) f58_p0_sh f58_p0_outs (go f58_p0_st) := go_of (f58_E_okE) f58_p0_a rfl rfl fun _ _ => rfl
@[reducible] noncomputable def f58_ps : List KD := [.one .str]
@[reducible] noncomputable def f58_rs : List KD := [.one (.list .str), .one (.int .i64)]
@[reducible] noncomputable def f58_a : Ann Try.prog 0 true f58_c := (.seq (.leaf _) (.seq (.leaf _) (.seq (.leaf _) (.seq (.block (.piece _ _ _ f58_p0_ok)) (.leaf _)))))
noncomputable def f58_F (y : argsDen f58_ps) : Option (argsDen f58_rs) := evFunA f58_E Try.f58 f58_a (encArgs f58_ps y) (decRes f58_rs)
theorem f58_ok : Sound Try.prog 58 (pfun f58_F) := sound_of (c := f58_c) (f58_E_okE) (by kernel_rfl) (by kernel_rfl) (by kernel_rfl) f58_a (fun _ => rfl)
@[reducible] noncomputable def f26_c : Code := codeOf Try.f26
@[reducible] noncomputable def f26_E : Env := envOf Try.prog 9999 [rowOf false f27_ok, rowOf false f58_ok, rowOf true f59_ok, rowOf true f23_ok] []
theorem f26_E_okE : EnvOk Try.prog f26_E := envOf_ok _ _ _ mixed
@[reducible] noncomputable def f26_p0_sh : Shape := ⟨[.dead, .dead, .dead, .dead, .dead, .dead, .dead, .hole (.list .str), .hole .str, .dead, .dead, .dead, .hole (.int .u64), .dead, .hole (.int .u64), .dead, .dead, .dead, .dead, .dead, .dead, .dead, .dead, .dead, .dead, .dead, .dead, .dead, .dead, .dead, .dead, .dead, .dead, .dead, .dead, .dead, .dead, .dead, .dead, .dead, .dead, .dead, .dead, .dead, .dead, .dead, .dead, .dead, .dead, .dead, .dead, .dead, .dead, .dead, .dead, .dead, .dead, .dead, .dead, .dead, .dead, .dead, .dead, .dead, .dead, .dead, .dead, .dead, .dead, .dead, .dead, .dead, .dead, .dead, .dead, .dead, .dead, .dead], [none], []⟩
@[reducible] noncomputable def f26_p0_o0 : Shape := ⟨[.dead, .dead, .dead, .dead, .dead, .dead, .dead, .dead, .dead, .dead, .dead, .dead, .hole (.int .u64), .dead, .hole (.int .u64), .dead, .dead, .dead, .dead, .dead, .dead, .dead, .dead, .dead, .dead, .dead, .dead, .dead, .dead, .dead, .dead, .dead, .dead, .dead, .dead, .dead, .dead, .dead, .dead, .dead, .dead, .dead, .dead, .dead, .dead, .dead, .dead, .dead, .dead, .dead, .dead, .dead, .dead, .dead, .dead, .dead, .dead, .dead, .dead, .dead, .dead, .dead, .dead, .dead, .dead, .dead, .dead, .dead, .dead, .dead, .dead, .dead, .dead, .hole .bool, .dead, .dead, .dead, .dead], [], []⟩
@[reducible] noncomputable def f26_p0_outs : List (Ex × Shape) := [(.normal, f26_p0_o0)]
@[reducible] noncomputable def f26_p0_a : Ann Try.prog 0 true (f26_c.cr.cr.cr.cr.cr.cr.cr.cr.cl.cl) := (.leaf _)
noncomputable def f26_p0_F (y : f26_p0_sh.den) : Option (OutDen f26_p0_outs) := evA f26_E f26_p0_a (fill f26_p0_sh y) (packOut f26_p0_outs)
theorem f26_p0_ok : PieceSound Try.prog 0 true (f26_c.cr.cr.cr.cr.cr.cr.cr.cr.cl.cl) f26_p0_sh f26_p0_outs f26_p0_F := piece_of (f26_E_okE) f26_p0_a rfl rfl fun _ => rfl
@[reducible] noncomputable def f26_p1_sh : Shape := ⟨[.dead, .dead, .dead, .dead, .dead, .dead, .dead, .hole (.list .str), .hole .str, .dead, .hole (.list .str), .dead, .hole (.int .u64), .dead, .dead, .dead, .dead, .dead, .dead, .dead, .dead, .dead, .dead, .dead, .dead, .dead, .dead, .dead, .dead, .dead, .dead, .dead, .dead, .dead, .dead, .dead, .dead, .dead, .dead, .dead, .dead, .dead, .dead, .dead, .dead, .dead, .dead, .dead, .dead, .dead, .dead, .dead, .dead, .dead, .dead, .dead, .dead, .dead, .dead, .dead, .dead, .dead, .dead, .dead, .dead, .dead, .dead, .dead, .dead, .dead, .dead, .dead, .dead, .dead, .dead, .dead, .dead, .dead], [none], []⟩
@[reducible] noncomputable def f26_p1_o0 : Shape := ⟨[.dead, .dead, .dead, .dead, .hole (.int .i64), .hole (.int .i64), .dead, .dead, .dead, .dead, .dead, .dead, .dead, .dead, .dead, .dead, .dead, .dead, .dead, .dead, .dead, .dead, .dead, .dead, .dead, .dead, .dead, .dead, .dead, .dead, .dead, .dead, .dead, .dead, .dead, .dead, .dead, .dead, .dead, .dead, .dead, .dead, .dead, .dead, .dead, .dead, .dead, .dead, .dead, .dead, .dead, .dead, .dead, .dead, .dead, .dead, .dead, .dead, .dead, .dead, .dead, .dead, .dead, .dead, .dead, .dead, .dead, .dead, .dead, .dead, .dead, .dead, .dead, .dead, .dead, .dead, .dead, .dead], [], []⟩
@[reducible] noncomputable def f26_p1_outs : List (Ex × Shape) := [(.ret, f26_p1_o0)]
@[reducible] noncomputable def f26_p1_a : Ann Try.prog 0 true (f26_c.cr.cr.cr.cr.cr.cr.cr) := (.seq (.leaf _) (.seq (.seq (.piece _ _ _ f26_p0_ok) (.leaf _)) (.leaf _)))
noncomputable def f26_p1_F (y : f26_p1_sh.den) : Option (OutDen f26_p1_outs) := evA f26_E f26_p1_a (fill f26_p1_sh y) (packOut f26_p1_outs)
theorem f26_p1_ok : PieceSound Try.prog 0 true (f26_c.cr.cr.cr.cr.cr.cr.cr) f26_p1_sh f26_p1_outs f26_p1_F := piece_of (f26_E_okE) f26_p1_a rfl rfl fun _ => rfl
@[reducible] noncomputable def f26_ps : List KD := [.agg [(.list .str), (.list (.prod (.int .i64) .str))], .one (.int .i64)]
@[reducible] noncomputable def f26_rs : List KD := [.one (.int .i64), .one (.int .i64)]
@[reducible] noncomputable def f26_a : Ann Try.prog 0 true f26_c := (.seq (.leaf _) (.seq (.leaf _) (.seq (.leaf _) (.seq (.leaf _) (.seq (.leaf _) (.seq (.leaf _) (.seq (.leaf _) (.piece _ _ _ f26_p1_ok))))))))
noncomputable def f26_F (y : argsDen f26_ps) : Option (argsDen f26_rs) := evFunA f26_E Try.f26 f26_a (encArgs f26_ps y) (decRes f26_rs)
theorem f26_ok : Sound Try.prog 26 (pfun f26_F) := sound_of (c := f26_c) (f26_E_okE) (by kernel_rfl) (by kernel_rfl) (by kernel_rfl) f26_a (fun _ => rfl)
@[reducible] noncomputable def f76_c : Code := codeOf Try.f76
@[reducible] noncomputable def f76_E : Env := envOf Try.prog 9999 [] []
theorem f76_E_okE : EnvOk Try.prog f76_E := envOf_ok _ _ _ mixed
@[reducible] noncomputable def f76_ps : List KD := [.one .str]
@[reducible] noncomputable def f76_rs : List KD := [.one .bool]
@[reducible] noncomputable def f76_a : Ann Try.prog 0 true f76_c := (.leaf _)
noncomputable def f76_F (y : argsDen f76_ps) : Option (argsDen f76_rs) := evFunA f76_E Try.f76 f76_a (encArgs f76_ps y) (decRes f76_rs)
theorem f76_ok : Sound Try.prog 76 (pfun f76_F) := sound_of (c := f76_c) (f76_E_okE) (by kernel_rfl) (by kernel_rfl) (by kernel_rfl) f76_a (fun _ => rfl)
@[reducible] noncomputable def h74a_E : Env := envOf Try.prog 9999 [rowOf true f76_ok] []
theorem h74a_E_okE : EnvOk Try.prog h74a_E := envOf_ok _ _ _ mixed
@[reducible] noncomputable def h74a_p0_sh : Shape := ⟨[.hole (.list .str), .fn (.func 76) [] [], .dead, .dead, .dead, .dead, .dead, .hole (.int .i64), .hole (.int .i64), .dead, .dead, .dead, .dead, .dead, .dead, .dead, .dead, .dead, .dead], [], []⟩
@[reducible] noncomputable def h74a_p0_o0 : Shape := ⟨[.dead, .dead, .dead, .dead, .dead, .dead, .dead, .dead, .dead, .dead, .dead, .dead, .dead, .dead, .dead, .dead, .dead, .dead, .dead], [], []⟩
@[reducible] noncomputable def h74a_p0_o1 : Shape := ⟨[.dead, .dead, .dead, .dead, .hole (.int .i64), .dead, .dead, .dead, .dead, .dead, .dead, .dead, .dead, .dead, .dead, .dead, .dead, .dead, .dead], [], []⟩
@[reducible] noncomputable def h74a_p0_outs : List (Ex × Shape) := [(.exit 0, h74a_p0_o0), (.ret, h74a_p0_o1)]
@[reducible] noncomputable def h74a_p0_a : Ann Try.prog 0 true (f74_c.cr.cl.cr.cb.cb) := (.leaf _)
noncomputable def h74a_p0_st (rec : h74a_p0_sh.den → Option (OutDen h74a_p0_outs)) (y : h74a_p0_sh.den) : Option (OutDen h74a_p0_outs) := evA h74a_E h74a_p0_a (fill h74a_p0_sh y) fun ex st => match ex with | .normal => (abs h74a_p0_sh st).bind rec | e => packOut h74a_p0_outs e st
theorem h74a_p0_ok : PieceSound Try.prog 0 true (.loop (f74_c.cr.cl.cr.cb.cb)) h74a_p0_sh h74a_p0_outs (go h74a_p0_st) := go_of (h74a_E_okE) h74a_p0_a rfl rfl fun _ _ => rfl
@[reducible] noncomputable def h74a_I : Shape := ⟨[.hole (.list .str), .fn (.func 76) [] []], [], []⟩
@[reducible] noncomputable def h74a_O : Shape := ⟨[.hole (.int .i64)], [], []⟩
@[reducible] noncomputable def h74a_a : Ann Try.prog 0 true f74_c := (.seq (.leaf _) (.seq (.seq (.leaf _) (.block (.piece _ _ _ h74a_p0_ok))) (.leaf _)))
noncomputable def h74a_F (y : h74a_I.den) : Option h74a_O.den := evFunH h74a_E Try.f74 h74a_a h74a_I h74a_O y
theorem h74a_ok : SoundH Try.prog 74 ⟨h74a_I, h74a_O, h74a_F⟩ := sound_ofH (I := h74a_I) (O := h74a_O) (c := f74_c) (h74a_E_okE) (by kernel_rfl) (by kernel_rfl) (by kernel_rfl) h74a_a rfl rfl (fun _ => rfl)
@[reducible] noncomputable def h56a_E : Env := envOf Try.prog 9999 [] [⟨74, _, h74a_ok⟩]
theorem h56a_E_okE : EnvOk Try.prog h56a_E := envOf_ok _ _ _ mixed
@[reducible] noncomputable def h56a_I : Shape := ⟨[.hole (.list .str), .fn (.func 76) [] []], [], []⟩
@[reducible] noncomputable def h56a_O : Shape := ⟨[.hole .bool], [], []⟩
@[reducible] noncomputable def h56a_a : Ann Try.prog 0 true f56_c := (.leaf _)
noncomputable def h56a_F (y : h56a_I.den) : Option h56a_O.den := evFunH h56a_E Try.f56 h56a_a h56a_I h56a_O y
theorem h56a_ok : SoundH Try.prog 56 ⟨h56a_I, h56a_O, h56a_F⟩ := sound_ofH (I := h56a_I) (O := h56a_O) (c := f56_c) (h56a_E_okE) (by kernel_rfl) (by kernel_rfl) (by kernel_rfl) h56a_a rfl rfl (fun _ => rfl)
@[reducible] noncomputable def f60_c : Code := codeOf Try.f60
@[reducible] noncomputable def f60_E : Env := envOf Try.prog 9999 [] [⟨56, _, h56a_ok⟩]
theorem f60_E_okE : EnvOk Try.prog f60_E := envOf_ok _ _ _ mixed
@[reducible] noncomputable def f60_ps : List KD := [.agg [(.list .str), (.int .i64)]]
@[reducible] noncomputable def f60_rs : List KD := [.one .bool]
@[reducible] noncomputable def f60_a : Ann Try.prog 0 true f60_c := (.leaf _)
noncomputable def f60_F (y : argsDen f60_ps) : Option (argsDen f60_rs) := evFunA f60_E Try.f60 f60_a (encArgs f60_ps y) (decRes f60_rs)
theorem f60_ok : Sound Try.prog 60 (pfun f60_F) := sound_of (c := f60_c) (f60_E_okE) (by kernel_rfl) (by kernel_rfl) (by kernel_rfl) f60_a (fun _ => rfl)
@[reducible] noncomputable def f61_c : Code := codeOf Try.f61
@[reducible] noncomputable def f61_E : Env := envOf Try.prog 9999 [rowOf true join_ok] []
theorem f61_E_okE : EnvOk Try.prog f61_E := envOf_ok _ _ _ mixed
@[reducible] noncomputable def f61_ps : List KD := [.agg [(.list .str)]]
@[reducible] noncomputable def f61_rs : List KD := [.one .str]
@[reducible] noncomputable def f61_a : Ann Try.prog 0 true f61_c := (.leaf _)
noncomputable def f61_F (y : argsDen f61_ps) : Option (argsDen f61_rs) := evFunA f61_E Try.f61 f61_a (encArgs f61_ps y) (decRes f61_rs)
theorem f61_ok : Sound Try.prog 61 (pfun f61_F) := sound_of (c := f61_c) (f61_E_okE) (by kernel_rfl) (by kernel_rfl) (by kernel_rfl) f61_a (fun _ => rfl)
@[reducible] noncomputable def f28_c : Code := codeOf Try.f28
@[reducible] noncomputable def f28_E : Env := envOf Try.prog 9999 [rowOf true f60_ok, rowOf true f61_ok] []
theorem f28_E_okE : EnvOk Try.prog f28_E := envOf_ok _ _ _ mixed
@[reducible] noncomputable def f28_ps : List KD := [.one (.list .str), .one (.int .i64)]
@[reducible] noncomputable def f28_rs : List KD := [.one .str, .one (.int .i64)]
@[reducible] noncomputable def f28_a : Ann Try.prog 0 true f28_c := (.leaf _)
noncomputable def f28_F (y : argsDen f28_ps) : Option (argsDen f28_rs) := evFunA f28_E Try.f28 f28_a (encArgs f28_ps y) (decRes f28_rs)
theorem f28_ok : Sound Try.prog 28 (pfun f28_F) := sound_of (c := f28_c) (f28_E_okE) (by kernel_rfl) (by kernel_rfl) (by kernel_rfl) f28_a (fun _ => rfl)
@[reducible] noncomputable def f62_c : Code := codeOf Try.f62
@[reducible] noncomputable def f62_E : Env := envOf Try.prog 9999 [rowOf true f59_ok] []
theorem f62_E_okE : EnvOk Try.prog f62_E := envOf_ok _ _ _ mixed
@[reducible] noncomputable def f62_p0_sh : Shape := ⟨[.hole .str, .dead, .dead, .dead, .whole 0, .hole (.int .u64), .dead, .dead, .dead, .dead, .dead, .dead, .dead, .dead, .dead, .dead, .dead, .dead, .dead, .dead, .dead, .dead, .dead, .dead, .dead, .dead, .dead, .dead, .dead, .dead, .dead, .dead, .dead, .dead, .dead, .dead, .dead, .dead, .dead], [], [some .str]⟩
@[reducible] noncomputable def f62_p0_o0 : Shape := ⟨[.hole .str, .dead, .dead, .dead, .whole 0, .hole (.int .u64), .dead, .dead, .dead, .dead, .dead, .dead, .dead, .dead, .dead, .dead, .dead, .dead, .dead, .dead, .dead, .dead, .dead, .dead, .dead, .dead, .dead, .dead, .hole .bool, .dead, .dead, .dead, .dead, .dead, .dead, .dead, .dead, .dead, .dead], [], [some .str]⟩
@[reducible] noncomputable def f62_p0_outs : List (Ex × Shape) := [(.normal, f62_p0_o0)]
@[reducible] noncomputable def f62_p0_a : Ann Try.prog 0 true (f62_c.cr.cr.cl.cb.cb.cr.cb.cr.cr.cl.cr.cl) := (.leaf _)
noncomputable def f62_p0_F (y : f62_p0_sh.den) : Option (OutDen f62_p0_outs) := evA f62_E f62_p0_a (fill f62_p0_sh y) (packOut f62_p0_outs)
theorem f62_p0_ok : PieceSound Try.prog 0 true (f62_c.cr.cr.cl.cb.cb.cr.cb.cr.cr.cl.cr.cl) f62_p0_sh f62_p0_outs f62_p0_F := piece_of (f62_E_okE) f62_p0_a rfl rfl fun _ => rfl
@[reducible] noncomputable def f62_p1_sh : Shape := ⟨[.hole .str, .dead, .dead, .dead, .whole 0, .dead, .dead, .dead, .dead, .dead, .dead, .dead, .dead, .dead, .dead, .dead, .dead, .dead, .dead, .dead, .dead, .dead, .dead, .dead, .dead, .dead, .dead, .dead, .dead, .dead, .dead, .dead, .dead, .dead, .dead, .dead, .dead, .dead, .dead], [], [some .str]⟩
@[reducible] noncomputable def f62_p1_o0 : Shape := ⟨[.dead, .dead, .dead, .dead, .whole 0, .dead, .dead, .dead, .dead, .dead, .dead, .dead, .dead, .dead, .dead, .dead, .dead, .dead, .dead, .dead, .dead, .dead, .dead, .dead, .dead, .dead, .dead, .dead, .dead, .dead, .dead, .dead, .dead, .dead, .dead, .dead, .dead, .dead, .dead], [], [some .str]⟩
@[reducible] noncomputable def f62_p1_o1 : Shape := ⟨[.dead, .dead, .nilS, .hole (.int .i64), .dead, .dead, .dead, .dead, .dead, .dead, .dead, .dead, .dead, .dead, .dead, .dead, .dead, .dead, .dead, .dead, .dead, .dead, .dead, .dead, .dead, .dead, .dead, .dead, .dead, .dead, .dead, .dead, .dead, .dead, .dead, .dead, .dead, .dead, .dead], [], []⟩
@[reducible] noncomputable def f62_p1_outs : List (Ex × Shape) := [(.exit 0, f62_p1_o0), (.ret, f62_p1_o1)]
@[reducible] noncomputable def f62_p1_a : Ann Try.prog 0 true (f62_c.cr.cr.cl.cb.cb) := (.seq (.leaf _) (.block (.seq (.leaf _) (.seq (.leaf _) (.seq (.seq (.leaf _) (.seq (.piece _ _ _ f62_p0_ok) (.leaf _))) (.leaf _))))))
noncomputable def f62_p1_st (rec : f62_p1_sh.den → Option (OutDen f62_p1_outs)) (y : f62_p1_sh.den) : Option (OutDen f62_p1_outs) := evA f62_E f62_p1_a (fill f62_p1_sh y) fun ex st => match ex with | .normal => (abs f62_p1_sh st).bind rec | e => packOut f62_p1_outs e st
theorem f62_p1_ok : PieceSound Try.prog 0 true (.loop (f62_c.cr.cr.cl.cb.cb)) f62_p1_sh f62_p1_outs (go f62_p1_st) := go_of (f62_E_okE) f62_p1_a rfl rfl fun _ _ => rfl
@[reducible] noncomputable def f62_ps : List KD := [.one .str]
@[reducible] noncomputable def f62_rs : List KD := [.one (.list .str), .one (.int .i64)]
@[reducible] noncomputable def f62_a : Ann Try.prog 0 true f62_c := (.seq (.leaf _) (.seq (.leaf _) (.seq (.block (.piece _ _ _ f62_p1_ok)) (.leaf _))))
noncomputable def f62_F (y : argsDen f62_ps) : Option (argsDen f62_rs) := evFunA f62_E Try.f62 f62_a (encArgs f62_ps y) (decRes f62_rs)
theorem f62_ok : Sound Try.prog 62 (pfun f62_F) := sound_of (c := f62_c) (f62_E_okE) (by kernel_rfl) (by kernel_rfl) (by kernel_rfl) f62_a (fun _ => rfl)
@[reducible] noncomputable def f41_c : Code := codeOf Try.f41
@[reducible] noncomputable def f41_E : Env := envOf Try.prog 9999 [] []
theorem f41_E_okE : EnvOk Try.prog f41_E := envOf_ok _ _ _ mixed
@[reducible] noncomputable def f41_p0_sh : Shape := ⟨[.hole (.list .str), .dead, .dead, .hole (.int .i64), .dead, .dead, .dead, .dead, .dead, .dead, .dead, .dead, .dead, .dead, .dead, .dead, .dead, .dead, .dead, .dead, .dead, .dead, .dead, .dead, .dead, .dead, .dead, .dead, .dead, .dead, .dead, .dead, .dead, .dead, .dead, .dead, .dead, .dead, .dead, .dead, .dead, .dead, .dead, .dead, .dead, .dead, .dead], [], []⟩
@[reducible] noncomputable def f41_p0_o0 : Shape := ⟨[.hole (.list .str), .dead, .dead, .hole (.int .i64), .dead, .dead, .dead, .dead, .dead, .dead, .dead, .dead, .dead, .dead, .dead, .dead, .dead, .dead, .dead, .dead, .dead, .dead, .dead, .dead, .dead, .dead, .dead, .dead, .dead, .dead, .dead, .dead, .dead, .dead, .dead, .dead, .dead, .dead, .dead, .dead, .dead, .dead, .dead, .dead, .dead, .dead, .hole .bool], [], []⟩
@[reducible] noncomputable def f41_p0_outs : List (Ex × Shape) := [(.normal, f41_p0_o0)]
@[reducible] noncomputable def f41_p0_a : Ann Try.prog 0 true (f41_c.cr.cr.cl.cr.cb.cb.cr.cl.cb.cl) := (.leaf _)
noncomputable def f41_p0_F (y : f41_p0_sh.den) : Option (OutDen f41_p0_outs) := evA f41_E f41_p0_a (fill f41_p0_sh y) (packOut f41_p0_outs)
theorem f41_p0_ok : PieceSound Try.prog 0 true (f41_c.cr.cr.cl.cr.cb.cb.cr.cl.cb.cl) f41_p0_sh f41_p0_outs f41_p0_F := piece_of (f41_E_okE) f41_p0_a rfl rfl fun _ => rfl
@[reducible] noncomputable def f41_p1_sh : Shape := ⟨[.hole (.list .str), .dead, .dead, .hole (.int .i64), .dead, .dead, .dead, .dead, .dead, .dead, .dead, .dead, .dead, .dead, .dead, .dead, .dead, .dead, .dead, .dead, .dead, .dead, .dead, .dead, .dead, .dead, .dead, .dead, .dead, .dead, .dead, .dead, .dead, .dead, .dead, .dead, .dead, .dead, .dead, .dead, .dead, .dead, .dead, .dead, .dead, .dead, .dead], [], []⟩
@[reducible] noncomputable def f41_p1_o0 : Shape := ⟨[.dead, .dead, .dead, .dead, .dead, .dead, .dead, .dead, .dead, .dead, .dead, .dead, .dead, .dead, .dead, .dead, .dead, .dead, .dead, .dead, .dead, .dead, .dead, .dead, .dead, .dead, .dead, .dead, .dead, .dead, .dead, .dead, .dead, .dead, .dead, .dead, .dead, .dead, .dead, .dead, .dead, .dead, .dead, .dead, .dead, .dead, .dead], [], []⟩
@[reducible] noncomputable def f41_p1_o1 : Shape := ⟨[.dead, .dead, .hole .bool, .dead, .dead, .dead, .dead, .dead, .dead, .dead, .dead, .dead, .dead, .dead, .dead, .dead, .dead, .dead, .dead, .dead, .dead, .dead, .dead, .dead, .dead, .dead, .dead, .dead, .dead, .dead, .dead, .dead, .dead, .dead, .dead, .dead, .dead, .dead, .dead, .dead, .dead, .dead, .dead, .dead, .dead, .dead, .dead], [], []⟩
@[reducible] noncomputable def f41_p1_outs : List (Ex × Shape) := [(.exit 0, f41_p1_o0), (.ret, f41_p1_o1)]
@[reducible] noncomputable def f41_p1_a : Ann Try.prog 0 true (f41_c.cr.cr.cl.cr.cb.cb) := (.seq (.leaf _) (.seq (.block (.seq (.piece _ _ _ f41_p0_ok) (.leaf _))) (.leaf _)))
noncomputable def f41_p1_st (rec : f41_p1_sh.den → Option (OutDen f41_p1_outs)) (y : f41_p1_sh.den) : Option (OutDen f41_p1_outs) := evA f41_E f41_p1_a (fill f41_p1_sh y) fun ex st => match ex with | .normal => (abs f41_p1_sh st).bind rec | e => packOut f41_p1_outs e st
theorem f41_p1_ok : PieceSound Try.prog 0 true (.loop (f41_c.cr.cr.cl.cr.cb.cb)) f41_p1_sh f41_p1_outs (go f41_p1_st) := go_of (f41_E_okE) f41_p1_a rfl rfl fun _ _ => rfl
@[reducible] noncomputable def f41_p2_sh : Shape := ⟨[.hole (.list .str), .dead, .dead, .dead, .dead, .dead, .dead, .dead, .dead, .dead, .dead, .dead, .dead, .dead, .dead, .dead, .dead, .dead, .dead, .dead, .dead, .dead, .dead, .dead, .dead, .dead, .dead, .dead, .dead, .dead, .dead, .dead, .dead, .dead, .dead, .dead, .dead, .dead, .dead, .dead, .dead, .dead, .dead, .dead, .dead, .dead, .dead], [], []⟩
@[reducible] noncomputable def f41_p2_o0 : Shape := ⟨[.hole (.list .str), .dead, .dead, .dead, .dead, .dead, .dead, .dead, .dead, .dead, .dead, .dead, .dead, .dead, .dead, .dead, .dead, .hole .bool, .dead, .dead, .dead, .dead, .dead, .dead, .dead, .dead, .dead, .dead, .dead, .dead, .dead, .dead, .dead, .dead, .dead, .dead, .dead, .dead, .dead, .dead, .dead, .dead, .dead, .dead, .dead, .dead, .dead], [], []⟩
@[reducible] noncomputable def f41_p2_outs : List (Ex × Shape) := [(.normal, f41_p2_o0)]
@[reducible] noncomputable def f41_p2_a : Ann Try.prog 0 true (f41_c.cr.cl.cl) := (.leaf _)
noncomputable def f41_p2_F (y : f41_p2_sh.den) : Option (OutDen f41_p2_outs) := evA f41_E f41_p2_a (fill f41_p2_sh y) (packOut f41_p2_outs)
theorem f41_p2_ok : PieceSound Try.prog 0 true (f41_c.cr.cl.cl) f41_p2_sh f41_p2_outs f41_p2_F := piece_of (f41_E_okE) f41_p2_a rfl rfl fun _ => rfl
@[reducible] noncomputable def f41_ps : List KD := [.one (.list .str)]
@[reducible] noncomputable def f41_rs : List KD := [.one .bool]
@[reducible] noncomputable def f41_a : Ann Try.prog 0 true f41_c := (.seq (.leaf _) (.seq (.seq (.piece _ _ _ f41_p2_ok) (.leaf _)) (.seq (.seq (.leaf _) (.block (.piece _ _ _ f41_p1_ok))) (.leaf _))))
noncomputable def f41_F (y : argsDen f41_ps) : Option (argsDen f41_rs) := evFunA f41_E Try.f41 f41_a (encArgs f41_ps y) (decRes f41_rs)
theorem f41_ok : Sound Try.prog 41 (pfun f41_F) := sound_of (c := f41_c) (f41_E_okE) (by kernel_rfl) (by kernel_rfl) (by kernel_rfl) f41_a (fun _ => rfl)
@[reducible] noncomputable def f29_c : Code := codeOf Try.f29
@[reducible] noncomputable def f29_E : Env := envOf Try.prog 9999 [rowOf false f62_ok, rowOf false f58_ok, rowOf true f41_ok] []
theorem f29_E_okE : EnvOk Try.prog f29_E := envOf_ok _ _ _ mixed
@[reducible] noncomputable def f29_p0_sh : Shape := ⟨[.dead, .dead, .dead, .dead, .dead, .hole (.int .i64), .whole 0, .dead, .dead, .hole (.list .str), .hole (.int .i64), .dead, .dead, .dead, .dead, .dead, .hole (.list .str), .hole (.int .i64), .hole (.int .i64), .dead, .dead, .dead, .dead, .dead, .dead, .dead, .dead, .dead, .dead, .dead, .dead, .dead, .dead, .dead, .dead, .dead, .dead, .dead, .dead, .dead, .dead, .dead], [], [some (.list .str)]⟩
@[reducible] noncomputable def f29_p0_o0 : Shape := ⟨[.dead, .dead, .dead, .dead, .dead, .hole (.int .i64), .whole 0, .dead, .dead, .hole (.list .str), .dead, .dead, .dead, .dead, .dead, .dead, .hole (.list .str), .hole (.int .i64), .hole (.int .i64), .dead, .dead, .dead, .dead, .dead, .dead, .dead, .dead, .dead, .dead, .dead, .dead, .dead, .dead, .hole .bool, .dead, .dead, .dead, .dead, .dead, .dead, .dead, .dead], [], [some (.list .str)]⟩
@[reducible] noncomputable def f29_p0_outs : List (Ex × Shape) := [(.normal, f29_p0_o0)]
@[reducible] noncomputable def f29_p0_a : Ann Try.prog 0 true (f29_c.cr.cr.cr.cl.cr.cb.cb.cr.cr.cl.cb.cr.cr.cl.cl) := (.leaf _)
noncomputable def f29_p0_F (y : f29_p0_sh.den) : Option (OutDen f29_p0_outs) := evA f29_E f29_p0_a (fill f29_p0_sh y) (packOut f29_p0_outs)
theorem f29_p0_ok : PieceSound Try.prog 0 true (f29_c.cr.cr.cr.cl.cr.cb.cb.cr.cr.cl.cb.cr.cr.cl.cl) f29_p0_sh f29_p0_outs f29_p0_F := piece_of (f29_E_okE) f29_p0_a rfl rfl fun _ => rfl
@[reducible] noncomputable def f29_p1_sh : Shape := ⟨[.dead, .dead, .dead, .dead, .dead, .hole (.int .i64), .whole 0, .dead, .dead, .dead, .dead, .dead, .dead, .dead, .dead, .dead, .hole (.list .str), .hole (.int .i64), .hole (.int .i64), .dead, .dead, .dead, .dead, .dead, .dead, .dead, .dead, .dead, .dead, .dead, .dead, .dead, .dead, .dead, .dead, .dead, .dead, .dead, .dead, .dead, .dead, .dead], [], [some (.list .str)]⟩
@[reducible] noncomputable def f29_p1_o0 : Shape := ⟨[.dead, .dead, .dead, .dead, .dead, .hole (.int .i64), .whole 0, .dead, .dead, .dead, .dead, .dead, .dead, .dead, .dead, .dead, .dead, .dead, .dead, .dead, .dead, .dead, .dead, .dead, .dead, .dead, .dead, .dead, .dead, .dead, .dead, .dead, .dead, .dead, .dead, .dead, .dead, .dead, .dead, .dead, .dead, .dead], [], [some (.list .str)]⟩
@[reducible] noncomputable def f29_p1_o1 : Shape := ⟨[.dead, .dead, .nilS, .hole .bool, .dead, .dead, .dead, .dead, .dead, .dead, .dead, .dead, .dead, .dead, .dead, .dead, .dead, .dead, .dead, .dead, .dead, .dead, .dead, .dead, .dead, .dead, .dead, .dead, .dead, .dead, .dead, .dead, .dead, .dead, .dead, .dead, .dead, .dead, .dead, .dead, .dead, .dead], [], []⟩
@[reducible] noncomputable def f29_p1_outs : List (Ex × Shape) := [(.exit 0, f29_p1_o0), (.ret, f29_p1_o1)]
@[reducible] noncomputable def f29_p1_a : Ann Try.prog 0 true (f29_c.cr.cr.cr.cl.cr.cb.cb) := (.seq (.leaf _) (.seq (.leaf _) (.seq (.block (.seq (.leaf _) (.seq (.leaf _) (.seq (.seq (.piece _ _ _ f29_p0_ok) (.leaf _)) (.leaf _))))) (.leaf _))))
noncomputable def f29_p1_st (rec : f29_p1_sh.den → Option (OutDen f29_p1_outs)) (y : f29_p1_sh.den) : Option (OutDen f29_p1_outs) := evA f29_E f29_p1_a (fill f29_p1_sh y) fun ex st => match ex with | .normal => (abs f29_p1_sh st).bind rec | e => packOut f29_p1_outs e st
theorem f29_p1_ok : PieceSound Try.prog 0 true (.loop (f29_c.cr.cr.cr.cl.cr.cb.cb)) f29_p1_sh f29_p1_outs (go f29_p1_st) := go_of (f29_E_okE) f29_p1_a rfl rfl fun _ _ => rfl
@[reducible] noncomputable def f29_ps : List KD := [.one .str]
@[reducible] noncomputable def f29_rs : List KD := [.one (.list (.list .str)), .one .bool]
@[reducible] noncomputable def f29_a : Ann Try.prog 0 true f29_c := (.seq (.leaf _) (.seq (.leaf _) (.seq (.leaf _) (.seq (.seq (.leaf _) (.block (.piece _ _ _ f29_p1_ok))) (.leaf _)))))
noncomputable def f29_F (y : argsDen f29_ps) : Option (argsDen f29_rs) := evFunA f29_E Try.f29 f29_a (encArgs f29_ps y) (decRes f29_rs)
theorem f29_ok : Sound Try.prog 29 (pfun f29_F) := sound_of (c := f29_c) (f29_E_okE) (by kernel_rfl) (by kernel_rfl) (by kernel_rfl) f29_a (fun _ => rfl)
@[reducible] noncomputable def f30_c : Code := codeOf Try.f30
@[reducible] noncomputable def h30_E : Env := envOf Try.prog 9999 [] []
theorem h30_E_okE : EnvOk Try.prog h30_E := envOf_ok _ _ _ mixed
@[reducible] noncomputable def h30_p0_sh : Shape := ⟨[.whole 0, .hole (.list .str), .dead, .dead, .hole (.int .i64), .dead, .dead, .dead, .dead, .dead, .dead, .dead, .dead, .dead, .dead, .dead, .dead, .dead, .dead, .dead, .dead, .dead, .dead, .dead, .dead, .dead, .dead, .dead, .dead, .dead, .dead, .dead], [], [some (.prod .unit (.prod .str .str))]⟩
@[reducible] noncomputable def h30_p0_o0 : Shape := ⟨[.whole 0, .hole (.list .str), .dead, .dead, .hole (.int .i64), .dead, .dead, .dead, .dead, .dead, .dead, .dead, .dead, .dead, .dead, .dead, .dead, .dead, .dead, .dead, .dead, .dead, .dead, .dead, .dead, .dead, .dead, .dead, .dead, .dead, .dead, .dead], [], [some (.prod .unit (.prod .str .str))]⟩
@[reducible] noncomputable def h30_p0_outs : List (Ex × Shape) := [(.normal, h30_p0_o0)]
@[reducible] noncomputable def h30_p0_a : Ann Try.prog 64 true (f30_c.cr.cb.cb.cr.cl) := (.leaf _)
noncomputable def h30_p0_F (y : h30_p0_sh.den) : Option (OutDen h30_p0_outs) := evA h30_E h30_p0_a (fill h30_p0_sh y) (packOut h30_p0_outs)
theorem h30_p0_ok : PieceSound Try.prog 64 true (f30_c.cr.cb.cb.cr.cl) h30_p0_sh h30_p0_outs h30_p0_F := piece_of (h30_E_okE) h30_p0_a rfl rfl fun _ => rfl
@[reducible] noncomputable def h30_p1_sh : Shape := ⟨[.whole 0, .hole (.list .str), .dead, .dead, .hole (.int .i64), .dead, .dead, .dead, .dead, .dead, .dead, .dead, .dead, .dead, .dead, .dead, .dead, .dead, .dead, .dead, .dead, .dead, .dead, .dead, .dead, .dead, .dead, .dead, .dead, .dead, .dead, .dead], [], [some (.prod .unit (.prod .str .str))]⟩
@[reducible] noncomputable def h30_p1_o0 : Shape := ⟨[.dead, .dead, .dead, .dead, .dead, .dead, .dead, .dead, .dead, .dead, .dead, .dead, .dead, .dead, .dead, .dead, .dead, .dead, .dead, .dead, .dead, .dead, .dead, .dead, .dead, .dead, .dead, .dead, .dead, .dead, .dead, .dead], [], [some (.prod .unit (.prod .str .str))]⟩
@[reducible] noncomputable def h30_p1_outs : List (Ex × Shape) := [(.exit 0, h30_p1_o0)]
@[reducible] noncomputable def h30_p1_a : Ann Try.prog 64 true (f30_c.cr.cb.cb) := (.seq (.leaf _) (.seq (.piece _ _ _ h30_p0_ok) (.leaf _)))
noncomputable def h30_p1_st (rec : h30_p1_sh.den → Option (OutDen h30_p1_outs)) (y : h30_p1_sh.den) : Option (OutDen h30_p1_outs) := evA h30_E h30_p1_a (fill h30_p1_sh y) fun ex st => match ex with | .normal => (abs h30_p1_sh st).bind rec | e => packOut h30_p1_outs e st
theorem h30_p1_ok : PieceSound Try.prog 64 true (.loop (f30_c.cr.cb.cb)) h30_p1_sh h30_p1_outs (go h30_p1_st) := go_of (h30_E_okE) h30_p1_a rfl rfl fun _ _ => rfl
@[reducible] noncomputable def h30_I : Shape := ⟨[.whole 0, .hole (.list .str)], [], [some (.prod .unit (.prod .str .str))]⟩
@[reducible] noncomputable def h30_O : Shape := ⟨[], [], [some (.prod .unit (.prod .str .str))]⟩
@[reducible] noncomputable def h30_a : Ann Try.prog 64 true f30_c := (.seq (.leaf _) (.block (.piece _ _ _ h30_p1_ok)))
noncomputable def h30_F (y : h30_I.den) : Option h30_O.den := evFunH h30_E Try.f30 h30_a h30_I h30_O y
theorem h30_ok : SoundH Try.prog 30 ⟨h30_I, h30_O, h30_F⟩ := sound_ofH (I := h30_I) (O := h30_O) (c := f30_c) (h30_E_okE) (by kernel_rfl) (by kernel_rfl) (by kernel_rfl) h30_a rfl rfl (fun _ => rfl)
@[reducible] noncomputable def f32_c : Code := codeOf Try.f32
@[reducible] noncomputable def h32_E : Env := envOf Try.prog 9999 [] []
theorem h32_E_okE : EnvOk Try.prog h32_E := envOf_ok _ _ _ mixed
@[reducible] noncomputable def h32_I : Shape := ⟨[.whole 0], [], [some (.prod .unit (.prod .str .str))]⟩
@[reducible] noncomputable def h32_O : Shape := ⟨[.fn (.func 65) [] [.ptr 0 0]], [some [.whole 0]], [some (.prod .unit (.prod .str .str))]⟩
@[reducible] noncomputable def h32_a : Ann Try.prog 64 true f32_c := (.leaf _)
noncomputable def h32_F (y : h32_I.den) : Option h32_O.den := evFunH h32_E Try.f32 h32_a h32_I h32_O y
theorem h32_ok : SoundH Try.prog 32 ⟨h32_I, h32_O, h32_F⟩ := sound_ofH (I := h32_I) (O := h32_O) (c := f32_c) (h32_E_okE) (by kernel_rfl) (by kernel_rfl) (by kernel_rfl) h32_a rfl rfl (fun _ => rfl)
@[reducible] noncomputable def f13_c : Code := codeOf Try.f13
@[reducible] noncomputable def f13_E : Env := envOfE Try.prog 9999 [rowOf true f25_ok, rowOf true f26_ok, rowOf false f27_ok, rowOf true f28_ok, rowOf false f29_ok] [⟨30, _, h30_ok⟩, ⟨32, _, h32_ok⟩] [⟨31, _, sorted_ok⟩]
theorem f13_E_okE : EnvOk Try.prog f13_E := envOfE_ok _ _ _ _ mixed
@[reducible] noncomputable def f13_p0_sh : Shape := ⟨[.dead, .dead, .ptr 1 0, .dead, .ptr 2 0, .dead, .dead, .dead, .dead, .dead, .dead, .dead, .dead, .dead, .whole 0, .dead, .dead, .dead, .dead, .dead, .dead, .dead, .dead, .dead, .dead, .dead, .dead, .dead, .dead, .dead, .dead, .dead, .dead, .dead, .dead, .dead, .dead, .dead, .dead, .dead, .dead, .dead, .dead, .dead, .dead, .dead, .dead, .dead, .dead, .dead, .dead, .dead, .dead, .dead, .dead, .dead, .dead, .dead, .dead, .dead, .dead, .dead, .dead, .dead, .dead, .dead, .dead, .dead, .dead, .dead, .dead, .dead, .dead, .dead, .dead, .dead, .dead, .dead, .dead, .dead, .dead, .dead, .dead, .dead, .dead, .dead, .dead, .dead, .dead, .dead, .dead, .whole 1, .hole (.int .i64), .hole (.int .i64), .dead, .dead, .dead, .dead, .dead, .dead, .dead, .dead, .dead, .dead, .dead, .dead, .dead, .dead, .dead, .dead, .dead, .dead, .dead], [none, some [.nilS, .nilS, .nilS, .nilS, .hole (.int .i64), .hole (.int .i64), .hole (.int .i64)], some [.hole (.list .str), .hole (.list (.prod (.int .i64) .str)), .whole 2, .whole 3, .hole (.int .i64), .hole (.int .i64), .hole (.int .i64)], none], [some (.prod .unit (.prod .str .str)), some .str, some .str, some .str]⟩
@[reducible] noncomputable def f13_p0_o0 : Shape := ⟨[.dead, .dead, .ptr 1 0, .dead, .ptr 2 0, .dead, .dead, .dead, .dead, .dead, .dead, .dead, .dead, .dead, .dead, .dead, .dead, .dead, .dead, .dead, .dead, .dead, .dead, .dead, .dead, .dead, .dead, .dead, .dead, .dead, .dead, .dead, .dead, .dead, .dead, .dead, .dead, .dead, .dead, .dead, .dead, .dead, .dead, .dead, .dead, .dead, .dead, .dead, .dead, .dead, .dead, .dead, .dead, .dead, .dead, .dead, .dead, .dead, .dead, .dead, .dead, .dead, .dead, .dead, .dead, .dead, .dead, .dead, .dead, .dead, .dead, .dead, .dead, .dead, .dead, .dead, .dead, .dead, .dead, .dead, .dead, .dead, .dead, .dead, .dead, .dead, .dead, .dead, .dead, .dead, .dead, .dead, .dead, .dead, .dead, .dead, .dead, .dead, .dead, .dead, .dead, .dead, .dead, .dead, .dead, .dead, .dead, .dead, .dead, .dead, .dead, .dead, .dead], [none, some [.nilS, .nilS, .nilS, .nilS, .hole (.int .i64), .hole (.int .i64), .hole (.int .i64)], some [.hole (.list .str), .hole (.list (.prod (.int .i64) .str)), .whole 2, .whole 3, .hole (.int .i64), .hole (.int .i64), .hole (.int .i64)]], [none, none, some .str, some .str]⟩
@[reducible] noncomputable def f13_p0_outs : List (Ex × Shape) := [(.exit 4, f13_p0_o0)]
@[reducible] noncomputable def f13_p0_a : Ann Try.prog 0 true (f13_c.cr.cr.cr.cr.cr.cr.cr.cr.cr.cr.cl.cr.cb.cb) := (.leaf _)
noncomputable def f13_p0_st (rec : f13_p0_sh.den → Option (OutDen f13_p0_outs)) (y : f13_p0_sh.den) : Option (OutDen f13_p0_outs) := evA f13_E f13_p0_a (fill f13_p0_sh y) fun ex st => match ex with | .normal => (abs f13_p0_sh st).bind rec | e => packOut f13_p0_outs e st
theorem f13_p0_ok : PieceSound Try.prog 0 true (.loop (f13_c.cr.cr.cr.cr.cr.cr.cr.cr.cr.cr.cl.cr.cb.cb)) f13_p0_sh f13_p0_outs (go f13_p0_st) := go_of (f13_E_okE) f13_p0_a rfl rfl fun _ _ => rfl
@[reducible] noncomputable def f13_p1_sh : Shape := ⟨[.dead, .dead, .ptr 1 0, .dead, .ptr 2 0, .dead, .dead, .dead, .dead, .dead, .dead, .dead, .dead, .dead, .whole 0, .dead, .dead, .dead, .dead, .dead, .dead, .dead, .dead, .dead, .dead, .dead, .dead, .dead, .dead, .dead, .dead, .dead, .dead, .dead, .dead, .dead, .dead, .dead, .dead, .dead, .dead, .dead, .dead, .dead, .dead, .dead, .dead, .dead, .dead, .dead, .dead, .dead, .dead, .dead, .dead, .dead, .dead, .dead, .dead, .dead, .dead, .dead, .dead, .dead, .dead, .dead, .dead, .dead, .dead, .dead, .dead, .dead, .dead, .dead, .dead, .dead, .dead, .dead, .dead, .hole (.list (.list .str)), .hole (.int .i64), .hole (.int .i64), .dead, .dead, .dead, .dead, .dead, .dead, .dead, .dead, .dead, .dead, .dead, .dead, .dead, .dead, .dead, .dead, .dead, .dead, .dead, .dead, .dead, .dead, .dead, .dead, .dead, .dead, .dead, .dead, .dead, .dead, .dead], [none, some [.nilS, .nilS, .nilS, .nilS, .hole (.int .i64), .hole (.int .i64), .hole (.int .i64)], some [.hole (.list .str), .hole (.list (.prod (.int .i64) .str)), .nilS, .nilS, .hole (.int .i64), .hole (.int .i64), .hole (.int .i64)]], [some (.prod .unit (.prod .str .str))]⟩
@[reducible] noncomputable def f13_p1_o0 : Shape := ⟨[.dead, .dead, .ptr 1 0, .dead, .ptr 2 0, .dead, .dead, .dead, .dead, .dead, .dead, .dead, .dead, .dead, .whole 0, .dead, .dead, .dead, .dead, .dead, .dead, .dead, .dead, .dead, .dead, .dead, .dead, .dead, .dead, .dead, .dead, .dead, .dead, .dead, .dead, .dead, .dead, .dead, .dead, .dead, .dead, .dead, .dead, .dead, .dead, .dead, .dead, .dead, .dead, .dead, .dead, .dead, .dead, .dead, .dead, .dead, .dead, .dead, .dead, .dead, .dead, .dead, .dead, .dead, .dead, .dead, .dead, .dead, .dead, .dead, .dead, .dead, .dead, .dead, .dead, .dead, .dead, .dead, .dead, .dead, .dead, .dead, .dead, .dead, .dead, .dead, .dead, .dead, .dead, .dead, .dead, .dead, .dead, .dead, .dead, .dead, .dead, .dead, .dead, .dead, .dead, .dead, .dead, .dead, .dead, .dead, .dead, .dead, .dead, .dead, .dead, .dead, .dead], [none, some [.nilS, .nilS, .nilS, .nilS, .hole (.int .i64), .hole (.int .i64), .hole (.int .i64)], some [.hole (.list .str), .hole (.list (.prod (.int .i64) .str)), .nilS, .nilS, .hole (.int .i64), .hole (.int .i64), .hole (.int .i64)]], [some (.prod .unit (.prod .str .str))]⟩
@[reducible] noncomputable def f13_p1_outs : List (Ex × Shape) := [(.exit 2, f13_p1_o0)]
@[reducible] noncomputable def f13_p1_a : Ann Try.prog 0 true (f13_c.cr.cr.cr.cr.cr.cr.cr.cr.cr.cl.cr.cb.cb) := (.leaf _)
noncomputable def f13_p1_st (rec : f13_p1_sh.den → Option (OutDen f13_p1_outs)) (y : f13_p1_sh.den) : Option (OutDen f13_p1_outs) := evA f13_E f13_p1_a (fill f13_p1_sh y) fun ex st => match ex with | .normal => (abs f13_p1_sh st).bind rec | e => packOut f13_p1_outs e st
theorem f13_p1_ok : PieceSound Try.prog 0 true (.loop (f13_c.cr.cr.cr.cr.cr.cr.cr.cr.cr.cl.cr.cb.cb)) f13_p1_sh f13_p1_outs (go f13_p1_st) := go_of (f13_E_okE) f13_p1_a rfl rfl fun _ _ => rfl
@[reducible] noncomputable def f13_p2_sh : Shape := ⟨[.dead, .ptr 0 0, .ptr 1 0, .dead, .ptr 2 0, .dead, .dead, .dead, .dead, .dead, .dead, .dead, .dead, .dead, .dead, .dead, .dead, .dead, .dead, .dead, .dead, .dead, .dead, .dead, .dead, .dead, .dead, .dead, .dead, .dead, .dead, .hole (.int .i64), .dead, .dead, .dead, .dead, .dead, .dead, .dead, .dead, .dead, .dead, .dead, .dead, .dead, .dead, .dead, .dead, .dead, .dead, .dead, .dead, .dead, .dead, .dead, .dead, .dead, .dead, .dead, .dead, .dead, .dead, .dead, .dead, .dead, .dead, .dead, .dead, .dead, .dead, .dead, .dead, .dead, .dead, .dead, .dead, .dead, .dead, .dead, .dead, .dead, .dead, .dead, .dead, .dead, .dead, .dead, .dead, .dead, .dead, .dead, .dead, .dead, .dead, .dead, .dead, .dead, .dead, .dead, .dead, .dead, .dead, .dead, .dead, .dead, .dead, .dead, .dead, .dead, .dead, .dead, .dead, .dead], [some [.hole (.list .str), .hole (.list (.prod (.int .i64) .str))], some [.nilS, .nilS, .nilS, .nilS, .hole (.int .i64), .hole (.int .i64), .hole (.int .i64)], some [.hole (.list .str), .hole (.list (.prod (.int .i64) .str)), .nilS, .nilS, .hole (.int .i64), .hole (.int .i64), .hole (.int .i64)]], []⟩
@[reducible] noncomputable def f13_p2_o0 : Shape := ⟨[.dead, .ptr 0 0, .ptr 1 0, .dead, .ptr 2 0, .dead, .dead, .dead, .dead, .dead, .dead, .dead, .dead, .dead, .dead, .dead, .dead, .dead, .dead, .dead, .dead, .dead, .dead, .dead, .dead, .dead, .dead, .dead, .dead, .dead, .dead, .hole (.int .i64), .dead, .dead, .dead, .dead, .dead, .dead, .dead, .dead, .dead, .dead, .dead, .dead, .dead, .dead, .dead, .dead, .dead, .dead, .dead, .dead, .dead, .dead, .dead, .dead, .dead, .dead, .dead, .dead, .dead, .dead, .dead, .dead, .dead, .dead, .dead, .dead, .dead, .dead, .dead, .dead, .dead, .dead, .dead, .dead, .dead, .dead, .dead, .dead, .dead, .dead, .dead, .dead, .dead, .dead, .dead, .dead, .dead, .dead, .dead, .dead, .dead, .dead, .dead, .dead, .dead, .dead, .dead, .dead, .dead, .dead, .dead, .dead, .dead, .dead, .dead, .dead, .dead, .dead, .dead, .dead, .dead], [some [.hole (.list .str), .hole (.list (.prod (.int .i64) .str))], some [.nilS, .nilS, .nilS, .nilS, .hole (.int .i64), .hole (.int .i64), .hole (.int .i64)], some [.hole (.list .str), .hole (.list (.prod (.int .i64) .str)), .nilS, .nilS, .hole (.int .i64), .hole (.int .i64), .hole (.int .i64)]], []⟩
@[reducible] noncomputable def f13_p2_outs : List (Ex × Shape) := [(.normal, f13_p2_o0)]
@[reducible] noncomputable def f13_p2_a : Ann Try.prog 0 true (f13_c.cr.cr.cr.cl.cr.cb.cb.cr.cr.cl) := (.leaf _)
noncomputable def f13_p2_F (y : f13_p2_sh.den) : Option (OutDen f13_p2_outs) := evA f13_E f13_p2_a (fill f13_p2_sh y) (packOut f13_p2_outs)
theorem f13_p2_ok : PieceSound Try.prog 0 true (f13_c.cr.cr.cr.cl.cr.cb.cb.cr.cr.cl) f13_p2_sh f13_p2_outs f13_p2_F := piece_of (f13_E_okE) f13_p2_a rfl rfl fun _ => rfl
@[reducible] noncomputable def f13_p3_sh : Shape := ⟨[.dead, .dead, .ptr 1 0, .dead, .ptr 2 0, .dead, .dead, .dead, .dead, .dead, .dead, .dead, .hole (.list (.list .str)), .hole .bool, .dead, .dead, .dead, .dead, .dead, .dead, .dead, .dead, .dead, .dead, .dead, .dead, .dead, .dead, .dead, .dead, .dead, .dead, .dead, .dead, .dead, .dead, .dead, .dead, .dead, .dead, .dead, .dead, .dead, .dead, .dead, .dead, .dead, .dead, .dead, .dead, .dead, .dead, .dead, .dead, .dead, .dead, .dead, .dead, .dead, .dead, .dead, .dead, .dead, .dead, .dead, .dead, .dead, .dead, .dead, .dead, .dead, .dead, .dead, .dead, .dead, .dead, .dead, .dead, .dead, .dead, .dead, .dead, .dead, .dead, .dead, .dead, .dead, .dead, .dead, .dead, .dead, .dead, .dead, .dead, .dead, .dead, .dead, .dead, .dead, .dead, .dead, .dead, .dead, .dead, .dead, .dead, .dead, .dead, .dead, .dead, .dead, .dead, .dead], [none, some [.nilS, .nilS, .nilS, .nilS, .hole (.int .i64), .hole (.int .i64), .hole (.int .i64)], some [.hole (.list .str), .hole (.list (.prod (.int .i64) .str)), .nilS, .nilS, .hole (.int .i64), .hole (.int .i64), .hole (.int .i64)]], []⟩
@[reducible] noncomputable def f13_p3_o0 : Shape := ⟨[.dead, .dead, .ptr 1 0, .dead, .ptr 2 0, .dead, .dead, .dead, .dead, .dead, .dead, .dead, .hole (.list (.list .str)), .dead, .dead, .dead, .dead, .dead, .dead, .dead, .dead, .dead, .dead, .dead, .dead, .dead, .dead, .dead, .dead, .dead, .dead, .dead, .dead, .dead, .dead, .dead, .dead, .dead, .dead, .dead, .dead, .dead, .dead, .dead, .dead, .dead, .dead, .dead, .dead, .dead, .dead, .dead, .dead, .dead, .dead, .dead, .dead, .dead, .dead, .dead, .dead, .dead, .dead, .dead, .dead, .dead, .dead, .dead, .dead, .dead, .dead, .dead, .dead, .dead, .dead, .dead, .hole .bool, .dead, .dead, .dead, .dead, .dead, .dead, .dead, .dead, .dead, .dead, .dead, .dead, .dead, .dead, .dead, .dead, .dead, .dead, .dead, .dead, .dead, .dead, .dead, .dead, .dead, .dead, .dead, .dead, .dead, .dead, .dead, .dead, .dead, .dead, .dead, .dead], [none, some [.nilS, .nilS, .nilS, .nilS, .hole (.int .i64), .hole (.int .i64), .hole (.int .i64)], some [.hole (.list .str), .hole (.list (.prod (.int .i64) .str)), .nilS, .nilS, .hole (.int .i64), .hole (.int .i64), .hole (.int .i64)]], []⟩
@[reducible] noncomputable def f13_p3_outs : List (Ex × Shape) := [(.normal, f13_p3_o0)]
@[reducible] noncomputable def f13_p3_a : Ann Try.prog 0 true (f13_c.cr.cr.cr.cr.cr.cr.cr.cl.cl) := (.leaf _)
noncomputable def f13_p3_F (y : f13_p3_sh.den) : Option (OutDen f13_p3_outs) := evA f13_E f13_p3_a (fill f13_p3_sh y) (packOut f13_p3_outs)
theorem f13_p3_ok : PieceSound Try.prog 0 true (f13_c.cr.cr.cr.cr.cr.cr.cr.cl.cl) f13_p3_sh f13_p3_outs f13_p3_F := piece_of (f13_E_okE) f13_p3_a rfl rfl fun _ => rfl
@[reducible] noncomputable def f13_p4_sh : Shape := ⟨[.dead, .ptr 0 0, .ptr 1 0, .dead, .ptr 2 0, .dead, .dead, .dead, .dead, .dead, .dead, .dead, .dead, .dead, .dead, .dead, .dead, .dead, .dead, .dead, .dead, .dead, .dead, .dead, .dead, .dead, .dead, .dead, .dead, .dead, .dead, .hole (.int .i64), .dead, .dead, .dead, .dead, .dead, .dead, .dead, .dead, .dead, .dead, .dead, .dead, .dead, .dead, .dead, .dead, .dead, .dead, .dead, .dead, .dead, .dead, .dead, .dead, .dead, .dead, .dead, .dead, .dead, .dead, .dead, .dead, .dead, .dead, .dead, .dead, .dead, .dead, .dead, .dead, .dead, .dead, .dead, .dead, .dead, .dead, .dead, .dead, .dead, .dead, .dead, .dead, .dead, .dead, .dead, .dead, .dead, .dead, .dead, .dead, .dead, .dead, .dead, .dead, .dead, .dead, .dead, .dead, .dead, .dead, .dead, .dead, .dead, .dead, .dead, .dead, .dead, .dead, .dead, .dead, .dead], [some [.hole (.list .str), .hole (.list (.prod (.int .i64) .str))], some [.nilS, .nilS, .nilS, .nilS, .hole (.int .i64), .hole (.int .i64), .hole (.int .i64)], some [.hole (.list .str), .hole (.list (.prod (.int .i64) .str)), .nilS, .nilS, .hole (.int .i64), .hole (.int .i64), .hole (.int .i64)]], []⟩
@[reducible] noncomputable def f13_p4_o0 : Shape := ⟨[.dead, .ptr 0 0, .ptr 1 0, .dead, .ptr 2 0, .dead, .dead, .dead, .dead, .dead, .dead, .dead, .dead, .dead, .dead, .dead, .dead, .dead, .dead, .dead, .dead, .dead, .dead, .dead, .dead, .dead, .dead, .dead, .dead, .dead, .dead, .dead, .dead, .dead, .dead, .dead, .dead, .dead, .dead, .dead, .dead, .dead, .dead, .dead, .dead, .dead, .dead, .dead, .dead, .dead, .dead, .dead, .dead, .dead, .dead, .dead, .dead, .dead, .dead, .dead, .dead, .dead, .dead, .dead, .dead, .dead, .dead, .dead, .dead, .dead, .dead, .dead, .dead, .dead, .dead, .dead, .dead, .dead, .dead, .dead, .dead, .dead, .dead, .dead, .dead, .dead, .dead, .dead, .dead, .dead, .dead, .dead, .dead, .dead, .dead, .dead, .dead, .dead, .dead, .dead, .dead, .dead, .dead, .dead, .dead, .dead, .dead, .dead, .dead, .dead, .dead, .dead, .dead], [some [.hole (.list .str), .hole (.list (.prod (.int .i64) .str))], some [.nilS, .nilS, .nilS, .nilS, .hole (.int .i64), .hole (.int .i64), .hole (.int .i64)], some [.hole (.list .str), .hole (.list (.prod (.int .i64) .str)), .nilS, .nilS, .hole (.int .i64), .hole (.int .i64), .hole (.int .i64)]], []⟩
@[reducible] noncomputable def f13_p4_outs : List (Ex × Shape) := [(.exit 0, f13_p4_o0)]
@[reducible] noncomputable def f13_p4_a : Ann Try.prog 0 true (f13_c.cr.cr.cr.cl.cr.cb.cb) := (.seq (.leaf _) (.seq (.leaf _) (.seq (.piece _ _ _ f13_p2_ok) (.leaf _))))
noncomputable def f13_p4_st (rec : f13_p4_sh.den → Option (OutDen f13_p4_outs)) (y : f13_p4_sh.den) : Option (OutDen f13_p4_outs) := evA f13_E f13_p4_a (fill f13_p4_sh y) fun ex st => match ex with | .normal => (abs f13_p4_sh st).bind rec | e => packOut f13_p4_outs e st
theorem f13_p4_ok : PieceSound Try.prog 0 true (.loop (f13_c.cr.cr.cr.cl.cr.cb.cb)) f13_p4_sh f13_p4_outs (go f13_p4_st) := go_of (f13_E_okE) f13_p4_a rfl rfl fun _ _ => rfl
@[reducible] noncomputable def f13_p5_sh : Shape := ⟨[.dead, .ptr 0 0, .ptr 1 0, .dead, .dead, .dead, .dead, .dead, .dead, .dead, .dead, .dead, .dead, .dead, .dead, .dead, .dead, .dead, .dead, .dead, .dead, .dead, .dead, .dead, .dead, .dead, .dead, .dead, .dead, .dead, .dead, .dead, .dead, .dead, .dead, .dead, .dead, .dead, .dead, .dead, .dead, .dead, .dead, .dead, .dead, .dead, .dead, .dead, .dead, .dead, .dead, .dead, .dead, .dead, .dead, .dead, .dead, .dead, .dead, .dead, .dead, .dead, .dead, .dead, .dead, .dead, .dead, .dead, .dead, .dead, .dead, .dead, .dead, .dead, .dead, .dead, .dead, .dead, .dead, .dead, .dead, .dead, .dead, .dead, .dead, .dead, .dead, .dead, .dead, .dead, .dead, .dead, .dead, .dead, .dead, .dead, .dead, .dead, .dead, .dead, .dead, .dead, .dead, .dead, .dead, .dead, .dead, .dead, .dead, .dead, .dead, .dead, .dead], [some [.hole (.list .str), .hole (.list (.prod (.int .i64) .str))], some [.nilS, .nilS, .nilS, .nilS, .hole (.int .i64), .hole (.int .i64), .hole (.int .i64)]], []⟩
@[reducible] noncomputable def f13_p5_o0 : Shape := ⟨[.dead, .ptr 0 0, .ptr 1 0, .dead, .dead, .dead, .dead, .dead, .dead, .dead, .dead, .dead, .dead, .dead, .dead, .dead, .dead, .dead, .dead, .dead, .dead, .dead, .dead, .dead, .dead, .dead, .dead, .hole .bool, .dead, .dead, .dead, .dead, .dead, .dead, .dead, .dead, .dead, .dead, .dead, .dead, .dead, .dead, .dead, .dead, .dead, .dead, .dead, .dead, .dead, .dead, .dead, .dead, .dead, .dead, .dead, .dead, .dead, .dead, .dead, .dead, .dead, .dead, .dead, .dead, .dead, .dead, .dead, .dead, .dead, .dead, .dead, .dead, .dead, .dead, .dead, .dead, .dead, .dead, .dead, .dead, .dead, .dead, .dead, .dead, .dead, .dead, .dead, .dead, .dead, .dead, .dead, .dead, .dead, .dead, .dead, .dead, .dead, .dead, .dead, .dead, .dead, .dead, .dead, .dead, .dead, .dead, .dead, .dead, .dead, .dead, .dead, .dead, .dead], [some [.hole (.list .str), .hole (.list (.prod (.int .i64) .str))], some [.nilS, .nilS, .nilS, .nilS, .hole (.int .i64), .hole (.int .i64), .hole (.int .i64)]], []⟩
@[reducible] noncomputable def f13_p5_outs : List (Ex × Shape) := [(.normal, f13_p5_o0)]
@[reducible] noncomputable def f13_p5_a : Ann Try.prog 0 true (f13_c.cr.cl.cl) := (.leaf _)
noncomputable def f13_p5_F (y : f13_p5_sh.den) : Option (OutDen f13_p5_outs) := evA f13_E f13_p5_a (fill f13_p5_sh y) (packOut f13_p5_outs)
theorem f13_p5_ok : PieceSound Try.prog 0 true (f13_c.cr.cl.cl) f13_p5_sh f13_p5_outs f13_p5_F := piece_of (f13_E_okE) f13_p5_a rfl rfl fun _ => rfl
@[reducible] noncomputable def f13_ps : List KD := [.agg [(.list .str), (.list (.prod (.int .i64) .str))]]
@[reducible] noncomputable def f13_rs : List KD := [.agg [(.list .str), (.list (.prod (.int .i64) .str)), (.list .str), (.list .str), (.int .i64), (.int .i64), (.int .i64)], .one (.int .i64)]
@[reducible] noncomputable def f13_a : Ann Try.prog 0 true f13_c := (.seq (.leaf _) (.seq (.seq (.piece _ _ _ f13_p5_ok) (.leaf _)) (.seq (.leaf _) (.seq (.seq (.leaf _) (.block (.piece _ _ _ f13_p4_ok))) (.seq (.leaf _) (.seq (.leaf _) (.seq (.leaf _) (.seq (.seq (.piece _ _ _ f13_p3_ok) (.leaf _)) (.seq (.leaf _) (.seq (.seq (.leaf _) (.block (.piece _ _ _ f13_p1_ok))) (.seq (.seq (.leaf _) (.block (.piece _ _ _ f13_p0_ok))) (.leaf _))))))))))))
noncomputable def f13_F (y : argsDen f13_ps) : Option (argsDen f13_rs) := evFunA f13_E Try.f13 f13_a (encArgs f13_ps y) (decRes f13_rs)
theorem f13_ok : Sound Try.prog 13 (pfun f13_F) := sound_of (c := f13_c) (f13_E_okE) (by kernel_rfl) (by kernel_rfl) (by kernel_rfl) f13_a (fun _ => rfl)
@[reducible] noncomputable def f7_c : Code := codeOf Try.f7
@[reducible] noncomputable def f7_E : Env := envOf Try.prog 9999 [rowOf true f23_ok, rowOf false f13_ok] [⟨22, _, h22_ok⟩]
theorem f7_E_okE : EnvOk Try.prog f7_E := envOf_ok _ _ _ mixed
@[reducible] noncomputable def f7_ps : List KD := [.one (.int .i64)]
@[reducible] noncomputable def f7_rs : List KD := [.agg [(.list .str), (.list (.prod (.int .i64) .str)), (.list .str), (.list .str), (.int .i64), (.int .i64), (.int .i64)], .one (.int .i64)]
@[reducible] noncomputable def f7_a : Ann Try.prog 0 true f7_c := (.leaf _)
noncomputable def f7_F (y : argsDen f7_ps) : Option (argsDen f7_rs) := evFunA f7_E Try.f7 f7_a (encArgs f7_ps y) (decRes f7_rs)
theorem f7_ok : Sound Try.prog 7 (pfun f7_F) := sound_of (c := f7_c) (f7_E_okE) (by kernel_rfl) (by kernel_rfl) (by kernel_rfl) f7_a (fun _ => rfl)
@[reducible] noncomputable def f40_c : Code := codeOf Try.f40
@[reducible] noncomputable def f40_E : Env := envOf Try.prog 9999 [] []
theorem f40_E_okE : EnvOk Try.prog f40_E := envOf_ok _ _ _ mixed
@[reducible] noncomputable def f40_p0_sh : Shape := ⟨[.hole (.list .str), .hole (.list .str), .dead, .dead, .dead, .dead, .dead, .dead, .dead, .dead, .dead, .dead, .hole (.int .i64), .hole (.int .i64), .dead, .dead, .dead, .dead, .dead, .dead, .dead, .dead, .dead, .dead, .dead, .dead], [], []⟩
@[reducible] noncomputable def f40_p0_o0 : Shape := ⟨[.dead, .dead, .dead, .dead, .dead, .dead, .dead, .dead, .dead, .dead, .dead, .dead, .dead, .dead, .dead, .dead, .dead, .dead, .dead, .dead, .dead, .dead, .dead, .dead, .dead, .dead], [], []⟩
@[reducible] noncomputable def f40_p0_o1 : Shape := ⟨[.dead, .dead, .dead, .dead, .hole .bool, .dead, .dead, .dead, .dead, .dead, .dead, .dead, .dead, .dead, .dead, .dead, .dead, .dead, .dead, .dead, .dead, .dead, .dead, .dead, .dead, .dead], [], []⟩
@[reducible] noncomputable def f40_p0_outs : List (Ex × Shape) := [(.exit 0, f40_p0_o0), (.ret, f40_p0_o1)]
@[reducible] noncomputable def f40_p0_a : Ann Try.prog 0 true (f40_c.cr.cr.cl.cr.cb.cb) := (.leaf _)
noncomputable def f40_p0_st (rec : f40_p0_sh.den → Option (OutDen f40_p0_outs)) (y : f40_p0_sh.den) : Option (OutDen f40_p0_outs) := evA f40_E f40_p0_a (fill f40_p0_sh y) fun ex st => match ex with | .normal => (abs f40_p0_sh st).bind rec | e => packOut f40_p0_outs e st
theorem f40_p0_ok : PieceSound Try.prog 0 true (.loop (f40_c.cr.cr.cl.cr.cb.cb)) f40_p0_sh f40_p0_outs (go f40_p0_st) := go_of (f40_E_okE) f40_p0_a rfl rfl fun _ _ => rfl
@[reducible] noncomputable def f40_ps : List KD := [.one (.list .str), .one (.list .str)]
@[reducible] noncomputable def f40_rs : List KD := [.one .bool]
@[reducible] noncomputable def f40_a : Ann Try.prog 0 true f40_c := (.seq (.leaf _) (.seq (.leaf _) (.seq (.seq (.leaf _) (.block (.piece _ _ _ f40_p0_ok))) (.leaf _))))
noncomputable def f40_F (y : argsDen f40_ps) : Option (argsDen f40_rs) := evFunA f40_E Try.f40 f40_a (encArgs f40_ps y) (decRes f40_rs)
theorem f40_ok : Sound Try.prog 40 (pfun f40_F) := sound_of (c := f40_c) (f40_E_okE) (by kernel_rfl) (by kernel_rfl) (by kernel_rfl) f40_a (fun _ => rfl)
@[reducible] noncomputable def f17_c : Code := codeOf Try.f17
@[reducible] noncomputable def f17_E : Env := envOf Try.prog 9999 [rowOf false f13_ok, rowOf true f40_ok] []
theorem f17_E_okE : EnvOk Try.prog f17_E := envOf_ok _ _ _ mixed
@[reducible] noncomputable def f17_ps : List KD := [.agg [(.list .str), (.list (.prod (.int .i64) .str)), (.list .str), (.list .str), (.int .i64), (.int .i64), (.int .i64)]]
@[reducible] noncomputable def f17_rs : List KD := [.one .bool]
@[reducible] noncomputable def f17_a : Ann Try.prog 0 true f17_c := (.leaf _)
noncomputable def f17_F (y : argsDen f17_ps) : Option (argsDen f17_rs) := evFunA f17_E Try.f17 f17_a (encArgs f17_ps y) (decRes f17_rs)
theorem f17_ok : Sound Try.prog 17 (pfun f17_F) := sound_of (c := f17_c) (f17_E_okE) (by kernel_rfl) (by kernel_rfl) (by kernel_rfl) f17_a (fun _ => rfl)
@[reducible] noncomputable def f43_c : Code := codeOf Try.f43
@[reducible] noncomputable def f43_E : Env := envOf Try.prog 9999 [rowOf true f52_ok] []
theorem f43_E_okE : EnvOk Try.prog f43_E := envOf_ok _ _ _ mixed
@[reducible] noncomputable def f43_ps : List KD := [.one .str]
@[reducible] noncomputable def f43_rs : List KD := [.one .str, .one (.int .i64)]
@[reducible] noncomputable def f43_a : Ann Try.prog 0 true f43_c := (.leaf _)
noncomputable def f43_F (y : argsDen f43_ps) : Option (argsDen f43_rs) := evFunA f43_E Try.f43 f43_a (encArgs f43_ps y) (decRes f43_rs)
theorem f43_ok : Sound Try.prog 43 (pfun f43_F) := sound_of (c := f43_c) (f43_E_okE) (by kernel_rfl) (by kernel_rfl) (by kernel_rfl) f43_a (fun _ => rfl)
@[reducible] noncomputable def f44_c : Code := codeOf Try.f44
@[reducible] noncomputable def f44_E : Env := envOf Try.prog 9999 [rowOf true f60_ok, rowOf true f61_ok, rowOf true repeat_ok] []
theorem f44_E_okE : EnvOk Try.prog f44_E := envOf_ok _ _ _ mixed
@[reducible] noncomputable def f44_p0_sh : Shape := ⟨[.dead, .hole (.int .i64), .hole .str, .dead, .dead, .dead, .dead, .dead, .dead, .dead, .hole .str, .whole 0, .hole (.int .i64), .dead, .dead, .dead, .dead, .dead, .dead, .dead, .dead, .dead, .dead, .dead, .dead, .dead, .dead, .dead, .dead, .dead, .dead, .dead, .dead, .dead, .dead, .dead, .dead, .dead, .dead, .dead, .dead, .dead, .dead, .dead, .dead, .dead, .dead, .dead, .dead, .dead, .dead, .dead, .dead, .dead, .dead, .dead, .dead, .dead, .dead, .dead, .dead, .dead, .dead, .dead, .dead, .dead, .dead, .dead, .dead, .dead, .dead], [none], [some (.prod (.int .i64) .str)]⟩
@[reducible] noncomputable def f44_p0_o0 : Shape := ⟨[.dead, .dead, .dead, .dead, .dead, .dead, .dead, .dead, .dead, .dead, .dead, .whole 0, .dead, .dead, .dead, .dead, .dead, .dead, .dead, .dead, .dead, .dead, .dead, .dead, .dead, .dead, .dead, .dead, .dead, .dead, .dead, .dead, .dead, .dead, .dead, .dead, .dead, .dead, .dead, .dead, .dead, .dead, .dead, .dead, .dead, .dead, .dead, .dead, .dead, .dead, .dead, .dead, .dead, .dead, .dead, .dead, .dead, .dead, .dead, .dead, .dead, .dead, .dead, .dead, .dead, .dead, .dead, .dead, .dead, .dead, .dead], [], [some (.prod (.int .i64) .str)]⟩
@[reducible] noncomputable def f44_p0_outs : List (Ex × Shape) := [(.exit 1, f44_p0_o0)]
@[reducible] noncomputable def f44_p0_a : Ann Try.prog 0 true (f44_c.cr.cr.cr.cr.cr.cr.cl.cr.cb.cb) := (.leaf _)
noncomputable def f44_p0_st (rec : f44_p0_sh.den → Option (OutDen f44_p0_outs)) (y : f44_p0_sh.den) : Option (OutDen f44_p0_outs) := evA f44_E f44_p0_a (fill f44_p0_sh y) fun ex st => match ex with | .normal => (abs f44_p0_sh st).bind rec | e => packOut f44_p0_outs e st
theorem f44_p0_ok : PieceSound Try.prog 0 true (.loop (f44_c.cr.cr.cr.cr.cr.cr.cl.cr.cb.cb)) f44_p0_sh f44_p0_outs (go f44_p0_st) := go_of (f44_E_okE) f44_p0_a rfl rfl fun _ _ => rfl
@[reducible] noncomputable def f44_p1_sh : Shape := ⟨[.dead, .hole (.int .i64), .hole .str, .dead, .dead, .dead, .dead, .dead, .dead, .dead, .hole .str, .dead, .dead, .dead, .dead, .dead, .dead, .dead, .dead, .dead, .dead, .dead, .dead, .dead, .dead, .dead, .dead, .dead, .dead, .dead, .dead, .dead, .dead, .dead, .dead, .dead, .dead, .dead, .dead, .dead, .dead, .dead, .dead, .dead, .dead, .dead, .dead, .dead, .dead, .dead, .dead, .dead, .dead, .dead, .dead, .dead, .dead, .dead, .dead, .dead, .dead, .dead, .dead, .dead, .dead, .dead, .dead, .dead, .dead, .dead, .dead], [none], []⟩
@[reducible] noncomputable def f44_p1_o0 : Shape := ⟨[.dead, .dead, .dead, .dead, .dead, .dead, .whole 0, .hole (.int .i64), .dead, .dead, .dead, .dead, .dead, .dead, .dead, .dead, .dead, .dead, .dead, .dead, .dead, .dead, .dead, .dead, .dead, .dead, .dead, .dead, .dead, .dead, .dead, .dead, .dead, .dead, .dead, .dead, .dead, .dead, .dead, .dead, .dead, .dead, .dead, .dead, .dead, .dead, .dead, .dead, .dead, .dead, .dead, .dead, .dead, .dead, .dead, .dead, .dead, .dead, .dead, .dead, .dead, .dead, .dead, .dead, .dead, .dead, .dead, .dead, .dead, .dead, .dead], [], [some (.prod (.int .i64) .str)]⟩
@[reducible] noncomputable def f44_p1_outs : List (Ex × Shape) := [(.ret, f44_p1_o0)]
@[reducible] noncomputable def f44_p1_a : Ann Try.prog 0 true (f44_c.cr.cr.cr.cr.cr) := (.seq (.leaf _) (.seq (.seq (.leaf _) (.block (.piece _ _ _ f44_p0_ok))) (.leaf _)))
noncomputable def f44_p1_F (y : f44_p1_sh.den) : Option (OutDen f44_p1_outs) := evA f44_E f44_p1_a (fill f44_p1_sh y) (packOut f44_p1_outs)
theorem f44_p1_ok : PieceSound Try.prog 0 true (f44_c.cr.cr.cr.cr.cr) f44_p1_sh f44_p1_outs f44_p1_F := piece_of (f44_E_okE) f44_p1_a rfl rfl fun _ => rfl
@[reducible] noncomputable def f44_ps : List KD := [.one (.list .str), .one (.int .i64), .one .str]
@[reducible] noncomputable def f44_rs : List KD := [.one (.list (.prod (.int .i64) .str)), .one (.int .i64)]
@[reducible] noncomputable def f44_a : Ann Try.prog 0 true f44_c := (.seq (.leaf _) (.seq (.leaf _) (.seq (.leaf _) (.seq (.leaf _) (.seq (.leaf _) (.piece _ _ _ f44_p1_ok))))))
noncomputable def f44_F (y : argsDen f44_ps) : Option (argsDen f44_rs) := evFunA f44_E Try.f44 f44_a (encArgs f44_ps y) (decRes f44_rs)
theorem f44_ok : Sound Try.prog 44 (pfun f44_F) := sound_of (c := f44_c) (f44_E_okE) (by kernel_rfl) (by kernel_rfl) (by kernel_rfl) f44_a (fun _ => rfl)
@[reducible] noncomputable def f47_c : Code := codeOf Try.f47
@[reducible] noncomputable def h47_E : Env := envOf Try.prog 9999 [] []
theorem h47_E_okE : EnvOk Try.prog h47_E := envOf_ok _ _ _ mixed
@[reducible] noncomputable def h47_I : Shape := ⟨[.hole (.list (.prod (.int .i64) .str))], [], []⟩
@[reducible] noncomputable def h47_O : Shape := ⟨[.whole 0], [], [some (.prod (.int .i64) .str)]⟩
@[reducible] noncomputable def h47_a : Ann Try.prog 0 true f47_c := (.leaf _)
noncomputable def h47_F (y : h47_I.den) : Option h47_O.den := evFunH h47_E Try.f47 h47_a h47_I h47_O y
theorem h47_ok : SoundH Try.prog 47 ⟨h47_I, h47_O, h47_F⟩ := sound_ofH (I := h47_I) (O := h47_O) (c := f47_c) (h47_E_okE) (by kernel_rfl) (by kernel_rfl) (by kernel_rfl) h47_a rfl rfl (fun _ => rfl)
@[reducible] noncomputable def f45_c : Code := codeOf Try.f45
@[reducible] noncomputable def f45_E : Env := envOf Try.prog 9999 [] [⟨47, _, h47_ok⟩]
theorem f45_E_okE : EnvOk Try.prog f45_E := envOf_ok _ _ _ mixed
@[reducible] noncomputable def f45_p0_sh : Shape := ⟨[.whole 0, .hole (.int .i64), .dead, .dead, .dead, .dead, .dead, .dead, .dead, .hole (.int .i64), .hole (.int .i64), .dead, .dead, .dead, .dead, .dead, .dead, .dead, .dead, .dead, .dead, .dead, .dead, .dead, .dead], [], [some (.prod (.int .i64) .str)]⟩
@[reducible] noncomputable def f45_p0_o0 : Shape := ⟨[.whole 0, .dead, .dead, .dead, .dead, .dead, .dead, .dead, .dead, .dead, .dead, .dead, .dead, .dead, .dead, .dead, .dead, .dead, .dead, .dead, .dead, .dead, .dead, .dead, .dead], [], [some (.prod (.int .i64) .str)]⟩
@[reducible] noncomputable def f45_p0_outs : List (Ex × Shape) := [(.exit 0, f45_p0_o0)]
@[reducible] noncomputable def f45_p0_a : Ann Try.prog 0 true (f45_c.cr.cr.cl.cr.cb.cb) := (.leaf _)
noncomputable def f45_p0_st (rec : f45_p0_sh.den → Option (OutDen f45_p0_outs)) (y : f45_p0_sh.den) : Option (OutDen f45_p0_outs) := evA f45_E f45_p0_a (fill f45_p0_sh y) fun ex st => match ex with | .normal => (abs f45_p0_sh st).bind rec | e => packOut f45_p0_outs e st
theorem f45_p0_ok : PieceSound Try.prog 0 true (.loop (f45_c.cr.cr.cl.cr.cb.cb)) f45_p0_sh f45_p0_outs (go f45_p0_st) := go_of (f45_E_okE) f45_p0_a rfl rfl fun _ _ => rfl
@[reducible] noncomputable def f45_ps : List KD := [.one (.list (.prod (.int .i64) .str)), .one (.int .i64)]
@[reducible] noncomputable def f45_rs : List KD := [.one (.list (.prod (.int .i64) .str))]
@[reducible] noncomputable def f45_a : Ann Try.prog 0 true f45_c := (.seq (.leaf _) (.seq (.leaf _) (.seq (.seq (.leaf _) (.block (.piece _ _ _ f45_p0_ok))) (.leaf _))))
noncomputable def f45_F (y : argsDen f45_ps) : Option (argsDen f45_rs) := evFunA f45_E Try.f45 f45_a (encArgs f45_ps y) (decRes f45_rs)
theorem f45_ok : Sound Try.prog 45 (pfun f45_F) := sound_of (c := f45_c) (f45_E_okE) (by kernel_rfl) (by kernel_rfl) (by kernel_rfl) f45_a (fun _ => rfl)
@[reducible] noncomputable def f46_c : Code := codeOf Try.f46
@[reducible] noncomputable def f46_E : Env := envOfE Try.prog 9999 [rowOf true f42_ok, rowOf true f43_ok] [⟨30, _, h30_ok⟩, ⟨32, _, h32_ok⟩, ⟨37, _, h37_ok⟩, ⟨37, _, h37a_ok⟩, ⟨39, _, str_ok⟩] [⟨31, _, sorted_ok⟩]
theorem f46_E_okE : EnvOk Try.prog f46_E := envOfE_ok _ _ _ _ mixed
@[reducible] noncomputable def f46_p0_sh : Shape := ⟨[.dead, .dead, .dead, .dead, .dead, .whole 0, .dead, .dead, .ptr 0 0, .dead, .dead, .dead, .dead, .dead, .dead, .dead, .dead, .dead, .dead, .dead, .dead, .dead, .dead, .dead, .dead, .dead, .dead, .dead, .dead, .dead, .dead, .dead, .dead, .dead, .dead, .dead, .dead, .whole 1, .hole (.int .i64), .hole (.int .i64), .dead, .dead, .dead, .dead, .dead, .dead, .dead, .dead, .dead, .dead, .dead, .dead, .dead, .dead, .dead, .dead, .dead, .dead, .dead, .dead, .dead], [some [.bld 0, .whole 2], none], [some (.prod .unit (.prod .str .str)), some .str, some (.int .u8)]⟩
@[reducible] noncomputable def f46_p0_o0 : Shape := ⟨[.dead, .dead, .dead, .dead, .dead, .dead, .dead, .dead, .ptr 0 0, .dead, .dead, .dead, .dead, .dead, .dead, .dead, .dead, .dead, .dead, .dead, .dead, .dead, .dead, .dead, .dead, .dead, .dead, .dead, .dead, .dead, .dead, .dead, .dead, .dead, .dead, .dead, .dead, .dead, .dead, .dead, .dead, .dead, .dead, .dead, .dead, .dead, .dead, .dead, .dead, .dead, .dead, .dead, .dead, .dead, .dead, .dead, .dead, .dead, .dead, .dead, .dead], [some [.bld 0, .whole 2]], [none, none, some (.int .u8)]⟩
@[reducible] noncomputable def f46_p0_outs : List (Ex × Shape) := [(.exit 2, f46_p0_o0)]
@[reducible] noncomputable def f46_p0_a : Ann Try.prog 0 true (f46_c.cr.cr.cr.cr.cr.cl.cr.cb.cb) := (.leaf _)
noncomputable def f46_p0_st (rec : f46_p0_sh.den → Option (OutDen f46_p0_outs)) (y : f46_p0_sh.den) : Option (OutDen f46_p0_outs) := evA f46_E f46_p0_a (fill f46_p0_sh y) fun ex st => match ex with | .normal => (abs f46_p0_sh st).bind rec | e => packOut f46_p0_outs e st
theorem f46_p0_ok : PieceSound Try.prog 0 true (.loop (f46_c.cr.cr.cr.cr.cr.cl.cr.cb.cb)) f46_p0_sh f46_p0_outs (go f46_p0_st) := go_of (f46_E_okE) f46_p0_a rfl rfl fun _ _ => rfl
@[reducible] noncomputable def f46_p1_sh : Shape := ⟨[.dead, .hole (.list .str), .ptr 0 0, .dead, .dead, .whole 0, .dead, .dead, .dead, .dead, .dead, .dead, .dead, .dead, .dead, .dead, .dead, .hole (.list .str), .hole (.int .i64), .hole (.int .i64), .dead, .dead, .dead, .dead, .dead, .dead, .dead, .dead, .dead, .dead, .dead, .dead, .dead, .dead, .dead, .dead, .dead, .dead, .dead, .dead, .dead, .dead, .dead, .dead, .dead, .dead, .dead, .dead, .dead, .dead, .dead, .dead, .dead, .dead, .dead, .dead, .dead, .dead, .dead, .dead, .dead], [some [.hole (.list .str), .hole (.list (.prod (.int .i64) .str)), .hole (.list .str), .hole (.list .str), .hole (.int .i64), .hole (.int .i64), .hole (.int .i64)]], [some (.prod .unit (.prod .str .str))]⟩
@[reducible] noncomputable def f46_p1_o0 : Shape := ⟨[.dead, .hole (.list .str), .dead, .dead, .dead, .whole 0, .dead, .dead, .dead, .dead, .dead, .dead, .dead, .dead, .dead, .dead, .dead, .dead, .dead, .dead, .dead, .dead, .dead, .dead, .dead, .dead, .dead, .dead, .dead, .dead, .dead, .dead, .dead, .dead, .dead, .dead, .dead, .dead, .dead, .dead, .dead, .dead, .dead, .dead, .dead, .dead, .dead, .dead, .dead, .dead, .dead, .dead, .dead, .dead, .dead, .dead, .dead, .dead, .dead, .dead, .dead], [], [some (.prod .unit (.prod .str .str))]⟩
@[reducible] noncomputable def f46_p1_outs : List (Ex × Shape) := [(.exit 0, f46_p1_o0)]
@[reducible] noncomputable def f46_p1_a : Ann Try.prog 0 true (f46_c.cr.cr.cl.cr.cb.cb) := (.leaf _)
noncomputable def f46_p1_st (rec : f46_p1_sh.den → Option (OutDen f46_p1_outs)) (y : f46_p1_sh.den) : Option (OutDen f46_p1_outs) := evA f46_E f46_p1_a (fill f46_p1_sh y) fun ex st => match ex with | .normal => (abs f46_p1_sh st).bind rec | e => packOut f46_p1_outs e st
theorem f46_p1_ok : PieceSound Try.prog 0 true (.loop (f46_c.cr.cr.cl.cr.cb.cb)) f46_p1_sh f46_p1_outs (go f46_p1_st) := go_of (f46_E_okE) f46_p1_a rfl rfl fun _ _ => rfl
@[reducible] noncomputable def f46_ps : List KD := [.agg [(.list .str), (.list (.prod (.int .i64) .str)), (.list .str), (.list .str), (.int .i64), (.int .i64), (.int .i64)], .one (.list .str)]
@[reducible] noncomputable def f46_rs : List KD := [.one .str]
@[reducible] noncomputable def f46_a : Ann Try.prog 0 true f46_c := (.seq (.leaf _) (.seq (.leaf _) (.seq (.seq (.leaf _) (.block (.piece _ _ _ f46_p1_ok))) (.seq (.leaf _) (.seq (.leaf _) (.seq (.seq (.leaf _) (.block (.piece _ _ _ f46_p0_ok))) (.leaf _)))))))
noncomputable def f46_F (y : argsDen f46_ps) : Option (argsDen f46_rs) := evFunA f46_E Try.f46 f46_a (encArgs f46_ps y) (decRes f46_rs)
theorem f46_ok : Sound Try.prog 46 (pfun f46_F) := sound_of (c := f46_c) (f46_E_okE) (by kernel_rfl) (by kernel_rfl) (by kernel_rfl) f46_a (fun _ => rfl)
@[reducible] noncomputable def f18_c : Code := codeOf Try.f18
@[reducible] noncomputable def f18_E : Env := envOf Try.prog 9999 [rowOf true f17_ok, rowOf true f41_ok, rowOf true f42_ok, rowOf true f43_ok, rowOf false f27_ok, rowOf false f44_ok, rowOf false f45_ok, rowOf true f23_ok, rowOf true f46_ok] []
theorem f18_E_okE : EnvOk Try.prog f18_E := envOf_ok _ _ _ mixed
@[reducible] noncomputable def f18_p0_sh : Shape := ⟨[.dead, .dead, .ptr 0 0, .dead, .dead, .dead, .dead, .hole (.int .i64), .dead, .hole (.int .i64), .dead, .dead, .dead, .hole .str, .hole (.list (.prod (.int .i64) .str)), .dead, .dead, .dead, .dead, .dead, .dead, .dead, .dead, .dead, .dead, .dead, .dead, .dead, .dead, .dead, .dead, .dead, .dead, .dead, .dead, .dead, .dead, .dead, .dead, .dead, .dead, .dead, .dead, .dead, .dead, .dead, .dead, .dead, .dead, .dead, .dead, .dead, .dead, .dead, .dead, .dead, .dead, .dead, .dead, .dead, .dead, .dead, .dead, .dead, .dead, .dead, .dead, .dead, .dead, .dead, .dead, .dead, .dead, .dead, .dead, .dead, .dead, .dead, .dead, .dead, .dead, .dead, .dead, .dead, .dead, .dead, .dead, .dead, .dead, .dead, .dead, .dead, .dead, .dead, .dead, .dead, .dead, .dead, .dead, .dead, .dead, .dead, .dead, .dead, .dead, .dead, .dead, .dead, .dead, .dead, .dead], [some [.hole (.list .str), .hole (.list (.prod (.int .i64) .str)), .hole (.list .str), .hole (.list .str), .hole (.int .i64), .hole (.int .i64), .hole (.int .i64)]], []⟩
@[reducible] noncomputable def f18_p0_o0 : Shape := ⟨[.dead, .dead, .ptr 0 0, .dead, .dead, .dead, .dead, .dead, .dead, .hole (.int .i64), .dead, .dead, .dead, .hole .str, .hole (.list (.prod (.int .i64) .str)), .dead, .dead, .dead, .dead, .dead, .dead, .dead, .dead, .dead, .dead, .dead, .dead, .dead, .dead, .dead, .dead, .dead, .dead, .dead, .dead, .dead, .dead, .dead, .dead, .dead, .dead, .dead, .dead, .dead, .dead, .dead, .dead, .dead, .dead, .dead, .dead, .dead, .dead, .dead, .dead, .dead, .dead, .dead, .dead, .dead, .dead, .dead, .dead, .dead, .dead, .dead, .dead, .dead, .dead, .dead, .dead, .dead, .dead, .dead, .dead, .dead, .dead, .dead, .dead, .dead, .dead, .dead, .dead, .dead, .dead, .dead, .dead, .dead, .dead, .dead, .dead, .dead, .dead, .dead, .dead, .dead, .dead, .hole .bool, .dead, .dead, .dead, .dead, .dead, .dead, .dead, .dead, .dead, .dead, .dead, .dead, .dead], [some [.hole (.list .str), .hole (.list (.prod (.int .i64) .str)), .hole (.list .str), .hole (.list .str), .hole (.int .i64), .hole (.int .i64), .hole (.int .i64)]], []⟩
@[reducible] noncomputable def f18_p0_outs : List (Ex × Shape) := [(.normal, f18_p0_o0)]
@[reducible] noncomputable def f18_p0_a : Ann Try.prog 0 true (f18_c.cr.cr.cr.cr.cr.cr.cr.cr.cr.cr.cr.cl.cl) := (.leaf _)
noncomputable def f18_p0_F (y : f18_p0_sh.den) : Option (OutDen f18_p0_outs) := evA f18_E f18_p0_a (fill f18_p0_sh y) (packOut f18_p0_outs)
theorem f18_p0_ok : PieceSound Try.prog 0 true (f18_c.cr.cr.cr.cr.cr.cr.cr.cr.cr.cr.cr.cl.cl) f18_p0_sh f18_p0_outs f18_p0_F := piece_of (f18_E_okE) f18_p0_a rfl rfl fun _ => rfl
@[reducible] noncomputable def f18_p1_sh : Shape := ⟨[.dead, .hole (.list .str), .ptr 0 0, .dead, .dead, .dead, .dead, .dead, .dead, .dead, .dead, .dead, .dead, .dead, .dead, .dead, .dead, .dead, .dead, .dead, .dead, .dead, .dead, .dead, .dead, .dead, .dead, .dead, .dead, .dead, .dead, .dead, .dead, .dead, .dead, .dead, .dead, .dead, .dead, .dead, .dead, .dead, .dead, .dead, .dead, .dead, .dead, .dead, .dead, .dead, .dead, .dead, .dead, .dead, .dead, .dead, .dead, .dead, .dead, .dead, .dead, .dead, .dead, .dead, .dead, .dead, .dead, .dead, .dead, .dead, .dead, .dead, .dead, .dead, .dead, .dead, .dead, .dead, .dead, .dead, .dead, .dead, .dead, .dead, .dead, .dead, .dead, .dead, .dead, .dead, .dead, .dead, .dead, .dead, .dead, .dead, .dead, .dead, .dead, .dead, .dead, .dead, .dead, .dead, .dead, .dead, .dead, .dead, .dead, .dead, .dead], [some [.hole (.list .str), .hole (.list (.prod (.int .i64) .str)), .hole (.list .str), .hole (.list .str), .hole (.int .i64), .hole (.int .i64), .hole (.int .i64)]], []⟩
@[reducible] noncomputable def f18_p1_o0 : Shape := ⟨[.dead, .dead, .dead, .dead, .hole (.list (.list (.prod (.int .i64) .str))), .hole (.int .i64), .dead, .dead, .dead, .dead, .dead, .dead, .dead, .dead, .dead, .dead, .dead, .dead, .dead, .dead, .dead, .dead, .dead, .dead, .dead, .dead, .dead, .dead, .dead, .dead, .dead, .dead, .dead, .dead, .dead, .dead, .dead, .dead, .dead, .dead, .dead, .dead, .dead, .dead, .dead, .dead, .dead, .dead, .dead, .dead, .dead, .dead, .dead, .dead, .dead, .dead, .dead, .dead, .dead, .dead, .dead, .dead, .dead, .dead, .dead, .dead, .dead, .dead, .dead, .dead, .dead, .dead, .dead, .dead, .dead, .dead, .dead, .dead, .dead, .dead, .dead, .dead, .dead, .dead, .dead, .dead, .dead, .dead, .dead, .dead, .dead, .dead, .dead, .dead, .dead, .dead, .dead, .dead, .dead, .dead, .dead, .dead, .dead, .dead, .dead, .dead, .dead, .dead, .dead, .dead, .dead], [], []⟩
@[reducible] noncomputable def f18_p1_outs : List (Ex × Shape) := [(.ret, f18_p1_o0)]
@[reducible] noncomputable def f18_p1_a : Ann Try.prog 0 true (f18_c.cr.cr.cr.cr.cr.cr.cr.cr) := (.seq (.leaf _) (.seq (.leaf _) (.seq (.leaf _) (.seq (.seq (.piece _ _ _ f18_p0_ok) (.leaf _)) (.leaf _)))))
noncomputable def f18_p1_F (y : f18_p1_sh.den) : Option (OutDen f18_p1_outs) := evA f18_E f18_p1_a (fill f18_p1_sh y) (packOut f18_p1_outs)
theorem f18_p1_ok : PieceSound Try.prog 0 true (f18_c.cr.cr.cr.cr.cr.cr.cr.cr) f18_p1_sh f18_p1_outs f18_p1_F := piece_of (f18_E_okE) f18_p1_a rfl rfl fun _ => rfl
@[reducible] noncomputable def f18_p2_sh : Shape := ⟨[.dead, .hole (.list .str), .ptr 0 0, .dead, .dead, .dead, .dead, .dead, .dead, .dead, .dead, .dead, .dead, .dead, .dead, .dead, .dead, .dead, .dead, .dead, .dead, .dead, .dead, .dead, .dead, .dead, .dead, .dead, .dead, .dead, .dead, .dead, .dead, .dead, .dead, .dead, .dead, .dead, .dead, .dead, .dead, .dead, .dead, .dead, .dead, .dead, .dead, .dead, .dead, .dead, .dead, .dead, .dead, .dead, .dead, .dead, .dead, .dead, .dead, .dead, .dead, .dead, .dead, .dead, .dead, .dead, .dead, .dead, .dead, .dead, .dead, .dead, .dead, .dead, .dead, .dead, .dead, .dead, .dead, .dead, .dead, .dead, .dead, .dead, .dead, .dead, .dead, .dead, .dead, .dead, .dead, .dead, .dead, .dead, .dead, .dead, .dead, .dead, .dead, .dead, .dead, .dead, .dead, .dead, .dead, .dead, .dead, .dead, .dead, .dead, .dead], [some [.hole (.list .str), .hole (.list (.prod (.int .i64) .str)), .hole (.list .str), .hole (.list .str), .hole (.int .i64), .hole (.int .i64), .hole (.int .i64)]], []⟩
@[reducible] noncomputable def f18_p2_o0 : Shape := ⟨[.dead, .hole (.list .str), .ptr 0 0, .dead, .dead, .dead, .dead, .dead, .dead, .dead, .dead, .dead, .dead, .dead, .dead, .dead, .dead, .dead, .dead, .dead, .dead, .dead, .hole .bool, .dead, .dead, .dead, .dead, .dead, .dead, .dead, .dead, .dead, .dead, .dead, .dead, .dead, .dead, .dead, .dead, .dead, .dead, .dead, .dead, .dead, .dead, .dead, .dead, .dead, .dead, .dead, .dead, .dead, .dead, .dead, .dead, .dead, .dead, .dead, .dead, .dead, .dead, .dead, .dead, .dead, .dead, .dead, .dead, .dead, .dead, .dead, .dead, .dead, .dead, .dead, .dead, .dead, .dead, .dead, .dead, .dead, .dead, .dead, .dead, .dead, .dead, .dead, .dead, .dead, .dead, .dead, .dead, .dead, .dead, .dead, .dead, .dead, .dead, .dead, .dead, .dead, .dead, .dead, .dead, .dead, .dead, .dead, .dead, .dead, .dead, .dead, .dead], [some [.hole (.list .str), .hole (.list (.prod (.int .i64) .str)), .hole (.list .str), .hole (.list .str), .hole (.int .i64), .hole (.int .i64), .hole (.int .i64)]], []⟩
@[reducible] noncomputable def f18_p2_outs : List (Ex × Shape) := [(.normal, f18_p2_o0)]
@[reducible] noncomputable def f18_p2_a : Ann Try.prog 0 true (f18_c.cr.cl.cl) := (.leaf _)
noncomputable def f18_p2_F (y : f18_p2_sh.den) : Option (OutDen f18_p2_outs) := evA f18_E f18_p2_a (fill f18_p2_sh y) (packOut f18_p2_outs)
theorem f18_p2_ok : PieceSound Try.prog 0 true (f18_c.cr.cl.cl) f18_p2_sh f18_p2_outs f18_p2_F := piece_of (f18_E_okE) f18_p2_a rfl rfl fun _ => rfl
@[reducible] noncomputable def f18_ps : List KD := [.agg [(.list .str), (.list (.prod (.int .i64) .str)), (.list .str), (.list .str), (.int .i64), (.int .i64), (.int .i64)], .one (.list .str)]
@[reducible] noncomputable def f18_rs : List KD := [.one (.list (.list (.prod (.int .i64) .str))), .one (.int .i64)]
@[reducible] noncomputable def f18_a : Ann Try.prog 0 true f18_c := (.seq (.leaf _) (.seq (.seq (.piece _ _ _ f18_p2_ok) (.leaf _)) (.seq (.leaf _) (.seq (.leaf _) (.seq (.leaf _) (.seq (.leaf _) (.seq (.leaf _) (.seq (.leaf _) (.piece _ _ _ f18_p1_ok)))))))))
noncomputable def f18_F (y : argsDen f18_ps) : Option (argsDen f18_rs) := evFunA f18_E Try.f18 f18_a (encArgs f18_ps y) (decRes f18_rs)
theorem f18_ok : Sound Try.prog 18 (pfun f18_F) := sound_of (c := f18_c) (f18_E_okE) (by kernel_rfl) (by kernel_rfl) (by kernel_rfl) f18_a (fun _ => rfl)
@[reducible] noncomputable def f19_c : Code := codeOf Try.f19
@[reducible] noncomputable def f19_E : Env := envOf Try.prog 9999 [rowOf true f25_ok] [⟨47, _, h47_ok⟩]
theorem f19_E_okE : EnvOk Try.prog f19_E := envOf_ok _ _ _ mixed
@[reducible] noncomputable def f19_p0_sh : Shape := ⟨[.dead, .hole (.int .i64), .hole .str, .ptr 0 0, .dead, .dead, .ptr 1 0, .dead, .dead, .dead, .dead, .dead, .dead, .dead, .dead, .dead, .dead, .dead, .dead, .dead, .dead, .dead, .dead, .dead, .dead, .dead, .dead, .dead, .dead, .dead, .dead, .dead, .dead, .dead, .dead, .dead, .dead, .dead, .dead, .dead, .dead, .dead, .dead, .dead, .dead], [some [.hole (.list .str), .hole (.list (.prod (.int .i64) .str))], some [.nilS, .nilS]], []⟩
@[reducible] noncomputable def f19_p0_o0 : Shape := ⟨[.dead, .hole (.int .i64), .hole .str, .ptr 0 0, .dead, .dead, .ptr 1 0, .dead, .hole .bool, .dead, .dead, .dead, .dead, .dead, .dead, .dead, .dead, .dead, .dead, .dead, .dead, .dead, .dead, .dead, .dead, .dead, .dead, .dead, .dead, .dead, .dead, .dead, .dead, .dead, .dead, .dead, .dead, .dead, .dead, .dead, .dead, .dead, .dead, .dead, .dead], [some [.hole (.list .str), .hole (.list (.prod (.int .i64) .str))], some [.nilS, .nilS]], []⟩
@[reducible] noncomputable def f19_p0_outs : List (Ex × Shape) := [(.normal, f19_p0_o0)]
@[reducible] noncomputable def f19_p0_a : Ann Try.prog 0 true (f19_c.cr.cl.cb.cl) := (.leaf _)
noncomputable def f19_p0_F (y : f19_p0_sh.den) : Option (OutDen f19_p0_outs) := evA f19_E f19_p0_a (fill f19_p0_sh y) (packOut f19_p0_outs)
theorem f19_p0_ok : PieceSound Try.prog 0 true (f19_c.cr.cl.cb.cl) f19_p0_sh f19_p0_outs f19_p0_F := piece_of (f19_E_okE) f19_p0_a rfl rfl fun _ => rfl
@[reducible] noncomputable def f19_ps : List KD := [.agg [(.list .str), (.list (.prod (.int .i64) .str))], .one (.int .i64), .one .str]
@[reducible] noncomputable def f19_rs : List KD := [.agg [(.list .str), (.list (.prod (.int .i64) .str))], .one (.int .i64)]
@[reducible] noncomputable def f19_a : Ann Try.prog 0 true f19_c := (.seq (.leaf _) (.seq (.block (.seq (.piece _ _ _ f19_p0_ok) (.leaf _))) (.leaf _)))
noncomputable def f19_F (y : argsDen f19_ps) : Option (argsDen f19_rs) := evFunA f19_E Try.f19 f19_a (encArgs f19_ps y) (decRes f19_rs)
theorem f19_ok : Sound Try.prog 19 (pfun f19_F) := sound_of (c := f19_c) (f19_E_okE) (by kernel_rfl) (by kernel_rfl) (by kernel_rfl) f19_a (fun _ => rfl)
@[reducible] noncomputable def f73_c : Code := codeOf Try.f73
@[reducible] noncomputable def h73_E : Env := envOf Try.prog 9999 [] []
theorem h73_E_okE : EnvOk Try.prog h73_E := envOf_ok _ _ _ mixed
@[reducible] noncomputable def h73_I : Shape := ⟨[.hole (.list .str)], [], []⟩
@[reducible] noncomputable def h73_O : Shape := ⟨[.whole 0], [], [some .str]⟩
@[reducible] noncomputable def h73_a : Ann Try.prog 0 true f73_c := (.leaf _)
noncomputable def h73_F (y : h73_I.den) : Option h73_O.den := evFunH h73_E Try.f73 h73_a h73_I h73_O y
theorem h73_ok : SoundH Try.prog 73 ⟨h73_I, h73_O, h73_F⟩ := sound_ofH (I := h73_I) (O := h73_O) (c := f73_c) (h73_E_okE) (by kernel_rfl) (by kernel_rfl) (by kernel_rfl) h73_a rfl rfl (fun _ => rfl)
@[reducible] noncomputable def f49_c : Code := codeOf Try.f49
@[reducible] noncomputable def f49_E : Env := envOf Try.prog 9999 [] []
theorem f49_E_okE : EnvOk Try.prog f49_E := envOf_ok _ _ _ mixed
@[reducible] noncomputable def f49_ps : List KD := [.one (.int .i64)]
@[reducible] noncomputable def f49_rs : List KD := [.one .bool]
@[reducible] noncomputable def f49_a : Ann Try.prog 0 true f49_c := (.leaf _)
noncomputable def f49_F (y : argsDen f49_ps) : Option (argsDen f49_rs) := evFunA f49_E Try.f49 f49_a (encArgs f49_ps y) (decRes f49_rs)
theorem f49_ok : Sound Try.prog 49 (pfun f49_F) := sound_of (c := f49_c) (f49_E_okE) (by kernel_rfl) (by kernel_rfl) (by kernel_rfl) f49_a (fun _ => rfl)
@[reducible] noncomputable def f48_c : Code := codeOf Try.f48
@[reducible] noncomputable def h48_E : Env := envOf Try.prog 9999 [rowOf true f49_ok] [⟨73, _, h73_ok⟩]
theorem h48_E_okE : EnvOk Try.prog h48_E := envOf_ok _ _ _ mixed
@[reducible] noncomputable def h48_p0_sh : Shape := ⟨[.dead, .fn (.func 49) [] [], .dead, .dead, .ptr 1 0, .whole 0, .dead, .dead, .dead, .dead, .dead, .dead, .hole (.list (.prod (.int .i64) .str)), .hole (.int .i64), .hole (.int .i64), .dead, .dead, .dead, .dead, .dead, .dead, .dead, .dead, .dead, .dead, .dead, .dead, .dead, .dead, .dead, .dead], [none, some [.nilS, .nilS]], [some .str]⟩
@[reducible] noncomputable def h48_p0_o0 : Shape := ⟨[.dead, .fn (.func 49) [] [], .dead, .dead, .ptr 1 0, .whole 0, .dead, .dead, .dead, .dead, .dead, .dead, .hole (.list (.prod (.int .i64) .str)), .hole (.int .i64), .hole (.int .i64), .dead, .dead, .dead, .dead, .dead, .dead, .dead, .dead, .dead, .dead, .dead, .dead, .dead, .dead, .dead, .dead], [none, some [.nilS, .nilS]], [some .str]⟩
@[reducible] noncomputable def h48_p0_outs : List (Ex × Shape) := [(.normal, h48_p0_o0)]
@[reducible] noncomputable def h48_p0_a : Ann Try.prog 0 true (f48_c.cr.cr.cl.cr.cb.cb.cr.cr.cl) := (.leaf _)
noncomputable def h48_p0_F (y : h48_p0_sh.den) : Option (OutDen h48_p0_outs) := evA h48_E h48_p0_a (fill h48_p0_sh y) (packOut h48_p0_outs)
theorem h48_p0_ok : PieceSound Try.prog 0 true (f48_c.cr.cr.cl.cr.cb.cb.cr.cr.cl) h48_p0_sh h48_p0_outs h48_p0_F := piece_of (h48_E_okE) h48_p0_a rfl rfl fun _ => rfl
@[reducible] noncomputable def h48_p1_sh : Shape := ⟨[.dead, .fn (.func 49) [] [], .dead, .dead, .ptr 1 0, .whole 0, .dead, .dead, .dead, .dead, .dead, .dead, .hole (.list (.prod (.int .i64) .str)), .hole (.int .i64), .hole (.int .i64), .dead, .dead, .dead, .dead, .dead, .dead, .dead, .dead, .dead, .dead, .dead, .dead, .dead, .dead, .dead, .dead], [none, some [.nilS, .nilS]], [some .str]⟩
@[reducible] noncomputable def h48_p1_o0 : Shape := ⟨[.dead, .dead, .dead, .dead, .ptr 1 0, .whole 0, .dead, .dead, .dead, .dead, .dead, .dead, .dead, .dead, .dead, .dead, .dead, .dead, .dead, .dead, .dead, .dead, .dead, .dead, .dead, .dead, .dead, .dead, .dead, .dead, .dead], [none, some [.nilS, .nilS]], [some .str]⟩
@[reducible] noncomputable def h48_p1_outs : List (Ex × Shape) := [(.exit 0, h48_p1_o0)]
@[reducible] noncomputable def h48_p1_a : Ann Try.prog 0 true (f48_c.cr.cr.cl.cr.cb.cb) := (.seq (.leaf _) (.seq (.leaf _) (.seq (.piece _ _ _ h48_p0_ok) (.leaf _))))
noncomputable def h48_p1_st (rec : h48_p1_sh.den → Option (OutDen h48_p1_outs)) (y : h48_p1_sh.den) : Option (OutDen h48_p1_outs) := evA h48_E h48_p1_a (fill h48_p1_sh y) fun ex st => match ex with | .normal => (abs h48_p1_sh st).bind rec | e => packOut h48_p1_outs e st
theorem h48_p1_ok : PieceSound Try.prog 0 true (.loop (f48_c.cr.cr.cl.cr.cb.cb)) h48_p1_sh h48_p1_outs (go h48_p1_st) := go_of (h48_E_okE) h48_p1_a rfl rfl fun _ _ => rfl
@[reducible] noncomputable def h48_I : Shape := ⟨[.agg [.hole (.list .str), .hole (.list (.prod (.int .i64) .str))], .fn (.func 49) [] []], [], []⟩
@[reducible] noncomputable def h48_O : Shape := ⟨[.agg [.whole 0, .nilS]], [], [some .str]⟩
@[reducible] noncomputable def h48_a : Ann Try.prog 0 true f48_c := (.seq (.leaf _) (.seq (.leaf _) (.seq (.seq (.leaf _) (.block (.piece _ _ _ h48_p1_ok))) (.leaf _))))
noncomputable def h48_F (y : h48_I.den) : Option h48_O.den := evFunH h48_E Try.f48 h48_a h48_I h48_O y
theorem h48_ok : SoundH Try.prog 48 ⟨h48_I, h48_O, h48_F⟩ := sound_ofH (I := h48_I) (O := h48_O) (c := f48_c) (h48_E_okE) (by kernel_rfl) (by kernel_rfl) (by kernel_rfl) h48_a rfl rfl (fun _ => rfl)
@[reducible] noncomputable def f20_c : Code := codeOf Try.f20
@[reducible] noncomputable def f20_E : Env := envOf Try.prog 9999 [rowOf true f25_ok] [⟨48, _, h48_ok⟩]
theorem f20_E_okE : EnvOk Try.prog f20_E := envOf_ok _ _ _ mixed
@[reducible] noncomputable def f20_ps : List KD := [.agg [(.list .str), (.list (.prod (.int .i64) .str))]]
@[reducible] noncomputable def f20_rs : List KD := [.agg [(.list .str), (.list (.prod (.int .i64) .str))], .one (.int .i64)]
@[reducible] noncomputable def f20_a : Ann Try.prog 0 true f20_c := (.leaf _)
noncomputable def f20_F (y : argsDen f20_ps) : Option (argsDen f20_rs) := evFunA f20_E Try.f20 f20_a (encArgs f20_ps y) (decRes f20_rs)
theorem f20_ok : Sound Try.prog 20 (pfun f20_F) := sound_of (c := f20_c) (f20_E_okE) (by kernel_rfl) (by kernel_rfl) (by kernel_rfl) f20_a (fun _ => rfl)
@[reducible] noncomputable def f10_c : Code := codeOf Try.f10
@[reducible] noncomputable def f10_E : Env := envOf Try.prog 9999 [rowOf false f18_ok, rowOf false f19_ok, rowOf false f20_ok, rowOf false f13_ok] []
theorem f10_E_okE : EnvOk Try.prog f10_E := envOf_ok _ _ _ mixed
@[reducible] noncomputable def f10_p0_sh : Shape := ⟨[.dead, .dead, .dead, .dead, .ptr 1 0, .dead, .dead, .dead, .ptr 2 0, .dead, .dead, .dead, .dead, .dead, .dead, .dead, .dead, .dead, .dead, .dead, .dead, .dead, .dead, .dead, .dead, .hole (.list (.list (.prod (.int .i64) .str))), .hole (.int .i64), .hole (.int .i64), .dead, .dead, .dead, .hole (.list (.prod (.int .i64) .str)), .hole (.int .i64), .hole (.int .i64), .dead, .dead, .dead, .dead, .dead, .dead, .dead, .dead, .dead, .dead, .dead, .dead, .dead, .dead, .dead, .dead, .dead, .dead, .dead, .dead, .dead, .dead, .dead], [none, some [.nilS, .nilS, .nilS, .nilS, .hole (.int .i64), .hole (.int .i64), .hole (.int .i64)], some [.hole (.list .str), .hole (.list (.prod (.int .i64) .str))]], []⟩
@[reducible] noncomputable def f10_p0_o0 : Shape := ⟨[.dead, .dead, .dead, .dead, .ptr 1 0, .dead, .dead, .dead, .ptr 2 0, .dead, .dead, .dead, .dead, .dead, .dead, .dead, .dead, .dead, .dead, .dead, .dead, .dead, .dead, .dead, .dead, .hole (.list (.list (.prod (.int .i64) .str))), .hole (.int .i64), .hole (.int .i64), .dead, .dead, .dead, .dead, .dead, .dead, .dead, .dead, .dead, .dead, .dead, .dead, .dead, .dead, .dead, .dead, .dead, .dead, .dead, .dead, .dead, .dead, .dead, .dead, .dead, .dead, .dead, .dead, .dead], [none, some [.nilS, .nilS, .nilS, .nilS, .hole (.int .i64), .hole (.int .i64), .hole (.int .i64)], some [.hole (.list .str), .hole (.list (.prod (.int .i64) .str))]], []⟩
@[reducible] noncomputable def f10_p0_outs : List (Ex × Shape) := [(.exit 2, f10_p0_o0)]
@[reducible] noncomputable def f10_p0_a : Ann Try.prog 0 true (f10_c.cr.cr.cr.cr.cl.cr.cb.cb.cr.cr.cl.cb.cr.cl.cr.cb.cb) := (.leaf _)
noncomputable def f10_p0_st (rec : f10_p0_sh.den → Option (OutDen f10_p0_outs)) (y : f10_p0_sh.den) : Option (OutDen f10_p0_outs) := evA f10_E f10_p0_a (fill f10_p0_sh y) fun ex st => match ex with | .normal => (abs f10_p0_sh st).bind rec | e => packOut f10_p0_outs e st
theorem f10_p0_ok : PieceSound Try.prog 0 true (.loop (f10_c.cr.cr.cr.cr.cl.cr.cb.cb.cr.cr.cl.cb.cr.cl.cr.cb.cb)) f10_p0_sh f10_p0_outs (go f10_p0_st) := go_of (f10_E_okE) f10_p0_a rfl rfl fun _ _ => rfl
@[reducible] noncomputable def f10_p1_sh : Shape := ⟨[.dead, .dead, .dead, .dead, .ptr 1 0, .dead, .dead, .dead, .ptr 2 0, .dead, .dead, .dead, .dead, .dead, .dead, .dead, .dead, .dead, .dead, .dead, .dead, .dead, .dead, .dead, .dead, .hole (.list (.list (.prod (.int .i64) .str))), .hole (.int .i64), .hole (.int .i64), .dead, .dead, .dead, .dead, .dead, .dead, .dead, .dead, .dead, .dead, .dead, .dead, .dead, .dead, .dead, .dead, .dead, .dead, .dead, .dead, .dead, .dead, .dead, .dead, .dead, .dead, .dead, .dead, .dead], [none, some [.nilS, .nilS, .nilS, .nilS, .hole (.int .i64), .hole (.int .i64), .hole (.int .i64)], some [.hole (.list .str), .hole (.list (.prod (.int .i64) .str))]], []⟩
@[reducible] noncomputable def f10_p1_o0 : Shape := ⟨[.dead, .dead, .dead, .dead, .ptr 1 0, .dead, .dead, .dead, .ptr 2 0, .dead, .dead, .dead, .dead, .dead, .dead, .dead, .dead, .dead, .dead, .dead, .dead, .dead, .dead, .dead, .dead, .dead, .dead, .dead, .dead, .dead, .dead, .dead, .dead, .dead, .dead, .dead, .dead, .dead, .dead, .dead, .dead, .dead, .dead, .dead, .dead, .dead, .dead, .dead, .dead, .dead, .dead, .dead, .dead, .dead, .dead, .dead, .dead], [none, some [.nilS, .nilS, .nilS, .nilS, .hole (.int .i64), .hole (.int .i64), .hole (.int .i64)], some [.hole (.list .str), .hole (.list (.prod (.int .i64) .str))]], []⟩
@[reducible] noncomputable def f10_p1_outs : List (Ex × Shape) := [(.exit 0, f10_p1_o0)]
@[reducible] noncomputable def f10_p1_a : Ann Try.prog 0 true (f10_c.cr.cr.cr.cr.cl.cr.cb.cb) := (.seq (.leaf _) (.seq (.leaf _) (.seq (.block (.seq (.leaf _) (.seq (.seq (.leaf _) (.block (.piece _ _ _ f10_p0_ok))) (.leaf _)))) (.leaf _))))
noncomputable def f10_p1_st (rec : f10_p1_sh.den → Option (OutDen f10_p1_outs)) (y : f10_p1_sh.den) : Option (OutDen f10_p1_outs) := evA f10_E f10_p1_a (fill f10_p1_sh y) fun ex st => match ex with | .normal => (abs f10_p1_sh st).bind rec | e => packOut f10_p1_outs e st
theorem f10_p1_ok : PieceSound Try.prog 0 true (.loop (f10_c.cr.cr.cr.cr.cl.cr.cb.cb)) f10_p1_sh f10_p1_outs (go f10_p1_st) := go_of (f10_E_okE) f10_p1_a rfl rfl fun _ _ => rfl
@[reducible] noncomputable def f10_ps : List KD := [.agg [(.list .str), (.list (.prod (.int .i64) .str)), (.list .str), (.list .str), (.int .i64), (.int .i64), (.int .i64)], .one (.list .str)]
@[reducible] noncomputable def f10_rs : List KD := [.agg [(.list .str), (.list (.prod (.int .i64) .str)), (.list .str), (.list .str), (.int .i64), (.int .i64), (.int .i64)], .one (.int .i64)]
@[reducible] noncomputable def f10_a : Ann Try.prog 0 true f10_c := (.seq (.leaf _) (.seq (.leaf _) (.seq (.leaf _) (.seq (.leaf _) (.seq (.seq (.leaf _) (.block (.piece _ _ _ f10_p1_ok))) (.leaf _))))))
noncomputable def f10_F (y : argsDen f10_ps) : Option (argsDen f10_rs) := evFunA f10_E Try.f10 f10_a (encArgs f10_ps y) (decRes f10_rs)
theorem f10_ok : Sound Try.prog 10 (pfun f10_F) := sound_of (c := f10_c) (f10_E_okE) (by kernel_rfl) (by kernel_rfl) (by kernel_rfl) f10_a (fun _ => rfl)
@[reducible] noncomputable def f81_c : Code := codeOf Try.f81
@[reducible] noncomputable def f81_E : Env := envOf Try.prog 9999 [] []
theorem f81_E_okE : EnvOk Try.prog f81_E := envOf_ok _ _ _ mixed
@[reducible] noncomputable def f81_ps : List KD := [.one .str]
@[reducible] noncomputable def f81_rs : List KD := [.one .bool]
@[reducible] noncomputable def f81_a : Ann Try.prog 0 true f81_c := (.leaf _)
noncomputable def f81_F (y : argsDen f81_ps) : Option (argsDen f81_rs) := evFunA f81_E Try.f81 f81_a (encArgs f81_ps y) (decRes f81_rs)
theorem f81_ok : Sound Try.prog 81 (pfun f81_F) := sound_of (c := f81_c) (f81_E_okE) (by kernel_rfl) (by kernel_rfl) (by kernel_rfl) f81_a (fun _ => rfl)
@[reducible] noncomputable def f66_c : Code := codeOf Try.f66
@[reducible] noncomputable def f66_E : Env := envOf Try.prog 9999 [rowOf true f81_ok] []
theorem f66_E_okE : EnvOk Try.prog f66_E := envOf_ok _ _ _ mixed
@[reducible] noncomputable def f66_ps : List KD := [.one .str, .one .str]
@[reducible] noncomputable def f66_rs : List KD := [.one .bool]
@[reducible] noncomputable def f66_a : Ann Try.prog 0 true f66_c := (.leaf _)
noncomputable def f66_F (y : argsDen f66_ps) : Option (argsDen f66_rs) := evFunA f66_E Try.f66 f66_a (encArgs f66_ps y) (decRes f66_rs)
theorem f66_ok : Sound Try.prog 66 (pfun f66_F) := sound_of (c := f66_c) (f66_E_okE) (by kernel_rfl) (by kernel_rfl) (by kernel_rfl) f66_a (fun _ => rfl)
@[reducible] noncomputable def f67_c : Code := codeOf Try.f67
@[reducible] noncomputable def f67_E : Env := envOf Try.prog 9999 [] []
theorem f67_E_okE : EnvOk Try.prog f67_E := envOf_ok _ _ _ mixed
@[reducible] noncomputable def f67_ps : List KD := [.one .str]
@[reducible] noncomputable def f67_rs : List KD := [.one .bool]
@[reducible] noncomputable def f67_a : Ann Try.prog 0 true f67_c := (.leaf _)
noncomputable def f67_F (y : argsDen f67_ps) : Option (argsDen f67_rs) := evFunA f67_E Try.f67 f67_a (encArgs f67_ps y) (decRes f67_rs)
theorem f67_ok : Sound Try.prog 67 (pfun f67_F) := sound_of (c := f67_c) (f67_E_okE) (by kernel_rfl) (by kernel_rfl) (by kernel_rfl) f67_a (fun _ => rfl)
@[reducible] noncomputable def f33_c : Code := codeOf Try.f33
@[reducible] noncomputable def f33_E : Env := envOf Try.prog 9999 [rowOf true f66_ok, rowOf true f67_ok] []
theorem f33_E_okE : EnvOk Try.prog f33_E := envOf_ok _ _ _ mixed
@[reducible] noncomputable def f33_p0_sh : Shape := ⟨[.hole (.list .str), .hole .str, .dead, .dead, .dead, .dead, .hole (.int .i64), .hole (.int .i64), .hole (.int .i64), .dead, .dead, .dead, .dead, .dead, .dead, .dead, .dead, .dead, .dead, .dead, .dead, .dead, .dead, .dead, .dead, .dead, .dead, .dead, .dead, .dead, .dead, .dead, .dead, .dead, .dead, .dead, .dead, .dead, .dead, .dead, .dead, .dead, .dead, .dead, .dead, .dead, .dead, .dead, .dead, .dead, .dead, .dead, .dead, .dead], [], []⟩
@[reducible] noncomputable def f33_p0_o0 : Shape := ⟨[.hole (.list .str), .hole .str, .dead, .dead, .dead, .dead, .hole (.int .i64), .hole (.int .i64), .dead, .dead, .dead, .dead, .dead, .dead, .dead, .dead, .dead, .dead, .dead, .dead, .dead, .dead, .dead, .dead, .dead, .dead, .dead, .dead, .dead, .dead, .dead, .dead, .dead, .dead, .dead, .dead, .dead, .dead, .dead, .dead, .dead, .dead, .dead, .dead, .dead, .dead, .dead, .dead, .dead, .dead, .dead, .dead, .dead, .dead], [], []⟩
@[reducible] noncomputable def f33_p0_outs : List (Ex × Shape) := [(.exit 0, f33_p0_o0)]
@[reducible] noncomputable def f33_p0_a : Ann Try.prog 0 true (f33_c.cr.cr.cr.cl.cb.cb) := (.leaf _)
noncomputable def f33_p0_st (rec : f33_p0_sh.den → Option (OutDen f33_p0_outs)) (y : f33_p0_sh.den) : Option (OutDen f33_p0_outs) := evA f33_E f33_p0_a (fill f33_p0_sh y) fun ex st => match ex with | .normal => (abs f33_p0_sh st).bind rec | e => packOut f33_p0_outs e st
theorem f33_p0_ok : PieceSound Try.prog 0 true (.loop (f33_c.cr.cr.cr.cl.cb.cb)) f33_p0_sh f33_p0_outs (go f33_p0_st) := go_of (f33_E_okE) f33_p0_a rfl rfl fun _ _ => rfl
@[reducible] noncomputable def f33_ps : List KD := [.one (.list .str), .one .str]
@[reducible] noncomputable def f33_rs : List KD := [.one (.int .i64), .one .bool]
@[reducible] noncomputable def f33_a : Ann Try.prog 0 true f33_c := (.seq (.leaf _) (.seq (.leaf _) (.seq (.leaf _) (.seq (.block (.piece _ _ _ f33_p0_ok)) (.leaf _)))))
noncomputable def f33_F (y : argsDen f33_ps) : Option (argsDen f33_rs) := evFunA f33_E Try.f33 f33_a (encArgs f33_ps y) (decRes f33_rs)
theorem f33_ok : Sound Try.prog 33 (pfun f33_F) := sound_of (c := f33_c) (f33_E_okE) (by kernel_rfl) (by kernel_rfl) (by kernel_rfl) f33_a (fun _ => rfl)
@[reducible] noncomputable def f14_c : Code := codeOf Try.f14
@[reducible] noncomputable def f14_E : Env := envOf Try.prog 9999 [rowOf true f17_ok, rowOf true f33_ok] []
theorem f14_E_okE : EnvOk Try.prog f14_E := envOf_ok _ _ _ mixed
@[reducible] noncomputable def f14_ps : List KD := [.agg [(.list .str), (.list (.prod (.int .i64) .str)), (.list .str), (.list .str), (.int .i64), (.int .i64), (.int .i64)], .one .str]
@[reducible] noncomputable def f14_rs : List KD := [.one .str, .one (.int .i64)]
@[reducible] noncomputable def f14_a : Ann Try.prog 0 true f14_c := (.leaf _)
noncomputable def f14_F (y : argsDen f14_ps) : Option (argsDen f14_rs) := evFunA f14_E Try.f14 f14_a (encArgs f14_ps y) (decRes f14_rs)
theorem f14_ok : Sound Try.prog 14 (pfun f14_F) := sound_of (c := f14_c) (f14_E_okE) (by kernel_rfl) (by kernel_rfl) (by kernel_rfl) f14_a (fun _ => rfl)
noncomputable def f7_L : argsDen f7_ps → Option (argsDen f7_rs) := Classical.choose (⟨f7_F, rfl⟩ : ∃ f : argsDen f7_ps → Option (argsDen f7_rs), f = f7_F)
theorem f7_Le : f7_L = f7_F := Classical.choose_spec (⟨f7_F, rfl⟩ : ∃ f : argsDen f7_ps → Option (argsDen f7_rs), f = f7_F)
theorem f7_Lok : Sound Try.prog 7 (pfun f7_L) := by rw [f7_Le]; exact f7_ok
noncomputable def f10_L : argsDen f10_ps → Option (argsDen f10_rs) := Classical.choose (⟨f10_F, rfl⟩ : ∃ f : argsDen f10_ps → Option (argsDen f10_rs), f = f10_F)
theorem f10_Le : f10_L = f10_F := Classical.choose_spec (⟨f10_F, rfl⟩ : ∃ f : argsDen f10_ps → Option (argsDen f10_rs), f = f10_F)
theorem f10_Lok : Sound Try.prog 10 (pfun f10_L) := by rw [f10_Le]; exact f10_ok
noncomputable def f14_L : argsDen f14_ps → Option (argsDen f14_rs) := Classical.choose (⟨f14_F, rfl⟩ : ∃ f : argsDen f14_ps → Option (argsDen f14_rs), f = f14_F)
theorem f14_Le : f14_L = f14_F := Classical.choose_spec (⟨f14_F, rfl⟩ : ∃ f : argsDen f14_ps → Option (argsDen f14_rs), f = f14_F)
theorem f14_Lok : Sound Try.prog 14 (pfun f14_L) := by rw [f14_Le]; exact f14_ok
@[reducible] noncomputable def f8_c : Code := codeOf Try.f8
@[reducible] noncomputable def f8_E : Env := envOf Try.prog 9999 [rowOf false f7_Lok, rowOf false f10_Lok, rowOf true f14_Lok] []
theorem f8_E_okE : EnvOk Try.prog f8_E := envOf_ok _ _ _ mixed
@[reducible] noncomputable def f8_ps : List KD := []
@[reducible] noncomputable def f8_rs : List KD := [.one .bool]
@[reducible] noncomputable def f8_a : Ann Try.prog 0 true f8_c := (.leaf _)
noncomputable def f8_F0 (y : argsDen f8_ps) : Option (argsDen f8_rs) := evFunA f8_E Try.f8 f8_a (encArgs f8_ps y) (decRes f8_rs)
noncomputable def f8_F : argsDen f8_ps → Option (argsDen f8_rs) := Classical.choose (⟨f8_F0, rfl⟩ : ∃ f : argsDen f8_ps → Option (argsDen f8_rs), f = f8_F0)
theorem f8_Fe : f8_F = f8_F0 := Classical.choose_spec (⟨f8_F0, rfl⟩ : ∃ f : argsDen f8_ps → Option (argsDen f8_rs), f = f8_F0)
theorem f8_ok0 : Sound Try.prog 8 (pfun f8_F0) := sound_of (c := f8_c) (f8_E_okE) (by kernel_rfl) (by kernel_rfl) (by kernel_rfl) f8_a (fun _ => rfl)
theorem f8_ok : Sound Try.prog 8 (pfun f8_F) := by rw [f8_Fe]; exact f8_ok0
@[reducible] noncomputable def f9_c : Code := codeOf Try.f9
@[reducible] noncomputable def f9_E : Env := envOf Try.prog 9999 [] []
theorem f9_E_okE : EnvOk Try.prog f9_E := envOf_ok _ _ _ mixed
@[reducible] noncomputable def f9_p0_sh : Shape := ⟨[.whole 0, .dead, .dead, .dead, .dead, .dead, .dead, .dead, .dead, .dead, .dead, .dead, .whole 0, .hole (.int .i64), .hole (.int .i64), .dead, .dead, .dead, .dead, .dead, .dead, .dead, .dead, .dead, .dead, .dead, .dead, .dead, .dead], [], [some .str]⟩
@[reducible] noncomputable def f9_p0_o0 : Shape := ⟨[.whole 0, .dead, .dead, .dead, .dead, .dead, .dead, .dead, .dead, .dead, .dead, .dead, .dead, .dead, .dead, .dead, .dead, .dead, .dead, .dead, .dead, .dead, .dead, .dead, .dead, .dead, .dead, .dead, .dead], [], [some .str]⟩
@[reducible] noncomputable def f9_p0_outs : List (Ex × Shape) := [(.exit 0, f9_p0_o0)]
@[reducible] noncomputable def f9_p0_a : Ann Try.prog 0 true (f9_c.cr.cr.cl.cr.cb.cb) := (.leaf _)
noncomputable def f9_p0_st (rec : f9_p0_sh.den → Option (OutDen f9_p0_outs)) (y : f9_p0_sh.den) : Option (OutDen f9_p0_outs) := evA f9_E f9_p0_a (fill f9_p0_sh y) fun ex st => match ex with | .normal => (abs f9_p0_sh st).bind rec | e => packOut f9_p0_outs e st
theorem f9_p0_ok : PieceSound Try.prog 0 true (.loop (f9_c.cr.cr.cl.cr.cb.cb)) f9_p0_sh f9_p0_outs (go f9_p0_st) := go_of (f9_E_okE) f9_p0_a rfl rfl fun _ _ => rfl
@[reducible] noncomputable def f9_ps : List KD := [.one (.list .str)]
@[reducible] noncomputable def f9_rs : List KD := [.one (.list .str)]
@[reducible] noncomputable def f9_a : Ann Try.prog 0 true f9_c := (.seq (.leaf _) (.seq (.leaf _) (.seq (.seq (.leaf _) (.block (.piece _ _ _ f9_p0_ok))) (.leaf _))))
noncomputable def f9_F (y : argsDen f9_ps) : Option (argsDen f9_rs) := evFunA f9_E Try.f9 f9_a (encArgs f9_ps y) (decRes f9_rs)
theorem f9_ok : Sound Try.prog 9 (pfun f9_F) := sound_of (c := f9_c) (f9_E_okE) (by kernel_rfl) (by kernel_rfl) (by kernel_rfl) f9_a (fun _ => rfl)
@[reducible] noncomputable def f16_c : Code := codeOf Try.f16
@[reducible] noncomputable def f16_E : Env := envOf Try.prog 9999 [] []
theorem f16_E_okE : EnvOk Try.prog f16_E := envOf_ok _ _ _ mixed
@[reducible] noncomputable def f16_p0_sh : Shape := ⟨[.hole (.list .str), .hole (.list .str), .dead, .dead, .dead, .dead, .dead, .dead, .dead, .dead, .dead, .dead, .hole (.int .i64), .hole (.int .i64), .dead, .dead, .dead, .dead, .dead, .dead, .dead, .dead, .dead, .dead, .dead, .dead], [], []⟩
@[reducible] noncomputable def f16_p0_o0 : Shape := ⟨[.dead, .dead, .dead, .dead, .dead, .dead, .dead, .dead, .dead, .dead, .dead, .dead, .dead, .dead, .dead, .dead, .dead, .dead, .dead, .dead, .dead, .dead, .dead, .dead, .dead, .dead], [], []⟩
@[reducible] noncomputable def f16_p0_o1 : Shape := ⟨[.dead, .dead, .dead, .dead, .hole .bool, .dead, .dead, .dead, .dead, .dead, .dead, .dead, .dead, .dead, .dead, .dead, .dead, .dead, .dead, .dead, .dead, .dead, .dead, .dead, .dead, .dead], [], []⟩
@[reducible] noncomputable def f16_p0_outs : List (Ex × Shape) := [(.exit 0, f16_p0_o0), (.ret, f16_p0_o1)]
@[reducible] noncomputable def f16_p0_a : Ann Try.prog 0 true (f16_c.cr.cr.cl.cr.cb.cb) := (.leaf _)
noncomputable def f16_p0_st (rec : f16_p0_sh.den → Option (OutDen f16_p0_outs)) (y : f16_p0_sh.den) : Option (OutDen f16_p0_outs) := evA f16_E f16_p0_a (fill f16_p0_sh y) fun ex st => match ex with | .normal => (abs f16_p0_sh st).bind rec | e => packOut f16_p0_outs e st
theorem f16_p0_ok : PieceSound Try.prog 0 true (.loop (f16_c.cr.cr.cl.cr.cb.cb)) f16_p0_sh f16_p0_outs (go f16_p0_st) := go_of (f16_E_okE) f16_p0_a rfl rfl fun _ _ => rfl
@[reducible] noncomputable def f16_ps : List KD := [.one (.list .str), .one (.list .str)]
@[reducible] noncomputable def f16_rs : List KD := [.one .bool]
@[reducible] noncomputable def f16_a : Ann Try.prog 0 true f16_c := (.seq (.leaf _) (.seq (.leaf _) (.seq (.seq (.leaf _) (.block (.piece _ _ _ f16_p0_ok))) (.leaf _))))
noncomputable def f16_F (y : argsDen f16_ps) : Option (argsDen f16_rs) := evFunA f16_E Try.f16 f16_a (encArgs f16_ps y) (decRes f16_rs)
theorem f16_ok : Sound Try.prog 16 (pfun f16_F) := sound_of (c := f16_c) (f16_E_okE) (by kernel_rfl) (by kernel_rfl) (by kernel_rfl) f16_a (fun _ => rfl)
@[reducible] noncomputable def f5_c : Code := codeOf Try.f5
@[reducible] noncomputable def f5_E : Env := envOf Try.prog 9999 [rowOf false f7_ok, rowOf false f9_ok, rowOf false f10_ok, rowOf true repeat_ok, rowOf true f8_ok, rowOf true f16_ok, rowOf true f17_ok] []
theorem f5_E_okE : EnvOk Try.prog f5_E := envOf_ok _ _ _ mixed
@[reducible] noncomputable def f5_p0_sh : Shape := ⟨[.dead, .hole .str, .dead, .dead, .dead, .ptr 0 0, .hole (.int .i64), .hole (.int .i64), .dead, .ptr 1 0, .hole (.int .i64), .dead, .dead, .dead, .dead, .dead, .dead, .dead, .dead, .dead, .dead, .dead, .dead, .dead, .dead, .dead, .hole (.list (.list .str)), .hole (.int .i64), .hole (.int .i64), .dead, .dead, .dead, .dead, .dead, .dead, .dead, .dead, .dead, .dead, .dead, .dead, .dead, .dead, .dead, .dead, .dead, .dead, .dead, .dead, .dead, .dead, .dead, .dead, .dead, .dead, .dead, .dead, .dead, .dead, .dead, .dead, .dead, .dead, .dead, .dead, .dead, .dead, .dead, .dead, .dead, .dead, .dead, .dead, .dead, .dead, .dead, .dead, .dead, .dead, .dead, .dead, .dead, .dead, .dead, .dead, .dead, .dead, .dead, .dead, .dead, .dead, .dead, .dead, .dead, .dead, .dead, .dead, .dead, .dead, .dead, .dead, .dead, .dead], [some [.hole (.list .str), .hole (.list (.prod (.int .i64) .str)), .hole (.list .str), .hole (.list .str), .hole (.int .i64), .hole (.int .i64), .hole (.int .i64)], some [.hole (.list .str), .hole (.list (.prod (.int .i64) .str)), .hole (.list .str), .hole (.list .str), .hole (.int .i64), .hole (.int .i64), .hole (.int .i64)]], []⟩
@[reducible] noncomputable def f5_p0_o0 : Shape := ⟨[.dead, .hole .str, .dead, .dead, .dead, .ptr 0 0, .hole (.int .i64), .dead, .dead, .ptr 1 0, .dead, .dead, .dead, .dead, .dead, .dead, .dead, .dead, .dead, .dead, .dead, .dead, .dead, .dead, .dead, .dead, .hole (.list (.list .str)), .hole (.int .i64), .hole (.int .i64), .dead, .dead, .dead, .dead, .dead, .dead, .dead, .dead, .dead, .dead, .dead, .dead, .dead, .dead, .dead, .dead, .hole .bool, .dead, .dead, .dead, .dead, .dead, .dead, .dead, .dead, .dead, .dead, .dead, .dead, .dead, .dead, .dead, .dead, .dead, .dead, .dead, .dead, .dead, .dead, .dead, .dead, .dead, .dead, .dead, .dead, .dead, .dead, .dead, .dead, .dead, .dead, .dead, .dead, .dead, .dead, .dead, .dead, .dead, .dead, .dead, .dead, .dead, .dead, .dead, .dead, .dead, .dead, .dead, .dead, .dead, .dead, .dead, .dead, .dead], [some [.hole (.list .str), .hole (.list (.prod (.int .i64) .str)), .hole (.list .str), .hole (.list .str), .hole (.int .i64), .hole (.int .i64), .hole (.int .i64)], some [.hole (.list .str), .hole (.list (.prod (.int .i64) .str)), .hole (.list .str), .hole (.list .str), .hole (.int .i64), .hole (.int .i64), .hole (.int .i64)]], []⟩
@[reducible] noncomputable def f5_p0_outs : List (Ex × Shape) := [(.normal, f5_p0_o0)]
@[reducible] noncomputable def f5_p0_a : Ann Try.prog 0 true (f5_c.cr.cr.cr.cl.cr.cb.cb.cr.cr.cl.cb.cr.cr.cl) := (.leaf _)
noncomputable def f5_p0_F (y : f5_p0_sh.den) : Option (OutDen f5_p0_outs) := evA f5_E f5_p0_a (fill f5_p0_sh y) (packOut f5_p0_outs)
theorem f5_p0_ok : PieceSound Try.prog 0 true (f5_c.cr.cr.cr.cl.cr.cb.cb.cr.cr.cl.cb.cr.cr.cl) f5_p0_sh f5_p0_outs f5_p0_F := piece_of (f5_E_okE) f5_p0_a rfl rfl fun _ => rfl
@[reducible] noncomputable def f5_p1_sh : Shape := ⟨[.dead, .hole .str, .dead, .dead, .dead, .ptr 0 0, .hole (.int .i64), .dead, .dead, .dead, .dead, .dead, .dead, .dead, .dead, .dead, .dead, .dead, .dead, .dead, .dead, .dead, .dead, .dead, .dead, .dead, .hole (.list (.list .str)), .hole (.int .i64), .hole (.int .i64), .dead, .dead, .dead, .dead, .dead, .dead, .dead, .dead, .dead, .dead, .dead, .dead, .dead, .dead, .dead, .dead, .dead, .dead, .dead, .dead, .dead, .dead, .dead, .dead, .dead, .dead, .dead, .dead, .dead, .dead, .dead, .dead, .dead, .dead, .dead, .dead, .dead, .dead, .dead, .dead, .dead, .dead, .dead, .dead, .dead, .dead, .dead, .dead, .dead, .dead, .dead, .dead, .dead, .dead, .dead, .dead, .dead, .dead, .dead, .dead, .dead, .dead, .dead, .dead, .dead, .dead, .dead, .dead, .dead, .dead, .dead, .dead, .dead, .dead], [some [.hole (.list .str), .hole (.list (.prod (.int .i64) .str)), .hole (.list .str), .hole (.list .str), .hole (.int .i64), .hole (.int .i64), .hole (.int .i64)]], []⟩
@[reducible] noncomputable def f5_p1_o0 : Shape := ⟨[.dead, .hole .str, .dead, .dead, .dead, .ptr 0 0, .hole (.int .i64), .dead, .dead, .dead, .dead, .dead, .dead, .dead, .dead, .dead, .dead, .dead, .dead, .dead, .dead, .dead, .dead, .dead, .dead, .dead, .hole (.list (.list .str)), .hole (.int .i64), .hole (.int .i64), .dead, .dead, .dead, .dead, .dead, .dead, .dead, .dead, .dead, .dead, .dead, .dead, .dead, .dead, .dead, .dead, .dead, .dead, .dead, .dead, .dead, .dead, .dead, .dead, .dead, .dead, .dead, .dead, .dead, .dead, .dead, .dead, .dead, .dead, .dead, .dead, .dead, .dead, .dead, .dead, .dead, .dead, .dead, .dead, .dead, .dead, .dead, .dead, .dead, .dead, .dead, .dead, .dead, .dead, .dead, .dead, .dead, .dead, .dead, .dead, .dead, .dead, .dead, .dead, .dead, .dead, .dead, .dead, .dead, .dead, .dead, .dead, .dead, .dead], [some [.hole (.list .str), .hole (.list (.prod (.int .i64) .str)), .hole (.list .str), .hole (.list .str), .hole (.int .i64), .hole (.int .i64), .hole (.int .i64)]], []⟩
@[reducible] noncomputable def f5_p1_outs : List (Ex × Shape) := [(.normal, f5_p1_o0)]
@[reducible] noncomputable def f5_p1_a : Ann Try.prog 0 true (f5_c.cr.cr.cr.cl.cr.cb.cb.cr.cr.cl) := (.block (.seq (.leaf _) (.seq (.leaf _) (.seq (.piece _ _ _ f5_p0_ok) (.leaf _)))))
noncomputable def f5_p1_F (y : f5_p1_sh.den) : Option (OutDen f5_p1_outs) := evA f5_E f5_p1_a (fill f5_p1_sh y) (packOut f5_p1_outs)
theorem f5_p1_ok : PieceSound Try.prog 0 true (f5_c.cr.cr.cr.cl.cr.cb.cb.cr.cr.cl) f5_p1_sh f5_p1_outs f5_p1_F := piece_of (f5_E_okE) f5_p1_a rfl rfl fun _ => rfl
@[reducible] noncomputable def f5_p2_sh : Shape := ⟨[.dead, .dead, .dead, .dead, .dead, .ptr 0 0, .hole (.int .i64), .dead, .dead, .dead, .dead, .whole 0, .ptr 1 0, .hole (.int .i64), .ptr 2 0, .hole (.int .i64), .dead, .dead, .dead, .dead, .dead, .dead, .dead, .dead, .dead, .dead, .dead, .dead, .dead, .dead, .dead, .dead, .dead, .dead, .dead, .dead, .dead, .dead, .dead, .dead, .dead, .dead, .dead, .dead, .dead, .dead, .dead, .dead, .dead, .dead, .dead, .dead, .dead, .dead, .dead, .dead, .dead, .dead, .dead, .dead, .dead, .dead, .dead, .dead, .dead, .dead, .dead, .dead, .dead, .dead, .dead, .dead, .dead, .dead, .dead, .dead, .dead, .dead, .dead, .dead, .dead, .dead, .dead, .dead, .dead, .dead, .dead, .dead, .dead, .dead, .dead, .dead, .dead, .dead, .dead, .dead, .dead, .dead, .dead, .dead, .dead, .dead, .dead], [some [.hole (.list .str), .hole (.list (.prod (.int .i64) .str)), .hole (.list .str), .hole (.list .str), .hole (.int .i64), .hole (.int .i64), .hole (.int .i64)], some [.hole (.list .str), .hole (.list (.prod (.int .i64) .str)), .hole (.list .str), .hole (.list .str), .hole (.int .i64), .hole (.int .i64), .hole (.int .i64)], some [.hole (.list .str), .hole (.list (.prod (.int .i64) .str)), .hole (.list .str), .hole (.list .str), .hole (.int .i64), .hole (.int .i64), .hole (.int .i64)]], [some .str]⟩
@[reducible] noncomputable def f5_p2_o0 : Shape := ⟨[.dead, .dead, .dead, .dead, .hole .bool, .dead, .dead, .dead, .dead, .dead, .dead, .dead, .dead, .dead, .dead, .dead, .dead, .dead, .dead, .dead, .dead, .dead, .dead, .dead, .dead, .dead, .dead, .dead, .dead, .dead, .dead, .dead, .dead, .dead, .dead, .dead, .dead, .dead, .dead, .dead, .dead, .dead, .dead, .dead, .dead, .dead, .dead, .dead, .dead, .dead, .dead, .dead, .dead, .dead, .dead, .dead, .dead, .dead, .dead, .dead, .dead, .dead, .dead, .dead, .dead, .dead, .dead, .dead, .dead, .dead, .dead, .dead, .dead, .dead, .dead, .dead, .dead, .dead, .dead, .dead, .dead, .dead, .dead, .dead, .dead, .dead, .dead, .dead, .dead, .dead, .dead, .dead, .dead, .dead, .dead, .dead, .dead, .dead, .dead, .dead, .dead, .dead, .dead], [], []⟩
@[reducible] noncomputable def f5_p2_outs : List (Ex × Shape) := [(.ret, f5_p2_o0)]
@[reducible] noncomputable def f5_p2_a : Ann Try.prog 0 true (f5_c.cr.cr.cr.cr.cr.cr.cr) := (.leaf _)
noncomputable def f5_p2_F (y : f5_p2_sh.den) : Option (OutDen f5_p2_outs) := evA f5_E f5_p2_a (fill f5_p2_sh y) (packOut f5_p2_outs)
theorem f5_p2_ok : PieceSound Try.prog 0 true (f5_c.cr.cr.cr.cr.cr.cr.cr) f5_p2_sh f5_p2_outs f5_p2_F := piece_of (f5_E_okE) f5_p2_a rfl rfl fun _ => rfl
@[reducible] noncomputable def f5_p3_sh : Shape := ⟨[.dead, .hole .str, .dead, .dead, .dead, .ptr 0 0, .hole (.int .i64), .dead, .dead, .dead, .dead, .dead, .dead, .dead, .dead, .dead, .dead, .dead, .dead, .dead, .dead, .dead, .dead, .dead, .dead, .dead, .hole (.list (.list .str)), .hole (.int .i64), .hole (.int .i64), .dead, .dead, .dead, .dead, .dead, .dead, .dead, .dead, .dead, .dead, .dead, .dead, .dead, .dead, .dead, .dead, .dead, .dead, .dead, .dead, .dead, .dead, .dead, .dead, .dead, .dead, .dead, .dead, .dead, .dead, .dead, .dead, .dead, .dead, .dead, .dead, .dead, .dead, .dead, .dead, .dead, .dead, .dead, .dead, .dead, .dead, .dead, .dead, .dead, .dead, .dead, .dead, .dead, .dead, .dead, .dead, .dead, .dead, .dead, .dead, .dead, .dead, .dead, .dead, .dead, .dead, .dead, .dead, .dead, .dead, .dead, .dead, .dead, .dead], [some [.hole (.list .str), .hole (.list (.prod (.int .i64) .str)), .hole (.list .str), .hole (.list .str), .hole (.int .i64), .hole (.int .i64), .hole (.int .i64)]], []⟩
@[reducible] noncomputable def f5_p3_o0 : Shape := ⟨[.dead, .hole .str, .dead, .dead, .dead, .ptr 0 0, .hole (.int .i64), .dead, .dead, .dead, .dead, .dead, .dead, .dead, .dead, .dead, .dead, .dead, .dead, .dead, .dead, .dead, .dead, .dead, .dead, .dead, .dead, .dead, .dead, .dead, .dead, .dead, .dead, .dead, .dead, .dead, .dead, .dead, .dead, .dead, .dead, .dead, .dead, .dead, .dead, .dead, .dead, .dead, .dead, .dead, .dead, .dead, .dead, .dead, .dead, .dead, .dead, .dead, .dead, .dead, .dead, .dead, .dead, .dead, .dead, .dead, .dead, .dead, .dead, .dead, .dead, .dead, .dead, .dead, .dead, .dead, .dead, .dead, .dead, .dead, .dead, .dead, .dead, .dead, .dead, .dead, .dead, .dead, .dead, .dead, .dead, .dead, .dead, .dead, .dead, .dead, .dead, .dead, .dead, .dead, .dead, .dead, .dead], [some [.hole (.list .str), .hole (.list (.prod (.int .i64) .str)), .hole (.list .str), .hole (.list .str), .hole (.int .i64), .hole (.int .i64), .hole (.int .i64)]], []⟩
@[reducible] noncomputable def f5_p3_outs : List (Ex × Shape) := [(.exit 0, f5_p3_o0)]
@[reducible] noncomputable def f5_p3_a : Ann Try.prog 0 true (f5_c.cr.cr.cr.cl.cr.cb.cb) := (.seq (.leaf _) (.seq (.leaf _) (.seq (.piece _ _ _ f5_p1_ok) (.leaf _))))
noncomputable def f5_p3_st (rec : f5_p3_sh.den → Option (OutDen f5_p3_outs)) (y : f5_p3_sh.den) : Option (OutDen f5_p3_outs) := evA f5_E f5_p3_a (fill f5_p3_sh y) fun ex st => match ex with | .normal => (abs f5_p3_sh st).bind rec | e => packOut f5_p3_outs e st
theorem f5_p3_ok : PieceSound Try.prog 0 true (.loop (f5_c.cr.cr.cr.cl.cr.cb.cb)) f5_p3_sh f5_p3_outs (go f5_p3_st) := go_of (f5_E_okE) f5_p3_a rfl rfl fun _ _ => rfl
@[reducible] noncomputable def f5_ps : List KD := [.one (.list (.list .str)), .one .str]
@[reducible] noncomputable def f5_rs : List KD := [.one .bool]
@[reducible] noncomputable def f5_a : Ann Try.prog 0 true f5_c := (.seq (.leaf _) (.seq (.leaf _) (.seq (.leaf _) (.seq (.seq (.leaf _) (.block (.piece _ _ _ f5_p3_ok))) (.seq (.leaf _) (.seq (.leaf _) (.seq (.leaf _) (.piece _ _ _ f5_p2_ok))))))))
noncomputable def f5_F (y : argsDen f5_ps) : Option (argsDen f5_rs) := evFunA f5_E Try.f5 f5_a (encArgs f5_ps y) (decRes f5_rs)
theorem f5_ok : Sound Try.prog 5 (pfun f5_F) := sound_of (c := f5_c) (f5_E_okE) (by kernel_rfl) (by kernel_rfl) (by kernel_rfl) f5_a (fun _ => rfl)
end
end Go.Pe.Try
end
