/- Printed by gen.py: what each function comes to, as a Lean function; Lean checks it. -/
import Derived.Test.YtgkolhopfiogpaaPeTi
import Derived.Test.YtgkolhopfiogpaaProg
namespace Go.Pe.Try
open Go.Proofs Go.RowKit
set_option maxRecDepth 100000
noncomputable section
theorem mixed : Try.prog.follows .mixedOrders = true := by kernel_rfl
@[reducible] noncomputable def f39_E : Env := envOf Try.prog 9999 []
theorem f39_E_okE : EnvOk Try.prog f39_E := envOf_ok _ _ mixed
/-! ### imprimatur/octet.Big -/
@[reducible] noncomputable def f39_c : Code := codeOf Try.f39
@[reducible] noncomputable def f39_p0_sh : Shape := ⟨[.hole (.int .u64), .hole (.int .i64), .dead, .dead, .dead, .dead, .whole 0, .dead, .dead, .dead, .dead, .dead, .dead, .dead, .dead, .dead, .dead, .dead, .dead, .dead, .dead, .dead, .dead, .dead, .dead, .dead, .dead, .dead, .hole (.int .i64), .hole (.int .i64), .dead, .dead, .dead, .dead, .dead, .dead, .dead, .dead, .dead, .dead, .dead, .dead, .dead, .dead, .dead, .dead], [], [some (.int .u8)]⟩
@[reducible] noncomputable def f39_p0_o0 : Shape := ⟨[.dead, .dead, .dead, .dead, .dead, .dead, .whole 0, .dead, .dead, .dead, .dead, .dead, .dead, .dead, .dead, .dead, .dead, .dead, .dead, .dead, .dead, .dead, .dead, .dead, .dead, .dead, .dead, .dead, .dead, .dead, .dead, .dead, .dead, .dead, .dead, .dead, .dead, .dead, .dead, .dead, .dead, .dead, .dead, .dead, .dead, .dead], [], [some (.int .u8)]⟩
@[reducible] noncomputable def f39_p0_outs : List (Ex × Shape) := [(.exit 0, f39_p0_o0)]
@[reducible] noncomputable def f39_p0_a : Ann Try.prog (f39_c.cr.cr.cr.cl.cr.cb.cb) := (.leaf _)
noncomputable def f39_p0_st (rec : f39_p0_sh.den → Option (OutDen f39_p0_outs)) (y : f39_p0_sh.den) : Option (OutDen f39_p0_outs) := evA f39_E f39_p0_a (fill f39_p0_sh y) fun ex st => match ex with | .normal => (abs f39_p0_sh st).bind rec | e => packOut f39_p0_outs e st
theorem f39_p0_ok : PieceSound Try.prog (.loop (f39_c.cr.cr.cr.cl.cr.cb.cb)) f39_p0_sh f39_p0_outs (go f39_p0_st) := go_of f39_E_okE f39_p0_a fun _ _ => rfl
@[reducible] noncomputable def f39_p1_sh : Shape := ⟨[.hole (.int .u64), .hole (.int .i64), .dead, .dead, .dead, .dead, .dead, .dead, .dead, .dead, .dead, .dead, .dead, .dead, .dead, .dead, .dead, .dead, .dead, .dead, .dead, .dead, .dead, .dead, .dead, .dead, .dead, .dead, .dead, .dead, .dead, .dead, .dead, .dead, .dead, .dead, .dead, .dead, .dead, .dead, .dead, .dead, .dead, .dead, .dead, .dead], [], []⟩
@[reducible] noncomputable def f39_p1_o0 : Shape := ⟨[.hole (.int .u64), .hole (.int .i64), .dead, .dead, .dead, .dead, .dead, .dead, .dead, .dead, .dead, .dead, .dead, .dead, .dead, .dead, .dead, .dead, .dead, .dead, .dead, .dead, .dead, .dead, .hole .bool, .dead, .dead, .dead, .dead, .dead, .dead, .dead, .dead, .dead, .dead, .dead, .dead, .dead, .dead, .dead, .dead, .dead, .dead, .dead, .dead, .dead], [], []⟩
@[reducible] noncomputable def f39_p1_outs : List (Ex × Shape) := [(.normal, f39_p1_o0)]
@[reducible] noncomputable def f39_p1_a : Ann Try.prog (f39_c.cr.cl.cl) := (.leaf _)
noncomputable def f39_p1_F (y : f39_p1_sh.den) : Option (OutDen f39_p1_outs) := evA f39_E f39_p1_a (fill f39_p1_sh y) (packOut f39_p1_outs)
theorem f39_p1_ok : PieceSound Try.prog (f39_c.cr.cl.cl) f39_p1_sh f39_p1_outs f39_p1_F := piece_of f39_E_okE f39_p1_a fun _ => rfl
@[reducible] noncomputable def f39_a : Ann Try.prog f39_c := (.seq (.leaf _) (.seq (.seq (.piece _ _ _ f39_p1_ok) (.leaf _)) (.seq (.leaf _) (.seq (.seq (.leaf _) (.block (.piece _ _ _ f39_p0_ok))) (.leaf _)))))
@[reducible] noncomputable def f39_ps : List KD := [.one (.int .u64), .one (.int .i64)]
@[reducible] noncomputable def f39_rs : List KD := [.one .str, .one (.int .i64)]
noncomputable def f39_F (y : argsDen f39_ps) : Option (argsDen f39_rs) := evFunA f39_E Try.f39 f39_a (encArgs f39_ps y) (decRes f39_rs)
theorem f39_ok : Sound Try.prog 39 (pfun f39_F) := sound_of (c := f39_c) f39_E_okE (by kernel_rfl) (by kernel_rfl) (by kernel_rfl) f39_a (fun _ => rfl)
@[reducible] noncomputable def f11_E : Env := envOf Try.prog 9999 [rowOf true f39_ok]
theorem f11_E_okE : EnvOk Try.prog f11_E := envOf_ok _ _ mixed
/-! ### imprimatur/wal.Frame -/
@[reducible] noncomputable def f11_c : Code := codeOf Try.f11
@[reducible] noncomputable def f11_a : Ann Try.prog f11_c := (.leaf _)
@[reducible] noncomputable def f11_ps : List KD := [.one .str]
@[reducible] noncomputable def f11_rs : List KD := [.one .str, .one (.int .i64)]
noncomputable def f11_F (y : argsDen f11_ps) : Option (argsDen f11_rs) := evFunA f11_E Try.f11 f11_a (encArgs f11_ps y) (decRes f11_rs)
theorem f11_ok : Sound Try.prog 11 (pfun f11_F) := sound_of (c := f11_c) f11_E_okE (by kernel_rfl) (by kernel_rfl) (by kernel_rfl) f11_a (fun _ => rfl)
@[reducible] noncomputable def f40_E : Env := envOf Try.prog 9999 []
theorem f40_E_okE : EnvOk Try.prog f40_E := envOf_ok _ _ mixed
/-! ### imprimatur/octet.Number -/
@[reducible] noncomputable def f40_c : Code := codeOf Try.f40
@[reducible] noncomputable def f40_p0_sh : Shape := ⟨[.hole .str, .dead, .dead, .dead, .hole (.int .u64), .dead, .dead, .dead, .dead, .dead, .hole (.int .i64), .hole (.int .i64), .dead, .dead, .dead, .dead, .dead, .dead, .dead, .dead, .dead, .dead, .dead], [], []⟩
@[reducible] noncomputable def f40_p0_o0 : Shape := ⟨[.dead, .dead, .dead, .dead, .hole (.int .u64), .dead, .dead, .dead, .dead, .dead, .dead, .dead, .dead, .dead, .dead, .dead, .dead, .dead, .dead, .dead, .dead, .dead, .dead], [], []⟩
@[reducible] noncomputable def f40_p0_outs : List (Ex × Shape) := [(.exit 0, f40_p0_o0)]
@[reducible] noncomputable def f40_p0_a : Ann Try.prog (f40_c.cr.cr.cr.cl.cr.cb.cb) := (.leaf _)
noncomputable def f40_p0_st (rec : f40_p0_sh.den → Option (OutDen f40_p0_outs)) (y : f40_p0_sh.den) : Option (OutDen f40_p0_outs) := evA f40_E f40_p0_a (fill f40_p0_sh y) fun ex st => match ex with | .normal => (abs f40_p0_sh st).bind rec | e => packOut f40_p0_outs e st
theorem f40_p0_ok : PieceSound Try.prog (.loop (f40_c.cr.cr.cr.cl.cr.cb.cb)) f40_p0_sh f40_p0_outs (go f40_p0_st) := go_of f40_E_okE f40_p0_a fun _ _ => rfl
@[reducible] noncomputable def f40_a : Ann Try.prog f40_c := (.seq (.leaf _) (.seq (.leaf _) (.seq (.leaf _) (.seq (.seq (.leaf _) (.block (.piece _ _ _ f40_p0_ok))) (.leaf _)))))
@[reducible] noncomputable def f40_ps : List KD := [.one .str]
@[reducible] noncomputable def f40_rs : List KD := [.one (.int .u64), .one (.int .i64)]
noncomputable def f40_F (y : argsDen f40_ps) : Option (argsDen f40_rs) := evFunA f40_E Try.f40 f40_a (encArgs f40_ps y) (decRes f40_rs)
theorem f40_ok : Sound Try.prog 40 (pfun f40_F) := sound_of (c := f40_c) f40_E_okE (by kernel_rfl) (by kernel_rfl) (by kernel_rfl) f40_a (fun _ => rfl)
@[reducible] noncomputable def f12_E : Env := envOf Try.prog 9999 [rowOf true f40_ok]
theorem f12_E_okE : EnvOk Try.prog f12_E := envOf_ok _ _ mixed
/-! ### imprimatur/wal.Read -/
@[reducible] noncomputable def f12_c : Code := codeOf Try.f12
@[reducible] noncomputable def f12_p0_sh : Shape := ⟨[.hole .str, .dead, .dead, .dead, .whole 0, .hole (.int .u64), .dead, .dead, .dead, .dead, .dead, .dead, .dead, .dead, .dead, .dead, .dead, .dead, .dead, .dead, .dead, .dead, .dead, .dead, .dead, .dead, .dead, .dead, .dead, .dead, .dead, .dead, .dead, .dead, .dead, .dead, .dead, .dead, .dead], [], [some .str]⟩
@[reducible] noncomputable def f12_p0_o0 : Shape := ⟨[.hole .str, .dead, .dead, .dead, .whole 0, .hole (.int .u64), .dead, .dead, .dead, .dead, .dead, .dead, .dead, .dead, .dead, .dead, .dead, .dead, .dead, .dead, .dead, .dead, .dead, .dead, .dead, .dead, .dead, .dead, .hole .bool, .dead, .dead, .dead, .dead, .dead, .dead, .dead, .dead, .dead, .dead], [], [some .str]⟩
@[reducible] noncomputable def f12_p0_outs : List (Ex × Shape) := [(.normal, f12_p0_o0)]
@[reducible] noncomputable def f12_p0_a : Ann Try.prog (f12_c.cr.cr.cl.cb.cb.cr.cb.cr.cr.cl.cr.cl) := (.leaf _)
noncomputable def f12_p0_F (y : f12_p0_sh.den) : Option (OutDen f12_p0_outs) := evA f12_E f12_p0_a (fill f12_p0_sh y) (packOut f12_p0_outs)
theorem f12_p0_ok : PieceSound Try.prog (f12_c.cr.cr.cl.cb.cb.cr.cb.cr.cr.cl.cr.cl) f12_p0_sh f12_p0_outs f12_p0_F := piece_of f12_E_okE f12_p0_a fun _ => rfl
@[reducible] noncomputable def f12_p1_sh : Shape := ⟨[.hole .str, .dead, .dead, .dead, .whole 0, .dead, .dead, .dead, .dead, .dead, .dead, .dead, .dead, .dead, .dead, .dead, .dead, .dead, .dead, .dead, .dead, .dead, .dead, .dead, .dead, .dead, .dead, .dead, .dead, .dead, .dead, .dead, .dead, .dead, .dead, .dead, .dead, .dead, .dead], [], [some .str]⟩
@[reducible] noncomputable def f12_p1_o0 : Shape := ⟨[.dead, .dead, .dead, .dead, .whole 0, .dead, .dead, .dead, .dead, .dead, .dead, .dead, .dead, .dead, .dead, .dead, .dead, .dead, .dead, .dead, .dead, .dead, .dead, .dead, .dead, .dead, .dead, .dead, .dead, .dead, .dead, .dead, .dead, .dead, .dead, .dead, .dead, .dead, .dead], [], [some .str]⟩
@[reducible] noncomputable def f12_p1_o1 : Shape := ⟨[.dead, .dead, .nilS, .hole (.int .i64), .dead, .dead, .dead, .dead, .dead, .dead, .dead, .dead, .dead, .dead, .dead, .dead, .dead, .dead, .dead, .dead, .dead, .dead, .dead, .dead, .dead, .dead, .dead, .dead, .dead, .dead, .dead, .dead, .dead, .dead, .dead, .dead, .dead, .dead, .dead], [], []⟩
@[reducible] noncomputable def f12_p1_outs : List (Ex × Shape) := [(.exit 0, f12_p1_o0), (.ret, f12_p1_o1)]
@[reducible] noncomputable def f12_p1_a : Ann Try.prog (f12_c.cr.cr.cl.cb.cb) := (.seq (.leaf _) (.block (.seq (.leaf _) (.seq (.leaf _) (.seq (.seq (.leaf _) (.seq (.piece _ _ _ f12_p0_ok) (.leaf _))) (.leaf _))))))
noncomputable def f12_p1_st (rec : f12_p1_sh.den → Option (OutDen f12_p1_outs)) (y : f12_p1_sh.den) : Option (OutDen f12_p1_outs) := evA f12_E f12_p1_a (fill f12_p1_sh y) fun ex st => match ex with | .normal => (abs f12_p1_sh st).bind rec | e => packOut f12_p1_outs e st
theorem f12_p1_ok : PieceSound Try.prog (.loop (f12_c.cr.cr.cl.cb.cb)) f12_p1_sh f12_p1_outs (go f12_p1_st) := go_of f12_E_okE f12_p1_a fun _ _ => rfl
@[reducible] noncomputable def f12_a : Ann Try.prog f12_c := (.seq (.leaf _) (.seq (.leaf _) (.seq (.block (.piece _ _ _ f12_p1_ok)) (.leaf _))))
@[reducible] noncomputable def f12_ps : List KD := [.one .str]
@[reducible] noncomputable def f12_rs : List KD := [.one (.list .str), .one (.int .i64)]
noncomputable def f12_F (y : argsDen f12_ps) : Option (argsDen f12_rs) := evFunA f12_E Try.f12 f12_a (encArgs f12_ps y) (decRes f12_rs)
theorem f12_ok : Sound Try.prog 12 (pfun f12_F) := sound_of (c := f12_c) f12_E_okE (by kernel_rfl) (by kernel_rfl) (by kernel_rfl) f12_a (fun _ => rfl)
@[reducible] noncomputable def f41_E : Env := envOf Try.prog 9999 []
theorem f41_E_okE : EnvOk Try.prog f41_E := envOf_ok _ _ mixed
/-! ### imprimatur/imprimaturref01.Number -/
@[reducible] noncomputable def f41_c : Code := codeOf Try.f41
@[reducible] noncomputable def f41_p0_sh : Shape := ⟨[.hole .str, .dead, .dead, .hole (.int .u64), .hole (.int .i64), .dead, .dead, .dead, .dead, .dead, .dead, .dead, .dead, .dead, .dead, .dead, .dead, .dead, .dead], [], []⟩
@[reducible] noncomputable def f41_p0_o0 : Shape := ⟨[.dead, .dead, .dead, .hole (.int .u64), .dead, .dead, .dead, .dead, .dead, .dead, .dead, .dead, .dead, .dead, .dead, .dead, .dead, .dead, .dead], [], []⟩
@[reducible] noncomputable def f41_p0_outs : List (Ex × Shape) := [(.exit 0, f41_p0_o0)]
@[reducible] noncomputable def f41_p0_a : Ann Try.prog (f41_c.cr.cr.cl.cr.cb.cb) := (.leaf _)
noncomputable def f41_p0_st (rec : f41_p0_sh.den → Option (OutDen f41_p0_outs)) (y : f41_p0_sh.den) : Option (OutDen f41_p0_outs) := evA f41_E f41_p0_a (fill f41_p0_sh y) fun ex st => match ex with | .normal => (abs f41_p0_sh st).bind rec | e => packOut f41_p0_outs e st
theorem f41_p0_ok : PieceSound Try.prog (.loop (f41_c.cr.cr.cl.cr.cb.cb)) f41_p0_sh f41_p0_outs (go f41_p0_st) := go_of f41_E_okE f41_p0_a fun _ _ => rfl
@[reducible] noncomputable def f41_a : Ann Try.prog f41_c := (.seq (.leaf _) (.seq (.leaf _) (.seq (.seq (.leaf _) (.block (.piece _ _ _ f41_p0_ok))) (.leaf _))))
@[reducible] noncomputable def f41_ps : List KD := [.one .str]
@[reducible] noncomputable def f41_rs : List KD := [.one (.int .u64)]
noncomputable def f41_F (y : argsDen f41_ps) : Option (argsDen f41_rs) := evFunA f41_E Try.f41 f41_a (encArgs f41_ps y) (decRes f41_rs)
theorem f41_ok : Sound Try.prog 41 (pfun f41_F) := sound_of (c := f41_c) f41_E_okE (by kernel_rfl) (by kernel_rfl) (by kernel_rfl) f41_a (fun _ => rfl)
@[reducible] noncomputable def f13_E : Env := envOf Try.prog 9999 [rowOf true f41_ok]
theorem f13_E_okE : EnvOk Try.prog f13_E := envOf_ok _ _ mixed
/-! ### imprimatur/imprimaturref18.Read -/
@[reducible] noncomputable def f13_c : Code := codeOf Try.f13
@[reducible] noncomputable def f13_p0_sh : Shape := ⟨[.hole .str, .dead, .dead, .dead, .whole 0, .hole (.int .i64), .hole (.int .i64), .dead, .dead, .dead, .dead, .dead, .dead, .dead, .dead, .dead, .dead, .dead, .dead, .dead, .dead, .dead, .dead, .dead, .dead, .dead, .dead, .dead, .dead, .dead, .dead, .dead, .dead, .dead, .dead, .dead, .dead, .dead, .dead, .dead, .dead, .dead, .dead, .dead, .dead, .dead, .dead, .dead, .dead, .dead, .dead], [], [some .str]⟩
@[reducible] noncomputable def f13_p0_o0 : Shape := ⟨[.hole .str, .dead, .dead, .dead, .whole 0, .hole (.int .i64), .hole (.int .i64), .dead, .dead, .dead, .dead, .dead, .dead, .dead, .dead, .dead, .dead, .dead, .dead, .dead, .dead, .dead, .dead, .dead, .dead, .dead, .dead, .dead, .dead, .dead, .dead, .dead, .dead, .dead, .hole .bool, .dead, .dead, .dead, .dead, .dead, .dead, .dead, .dead, .dead, .dead, .dead, .dead, .dead, .dead, .dead, .dead], [], [some .str]⟩
@[reducible] noncomputable def f13_p0_outs : List (Ex × Shape) := [(.normal, f13_p0_o0)]
@[reducible] noncomputable def f13_p0_a : Ann Try.prog (f13_c.cr.cr.cr.cl.cb.cb.cr.cb.cr.cr.cl.cl) := (.leaf _)
noncomputable def f13_p0_F (y : f13_p0_sh.den) : Option (OutDen f13_p0_outs) := evA f13_E f13_p0_a (fill f13_p0_sh y) (packOut f13_p0_outs)
theorem f13_p0_ok : PieceSound Try.prog (f13_c.cr.cr.cr.cl.cb.cb.cr.cb.cr.cr.cl.cl) f13_p0_sh f13_p0_outs f13_p0_F := piece_of f13_E_okE f13_p0_a fun _ => rfl
@[reducible] noncomputable def f13_p1_sh : Shape := ⟨[.hole .str, .dead, .dead, .dead, .whole 0, .hole (.int .i64), .dead, .dead, .dead, .dead, .dead, .dead, .dead, .dead, .dead, .dead, .dead, .dead, .dead, .dead, .dead, .dead, .dead, .dead, .dead, .dead, .dead, .dead, .dead, .dead, .dead, .dead, .dead, .dead, .dead, .dead, .dead, .dead, .dead, .dead, .dead, .dead, .dead, .dead, .dead, .dead, .dead, .dead, .dead, .dead, .dead], [], [some .str]⟩
@[reducible] noncomputable def f13_p1_o0 : Shape := ⟨[.dead, .dead, .dead, .dead, .whole 0, .dead, .dead, .dead, .dead, .dead, .dead, .dead, .dead, .dead, .dead, .dead, .dead, .dead, .dead, .dead, .dead, .dead, .dead, .dead, .dead, .dead, .dead, .dead, .dead, .dead, .dead, .dead, .dead, .dead, .dead, .dead, .dead, .dead, .dead, .dead, .dead, .dead, .dead, .dead, .dead, .dead, .dead, .dead, .dead, .dead, .dead], [], [some .str]⟩
@[reducible] noncomputable def f13_p1_o1 : Shape := ⟨[.dead, .dead, .nilS, .hole .bool, .dead, .dead, .dead, .dead, .dead, .dead, .dead, .dead, .dead, .dead, .dead, .dead, .dead, .dead, .dead, .dead, .dead, .dead, .dead, .dead, .dead, .dead, .dead, .dead, .dead, .dead, .dead, .dead, .dead, .dead, .dead, .dead, .dead, .dead, .dead, .dead, .dead, .dead, .dead, .dead, .dead, .dead, .dead, .dead, .dead, .dead, .dead], [], []⟩
@[reducible] noncomputable def f13_p1_outs : List (Ex × Shape) := [(.exit 0, f13_p1_o0), (.ret, f13_p1_o1)]
@[reducible] noncomputable def f13_p1_a : Ann Try.prog (f13_c.cr.cr.cr.cl.cb.cb) := (.seq (.leaf _) (.block (.seq (.leaf _) (.seq (.leaf _) (.seq (.seq (.piece _ _ _ f13_p0_ok) (.leaf _)) (.leaf _))))))
noncomputable def f13_p1_st (rec : f13_p1_sh.den → Option (OutDen f13_p1_outs)) (y : f13_p1_sh.den) : Option (OutDen f13_p1_outs) := evA f13_E f13_p1_a (fill f13_p1_sh y) fun ex st => match ex with | .normal => (abs f13_p1_sh st).bind rec | e => packOut f13_p1_outs e st
theorem f13_p1_ok : PieceSound Try.prog (.loop (f13_c.cr.cr.cr.cl.cb.cb)) f13_p1_sh f13_p1_outs (go f13_p1_st) := go_of f13_E_okE f13_p1_a fun _ _ => rfl
@[reducible] noncomputable def f13_a : Ann Try.prog f13_c := (.seq (.leaf _) (.seq (.leaf _) (.seq (.leaf _) (.seq (.block (.piece _ _ _ f13_p1_ok)) (.leaf _)))))
@[reducible] noncomputable def f13_ps : List KD := [.one .str]
@[reducible] noncomputable def f13_rs : List KD := [.one (.list .str), .one .bool]
noncomputable def f13_F (y : argsDen f13_ps) : Option (argsDen f13_rs) := evFunA f13_E Try.f13 f13_a (encArgs f13_ps y) (decRes f13_rs)
theorem f13_ok : Sound Try.prog 13 (pfun f13_F) := sound_of (c := f13_c) f13_E_okE (by kernel_rfl) (by kernel_rfl) (by kernel_rfl) f13_a (fun _ => rfl)
@[reducible] noncomputable def f14_E : Env := envOf Try.prog 9999 []
theorem f14_E_okE : EnvOk Try.prog f14_E := envOf_ok _ _ mixed
/-! ### imprimatur/imprimaturref08.Same -/
@[reducible] noncomputable def f14_c : Code := codeOf Try.f14
@[reducible] noncomputable def f14_p0_sh : Shape := ⟨[.hole (.list .str), .hole (.list .str), .dead, .dead, .dead, .dead, .dead, .dead, .dead, .dead, .dead, .dead, .hole (.int .i64), .hole (.int .i64), .dead, .dead, .dead, .dead, .dead, .dead, .dead, .dead, .dead, .dead, .dead, .dead], [], []⟩
@[reducible] noncomputable def f14_p0_o0 : Shape := ⟨[.dead, .dead, .dead, .dead, .dead, .dead, .dead, .dead, .dead, .dead, .dead, .dead, .dead, .dead, .dead, .dead, .dead, .dead, .dead, .dead, .dead, .dead, .dead, .dead, .dead, .dead], [], []⟩
@[reducible] noncomputable def f14_p0_o1 : Shape := ⟨[.dead, .dead, .dead, .dead, .hole .bool, .dead, .dead, .dead, .dead, .dead, .dead, .dead, .dead, .dead, .dead, .dead, .dead, .dead, .dead, .dead, .dead, .dead, .dead, .dead, .dead, .dead], [], []⟩
@[reducible] noncomputable def f14_p0_outs : List (Ex × Shape) := [(.exit 0, f14_p0_o0), (.ret, f14_p0_o1)]
@[reducible] noncomputable def f14_p0_a : Ann Try.prog (f14_c.cr.cr.cl.cr.cb.cb) := (.leaf _)
noncomputable def f14_p0_st (rec : f14_p0_sh.den → Option (OutDen f14_p0_outs)) (y : f14_p0_sh.den) : Option (OutDen f14_p0_outs) := evA f14_E f14_p0_a (fill f14_p0_sh y) fun ex st => match ex with | .normal => (abs f14_p0_sh st).bind rec | e => packOut f14_p0_outs e st
theorem f14_p0_ok : PieceSound Try.prog (.loop (f14_c.cr.cr.cl.cr.cb.cb)) f14_p0_sh f14_p0_outs (go f14_p0_st) := go_of f14_E_okE f14_p0_a fun _ _ => rfl
@[reducible] noncomputable def f14_a : Ann Try.prog f14_c := (.seq (.leaf _) (.seq (.leaf _) (.seq (.seq (.leaf _) (.block (.piece _ _ _ f14_p0_ok))) (.leaf _))))
@[reducible] noncomputable def f14_ps : List KD := [.one (.list .str), .one (.list .str)]
@[reducible] noncomputable def f14_rs : List KD := [.one .bool]
noncomputable def f14_F (y : argsDen f14_ps) : Option (argsDen f14_rs) := evFunA f14_E Try.f14 f14_a (encArgs f14_ps y) (decRes f14_rs)
theorem f14_ok : Sound Try.prog 14 (pfun f14_F) := sound_of (c := f14_c) f14_E_okE (by kernel_rfl) (by kernel_rfl) (by kernel_rfl) f14_a (fun _ => rfl)
@[reducible] noncomputable def f15_E : Env := envOf Try.prog 9999 [rowOf true f11_ok, rowOf false f12_ok]
theorem f15_E_okE : EnvOk Try.prog f15_E := envOf_ok _ _ mixed
/-! ### imprimatur/imprimaturlaw18.alive -/
@[reducible] noncomputable def f15_c : Code := codeOf Try.f15
@[reducible] noncomputable def f15_a : Ann Try.prog f15_c := (.leaf _)
@[reducible] noncomputable def f15_ps : List KD := []
@[reducible] noncomputable def f15_rs : List KD := [.one .bool]
noncomputable def f15_F (y : argsDen f15_ps) : Option (argsDen f15_rs) := evFunA f15_E Try.f15 f15_a (encArgs f15_ps y) (decRes f15_rs)
theorem f15_ok : Sound Try.prog 15 (pfun f15_F) := sound_of (c := f15_c) f15_E_okE (by kernel_rfl) (by kernel_rfl) (by kernel_rfl) f15_a (fun _ => rfl)
@[reducible] noncomputable def f42_E : Env := envOf Try.prog 9999 []
theorem f42_E_okE : EnvOk Try.prog f42_E := envOf_ok _ _ mixed
/-! ### imprimatur/imprimaturref01.Big -/
@[reducible] noncomputable def f42_c : Code := codeOf Try.f42
@[reducible] noncomputable def f42_p0_sh : Shape := ⟨[.hole (.int .u64), .hole (.int .i64), .dead, .dead, .dead, .hole .str, .hole (.int .i64), .dead, .dead, .dead, .dead, .dead, .dead, .dead, .dead, .dead, .dead, .dead, .dead, .dead, .dead, .dead], [], []⟩
@[reducible] noncomputable def f42_p0_o0 : Shape := ⟨[.dead, .dead, .dead, .dead, .dead, .hole .str, .dead, .dead, .dead, .dead, .dead, .dead, .dead, .dead, .dead, .dead, .dead, .dead, .dead, .dead, .dead, .dead], [], []⟩
@[reducible] noncomputable def f42_p0_outs : List (Ex × Shape) := [(.exit 0, f42_p0_o0)]
@[reducible] noncomputable def f42_p0_a : Ann Try.prog (f42_c.cr.cr.cl.cr.cb.cb) := (.leaf _)
noncomputable def f42_p0_st (rec : f42_p0_sh.den → Option (OutDen f42_p0_outs)) (y : f42_p0_sh.den) : Option (OutDen f42_p0_outs) := evA f42_E f42_p0_a (fill f42_p0_sh y) fun ex st => match ex with | .normal => (abs f42_p0_sh st).bind rec | e => packOut f42_p0_outs e st
theorem f42_p0_ok : PieceSound Try.prog (.loop (f42_c.cr.cr.cl.cr.cb.cb)) f42_p0_sh f42_p0_outs (go f42_p0_st) := go_of f42_E_okE f42_p0_a fun _ _ => rfl
@[reducible] noncomputable def f42_a : Ann Try.prog f42_c := (.seq (.leaf _) (.seq (.leaf _) (.seq (.seq (.leaf _) (.block (.piece _ _ _ f42_p0_ok))) (.leaf _))))
@[reducible] noncomputable def f42_ps : List KD := [.one (.int .u64), .one (.int .i64)]
@[reducible] noncomputable def f42_rs : List KD := [.one .str]
noncomputable def f42_F (y : argsDen f42_ps) : Option (argsDen f42_rs) := evFunA f42_E Try.f42 f42_a (encArgs f42_ps y) (decRes f42_rs)
theorem f42_ok : Sound Try.prog 42 (pfun f42_F) := sound_of (c := f42_c) f42_E_okE (by kernel_rfl) (by kernel_rfl) (by kernel_rfl) f42_a (fun _ => rfl)
@[reducible] noncomputable def f16_E : Env := envOf Try.prog 9999 [rowOf true f42_ok]
theorem f16_E_okE : EnvOk Try.prog f16_E := envOf_ok _ _ mixed
/-! ### imprimatur/imprimaturref18.Frames -/
@[reducible] noncomputable def f16_c : Code := codeOf Try.f16
@[reducible] noncomputable def f16_p0_sh : Shape := ⟨[.dead, .dead, .dead, .hole .str, .dead, .dead, .hole (.list .str), .hole (.int .i64), .hole (.int .i64), .dead, .dead, .dead, .dead, .dead, .dead, .dead, .dead, .dead, .dead, .dead, .dead, .dead], [], []⟩
@[reducible] noncomputable def f16_p0_o0 : Shape := ⟨[.dead, .dead, .dead, .hole .str, .dead, .dead, .dead, .dead, .dead, .dead, .dead, .dead, .dead, .dead, .dead, .dead, .dead, .dead, .dead, .dead, .dead, .dead], [], []⟩
@[reducible] noncomputable def f16_p0_outs : List (Ex × Shape) := [(.exit 0, f16_p0_o0)]
@[reducible] noncomputable def f16_p0_a : Ann Try.prog (f16_c.cr.cr.cl.cr.cb.cb) := (.leaf _)
noncomputable def f16_p0_st (rec : f16_p0_sh.den → Option (OutDen f16_p0_outs)) (y : f16_p0_sh.den) : Option (OutDen f16_p0_outs) := evA f16_E f16_p0_a (fill f16_p0_sh y) fun ex st => match ex with | .normal => (abs f16_p0_sh st).bind rec | e => packOut f16_p0_outs e st
theorem f16_p0_ok : PieceSound Try.prog (.loop (f16_c.cr.cr.cl.cr.cb.cb)) f16_p0_sh f16_p0_outs (go f16_p0_st) := go_of f16_E_okE f16_p0_a fun _ _ => rfl
@[reducible] noncomputable def f16_a : Ann Try.prog f16_c := (.seq (.leaf _) (.seq (.leaf _) (.seq (.seq (.leaf _) (.block (.piece _ _ _ f16_p0_ok))) (.leaf _))))
@[reducible] noncomputable def f16_ps : List KD := [.one (.list .str)]
@[reducible] noncomputable def f16_rs : List KD := [.one .str]
noncomputable def f16_F (y : argsDen f16_ps) : Option (argsDen f16_rs) := evFunA f16_E Try.f16 f16_a (encArgs f16_ps y) (decRes f16_rs)
theorem f16_ok : Sound Try.prog 16 (pfun f16_F) := sound_of (c := f16_c) f16_E_okE (by kernel_rfl) (by kernel_rfl) (by kernel_rfl) f16_a (fun _ => rfl)
@[reducible] noncomputable def f3_E : Env := envOf Try.prog 9999 [rowOf true f11_ok, rowOf false f12_ok, rowOf false f13_ok, rowOf true f14_ok, rowOf true f15_ok, rowOf true f16_ok]
theorem f3_E_okE : EnvOk Try.prog f3_E := envOf_ok _ _ mixed
/-! ### imprimatur/imprimaturlaw18.WalReads -/
@[reducible] noncomputable def f3_c : Code := codeOf Try.f3
@[reducible] noncomputable def f3_p0_sh : Shape := ⟨[.hole .str, .dead, .whole 0, .dead, .dead, .dead, .dead, .hole .str, .hole (.int .i64), .dead, .dead, .dead, .dead, .hole .str, .dead, .dead, .dead, .dead, .hole (.list .str), .hole (.int .i64), .dead, .dead, .dead, .dead, .dead, .dead, .dead, .dead, .dead, .dead, .dead, .dead, .dead, .dead, .dead, .dead, .dead, .dead, .dead, .dead, .dead, .dead, .dead, .dead, .dead, .dead, .dead, .dead, .dead, .dead, .dead, .dead, .dead, .dead, .dead, .dead, .dead, .dead, .dead, .dead, .dead, .dead, .dead, .dead, .dead, .dead, .dead, .dead, .dead, .dead, .dead, .dead, .dead, .dead, .dead, .dead, .dead, .dead, .dead, .dead, .dead, .dead, .dead, .dead, .dead, .dead, .dead, .dead, .dead, .dead, .dead, .dead, .dead, .dead, .dead, .dead, .dead, .dead, .dead, .dead, .dead, .dead, .dead, .dead, .dead, .dead, .dead, .dead, .dead, .dead, .dead, .dead, .dead, .dead, .dead, .dead, .dead, .dead, .dead, .dead, .dead, .dead, .dead, .dead, .dead, .dead, .dead, .dead, .dead, .dead, .dead, .dead, .dead, .dead, .dead, .dead, .dead, .dead, .dead, .dead, .dead, .dead, .dead, .dead, .dead, .dead], [], [some .str]⟩
@[reducible] noncomputable def f3_p0_o0 : Shape := ⟨[.hole .str, .dead, .dead, .dead, .dead, .dead, .dead, .hole .str, .hole (.int .i64), .dead, .dead, .dead, .dead, .dead, .dead, .dead, .dead, .dead, .dead, .dead, .dead, .dead, .dead, .dead, .dead, .dead, .dead, .dead, .dead, .dead, .dead, .dead, .dead, .dead, .dead, .dead, .dead, .dead, .dead, .dead, .dead, .dead, .dead, .dead, .dead, .dead, .dead, .dead, .dead, .dead, .dead, .dead, .dead, .dead, .dead, .dead, .dead, .dead, .dead, .dead, .dead, .dead, .dead, .dead, .dead, .dead, .dead, .dead, .dead, .dead, .dead, .dead, .dead, .dead, .dead, .dead, .dead, .dead, .dead, .dead, .dead, .dead, .dead, .dead, .dead, .dead, .dead, .dead, .dead, .dead, .dead, .dead, .dead, .dead, .dead, .dead, .dead, .dead, .dead, .dead, .dead, .dead, .dead, .dead, .dead, .dead, .dead, .dead, .dead, .dead, .dead, .dead, .dead, .dead, .dead, .dead, .dead, .dead, .dead, .dead, .dead, .dead, .dead, .dead, .dead, .dead, .dead, .hole .bool, .dead, .dead, .dead, .dead, .dead, .dead, .dead, .dead, .dead, .dead, .dead, .dead, .dead, .dead, .dead, .dead, .dead, .dead], [], []⟩
@[reducible] noncomputable def f3_p0_outs : List (Ex × Shape) := [(.normal, f3_p0_o0)]
@[reducible] noncomputable def f3_p0_a : Ann Try.prog (f3_c.cr.cr.cr.cr.cr.cr.cr.cr.cr.cr.cl.cl) := (.leaf _)
noncomputable def f3_p0_F (y : f3_p0_sh.den) : Option (OutDen f3_p0_outs) := evA f3_E f3_p0_a (fill f3_p0_sh y) (packOut f3_p0_outs)
theorem f3_p0_ok : PieceSound Try.prog (f3_c.cr.cr.cr.cr.cr.cr.cr.cr.cr.cr.cl.cl) f3_p0_sh f3_p0_outs f3_p0_F := piece_of f3_E_okE f3_p0_a fun _ => rfl
@[reducible] noncomputable def f3_p1_sh : Shape := ⟨[.hole .str, .dead, .whole 0, .dead, .dead, .dead, .dead, .hole .str, .hole (.int .i64), .dead, .dead, .dead, .dead, .hole .str, .dead, .dead, .dead, .dead, .dead, .dead, .dead, .dead, .dead, .dead, .dead, .dead, .dead, .dead, .dead, .dead, .dead, .dead, .dead, .dead, .dead, .dead, .dead, .dead, .dead, .dead, .dead, .dead, .dead, .dead, .dead, .dead, .dead, .dead, .dead, .dead, .dead, .dead, .dead, .dead, .dead, .dead, .dead, .dead, .dead, .dead, .dead, .dead, .dead, .dead, .dead, .dead, .dead, .dead, .dead, .dead, .dead, .dead, .dead, .dead, .dead, .dead, .dead, .dead, .dead, .dead, .whole 0, .hole (.int .i64), .hole (.int .i64), .dead, .dead, .dead, .dead, .dead, .dead, .dead, .dead, .dead, .dead, .dead, .dead, .dead, .dead, .dead, .dead, .dead, .dead, .dead, .dead, .dead, .dead, .dead, .dead, .dead, .dead, .dead, .dead, .dead, .dead, .dead, .dead, .dead, .dead, .dead, .dead, .dead, .dead, .dead, .dead, .dead, .dead, .dead, .dead, .dead, .dead, .dead, .dead, .dead, .dead, .dead, .dead, .dead, .dead, .dead, .dead, .dead, .dead, .dead, .dead, .dead, .dead, .dead], [], [some .str]⟩
@[reducible] noncomputable def f3_p1_o0 : Shape := ⟨[.hole .str, .dead, .whole 0, .dead, .dead, .dead, .dead, .hole .str, .hole (.int .i64), .dead, .dead, .dead, .dead, .hole .str, .dead, .dead, .dead, .dead, .dead, .dead, .dead, .dead, .dead, .dead, .dead, .dead, .dead, .dead, .dead, .dead, .dead, .dead, .dead, .dead, .dead, .dead, .dead, .dead, .dead, .dead, .dead, .dead, .dead, .dead, .dead, .dead, .dead, .dead, .dead, .dead, .dead, .dead, .dead, .dead, .dead, .dead, .dead, .dead, .dead, .dead, .dead, .dead, .dead, .dead, .dead, .dead, .dead, .dead, .dead, .dead, .dead, .dead, .dead, .dead, .dead, .dead, .dead, .dead, .dead, .dead, .dead, .dead, .dead, .dead, .dead, .dead, .dead, .dead, .dead, .dead, .dead, .dead, .dead, .dead, .dead, .dead, .dead, .dead, .dead, .dead, .dead, .dead, .dead, .dead, .dead, .dead, .dead, .dead, .dead, .dead, .dead, .dead, .dead, .dead, .dead, .dead, .dead, .dead, .dead, .dead, .dead, .dead, .dead, .dead, .dead, .dead, .dead, .dead, .dead, .dead, .dead, .dead, .dead, .dead, .dead, .dead, .dead, .dead, .dead, .dead, .dead, .dead, .dead, .dead, .dead, .dead], [], [some .str]⟩
@[reducible] noncomputable def f3_p1_o1 : Shape := ⟨[.dead, .dead, .dead, .dead, .dead, .dead, .hole .bool, .dead, .dead, .dead, .dead, .dead, .dead, .dead, .dead, .dead, .dead, .dead, .dead, .dead, .dead, .dead, .dead, .dead, .dead, .dead, .dead, .dead, .dead, .dead, .dead, .dead, .dead, .dead, .dead, .dead, .dead, .dead, .dead, .dead, .dead, .dead, .dead, .dead, .dead, .dead, .dead, .dead, .dead, .dead, .dead, .dead, .dead, .dead, .dead, .dead, .dead, .dead, .dead, .dead, .dead, .dead, .dead, .dead, .dead, .dead, .dead, .dead, .dead, .dead, .dead, .dead, .dead, .dead, .dead, .dead, .dead, .dead, .dead, .dead, .dead, .dead, .dead, .dead, .dead, .dead, .dead, .dead, .dead, .dead, .dead, .dead, .dead, .dead, .dead, .dead, .dead, .dead, .dead, .dead, .dead, .dead, .dead, .dead, .dead, .dead, .dead, .dead, .dead, .dead, .dead, .dead, .dead, .dead, .dead, .dead, .dead, .dead, .dead, .dead, .dead, .dead, .dead, .dead, .dead, .dead, .dead, .dead, .dead, .dead, .dead, .dead, .dead, .dead, .dead, .dead, .dead, .dead, .dead, .dead, .dead, .dead, .dead, .dead, .dead, .dead], [], []⟩
@[reducible] noncomputable def f3_p1_outs : List (Ex × Shape) := [(.exit 0, f3_p1_o0), (.ret, f3_p1_o1)]
@[reducible] noncomputable def f3_p1_a : Ann Try.prog (f3_c.cr.cr.cr.cr.cr.cr.cr.cr.cl.cr.cb.cb) := (.leaf _)
noncomputable def f3_p1_st (rec : f3_p1_sh.den → Option (OutDen f3_p1_outs)) (y : f3_p1_sh.den) : Option (OutDen f3_p1_outs) := evA f3_E f3_p1_a (fill f3_p1_sh y) fun ex st => match ex with | .normal => (abs f3_p1_sh st).bind rec | e => packOut f3_p1_outs e st
theorem f3_p1_ok : PieceSound Try.prog (.loop (f3_c.cr.cr.cr.cr.cr.cr.cr.cr.cl.cr.cb.cb)) f3_p1_sh f3_p1_outs (go f3_p1_st) := go_of f3_E_okE f3_p1_a fun _ _ => rfl
@[reducible] noncomputable def f3_p2_sh : Shape := ⟨[.hole .str, .dead, .hole (.list .str), .dead, .dead, .dead, .dead, .hole .str, .hole (.int .i64), .hole (.list .str), .hole (.int .i64), .hole (.list .str), .hole .bool, .dead, .dead, .dead, .dead, .dead, .dead, .dead, .dead, .dead, .dead, .dead, .dead, .dead, .dead, .dead, .dead, .dead, .dead, .dead, .dead, .dead, .dead, .dead, .dead, .dead, .dead, .dead, .dead, .dead, .dead, .dead, .dead, .dead, .dead, .dead, .dead, .dead, .dead, .dead, .dead, .dead, .dead, .dead, .dead, .dead, .dead, .dead, .dead, .dead, .dead, .dead, .dead, .dead, .dead, .dead, .dead, .dead, .dead, .dead, .dead, .dead, .dead, .dead, .dead, .dead, .dead, .dead, .dead, .dead, .dead, .dead, .dead, .dead, .dead, .dead, .dead, .dead, .dead, .dead, .dead, .dead, .dead, .dead, .dead, .dead, .dead, .dead, .dead, .dead, .dead, .dead, .dead, .dead, .dead, .dead, .dead, .dead, .dead, .dead, .dead, .dead, .dead, .dead, .dead, .dead, .dead, .dead, .dead, .dead, .dead, .dead, .dead, .dead, .dead, .dead, .dead, .dead, .dead, .dead, .dead, .dead, .dead, .dead, .dead, .dead, .dead, .dead, .dead, .dead, .dead, .dead, .dead, .dead], [], []⟩
@[reducible] noncomputable def f3_p2_o0 : Shape := ⟨[.hole .str, .dead, .hole (.list .str), .dead, .dead, .dead, .dead, .hole .str, .hole (.int .i64), .dead, .dead, .dead, .dead, .dead, .dead, .dead, .dead, .dead, .dead, .dead, .dead, .dead, .dead, .dead, .dead, .dead, .dead, .dead, .dead, .dead, .dead, .dead, .dead, .dead, .dead, .dead, .dead, .dead, .dead, .dead, .dead, .dead, .dead, .dead, .dead, .dead, .dead, .dead, .dead, .dead, .dead, .dead, .dead, .dead, .dead, .dead, .dead, .dead, .dead, .dead, .dead, .dead, .dead, .dead, .dead, .dead, .dead, .dead, .dead, .dead, .dead, .dead, .hole .bool, .dead, .dead, .dead, .dead, .dead, .dead, .dead, .dead, .dead, .dead, .dead, .dead, .dead, .dead, .dead, .dead, .dead, .dead, .dead, .dead, .dead, .dead, .dead, .dead, .dead, .dead, .dead, .dead, .dead, .dead, .dead, .dead, .dead, .dead, .dead, .dead, .dead, .dead, .dead, .dead, .dead, .dead, .dead, .dead, .dead, .dead, .dead, .dead, .dead, .dead, .dead, .dead, .dead, .dead, .dead, .dead, .dead, .dead, .dead, .dead, .dead, .dead, .dead, .dead, .dead, .dead, .dead, .dead, .dead, .dead, .dead, .dead, .dead], [], []⟩
@[reducible] noncomputable def f3_p2_outs : List (Ex × Shape) := [(.normal, f3_p2_o0)]
@[reducible] noncomputable def f3_p2_a : Ann Try.prog (f3_c.cr.cr.cr.cr.cr.cl.cl) := (.leaf _)
noncomputable def f3_p2_F (y : f3_p2_sh.den) : Option (OutDen f3_p2_outs) := evA f3_E f3_p2_a (fill f3_p2_sh y) (packOut f3_p2_outs)
theorem f3_p2_ok : PieceSound Try.prog (f3_c.cr.cr.cr.cr.cr.cl.cl) f3_p2_sh f3_p2_outs f3_p2_F := piece_of f3_E_okE f3_p2_a fun _ => rfl
@[reducible] noncomputable def f3_a : Ann Try.prog f3_c := (.seq (.leaf _) (.seq (.leaf _) (.seq (.leaf _) (.seq (.leaf _) (.seq (.leaf _) (.seq (.seq (.piece _ _ _ f3_p2_ok) (.leaf _)) (.seq (.leaf _) (.seq (.leaf _) (.seq (.seq (.leaf _) (.block (.piece _ _ _ f3_p1_ok))) (.seq (.leaf _) (.seq (.seq (.piece _ _ _ f3_p0_ok) (.leaf _)) (.leaf _))))))))))))
@[reducible] noncomputable def f3_ps : List KD := [.one .str, .one .str, .one (.list .str)]
@[reducible] noncomputable def f3_rs : List KD := [.one .bool]
noncomputable def f3_F (y : argsDen f3_ps) : Option (argsDen f3_rs) := evFunA f3_E Try.f3 f3_a (encArgs f3_ps y) (decRes f3_rs)
theorem f3_ok : Sound Try.prog 3 (pfun f3_F) := sound_of (c := f3_c) f3_E_okE (by kernel_rfl) (by kernel_rfl) (by kernel_rfl) f3_a (fun _ => rfl)
end
end Go.Pe.Try
