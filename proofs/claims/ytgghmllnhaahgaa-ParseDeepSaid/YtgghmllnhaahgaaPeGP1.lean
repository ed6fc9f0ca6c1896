/- Printed by gen.py: what each function comes to, as a Lean function; Lean checks it. -/
import Derived.Test.YtgghmllnhaahgaaPeIter
import Derived.Test.YtgghmllnhaahgaaProg
import Derived.Test.YtgghmllnhaahgaaPeTopTry
namespace Go.Pe.Try
open Go.Proofs Go.RowKit
set_option maxRecDepth 100000
noncomputable section
theorem mixed : Try.prog.follows .mixedOrders = true := by kernel_rfl
@[reducible] noncomputable def f12_c : Code := codeOf Try.f12
@[reducible] noncomputable def h12_E : Env := envOfT Try.prog 25 [] [] [] 21
theorem h12_E_okE : EnvOk Try.prog h12_E := envOfT_ok _ _ _ _ top_ok mixed
/-! ### imprimatur/parse.stop -/
@[reducible] noncomputable def h12_I : Shape := ⟨[.hole (.int .i64)], [], []⟩
@[reducible] noncomputable def h12_O : Shape := ⟨[], [], []⟩
@[reducible] noncomputable def h12_Z : Shape := ⟨[.ifc 35 [.agg [.hole (.int .i64)]]], [], []⟩
@[reducible] noncomputable def h12_a : Ann Try.prog 0 true f12_c := (.leaf _)
noncomputable def h12_F (y : h12_I.den) : Option (h12_O.den ⊕ h12_Z.den) := evFunP h12_E Try.f12 h12_a h12_I h12_O h12_Z y
theorem h12_ok : SoundP Try.prog 12 ⟨h12_I, h12_O, h12_Z, h12_F⟩ := sound_ofP (I := h12_I) (O := h12_O) (Z := h12_Z) (c := f12_c) (h12_E_okE) (by kernel_rfl) (by kernel_rfl) (by kernel_rfl) h12_a rfl rfl (fun _ => rfl)
@[reducible] noncomputable def f36_c : Code := codeOf Try.f36
@[reducible] noncomputable def h36_E : Env := envOfT Try.prog 25 [] [] [⟨12, _, h12_ok⟩] 21
theorem h36_E_okE : EnvOk Try.prog h36_E := envOfT_ok _ _ _ _ top_ok mixed
/-! ### (*imprimatur/parse.reader).next -/
@[reducible] noncomputable def h36_p0_sh : Shape := ⟨[.ptr 0 0, .dead, .dead, .dead, .dead, .dead, .dead, .dead, .dead, .dead, .dead, .dead, .dead, .dead], [some [.hole .str, .hole (.int .i64), .same]], []⟩
@[reducible] noncomputable def h36_p0_o0 : Shape := ⟨[.ptr 0 0, .dead, .dead, .dead, .dead, .dead, .dead, .dead, .dead, .dead, .dead, .dead, .dead, .dead], [some [.hole .str, .hole (.int .i64), .same]], []⟩
@[reducible] noncomputable def h36_p0_o1 : Shape := ⟨[.ifc 35 [.agg [.hole (.int .i64)]]], [none], []⟩
@[reducible] noncomputable def h36_p0_outs : List (Ex × Shape) := [(.normal, h36_p0_o0), (.panic, h36_p0_o1)]
@[reducible] noncomputable def h36_p0_a : Ann Try.prog 1 true (f36_c.cr.cl) := (.leaf _)
noncomputable def h36_p0_F (y : h36_p0_sh.den) : Option (OutDen h36_p0_outs) := evA h36_E h36_p0_a (fill h36_p0_sh y) (packOut h36_p0_outs)
theorem h36_p0_ok : PieceSound Try.prog 1 true (f36_c.cr.cl) h36_p0_sh h36_p0_outs h36_p0_F := piece_of (h36_E_okE) h36_p0_a rfl rfl fun _ => rfl
@[reducible] noncomputable def h36_I : Shape := ⟨[.ptr 0 0], [some [.hole .str, .hole (.int .i64), .same]], []⟩
@[reducible] noncomputable def h36_O : Shape := ⟨[.hole (.int .u8)], [some [.hole .str, .hole (.int .i64), .same]], []⟩
@[reducible] noncomputable def h36_Z : Shape := ⟨[.ifc 35 [.agg [.hole (.int .i64)]]], [none], []⟩
@[reducible] noncomputable def h36_a : Ann Try.prog 1 true f36_c := (.seq (.leaf _) (.seq (.piece _ _ _ h36_p0_ok) (.leaf _)))
noncomputable def h36_F (y : h36_I.den) : Option (h36_O.den ⊕ h36_Z.den) := evFunP h36_E Try.f36 h36_a h36_I h36_O h36_Z y
theorem h36_ok : SoundP Try.prog 36 ⟨h36_I, h36_O, h36_Z, h36_F⟩ := sound_ofP (I := h36_I) (O := h36_O) (Z := h36_Z) (c := f36_c) (h36_E_okE) (by kernel_rfl) (by kernel_rfl) (by kernel_rfl) h36_a rfl rfl (fun _ => rfl)
@[reducible] noncomputable def f37_c : Code := codeOf Try.f37
@[reducible] noncomputable def f37_E : Env := envOfT Try.prog 25 [] [] [] 21
theorem f37_E_okE : EnvOk Try.prog f37_E := envOfT_ok _ _ _ _ top_ok mixed
/-! ### imprimatur/parse.digit -/
@[reducible] noncomputable def f37_ps : List KD := [.one (.int .u8)]
@[reducible] noncomputable def f37_rs : List KD := [.one .bool]
@[reducible] noncomputable def f37_a : Ann Try.prog 0 true f37_c := (.leaf _)
noncomputable def f37_F (y : argsDen f37_ps) : Option (argsDen f37_rs) := evFunA f37_E Try.f37 f37_a (encArgs f37_ps y) (decRes f37_rs)
theorem f37_ok : Sound Try.prog 37 (pfun f37_F) := sound_of (c := f37_c) (f37_E_okE) (by kernel_rfl) (by kernel_rfl) (by kernel_rfl) f37_a (fun _ => rfl)
@[reducible] noncomputable def f45_c : Code := codeOf Try.f45
@[reducible] noncomputable def f45_E : Env := envOfT Try.prog 25 [] [] [] 21
theorem f45_E_okE : EnvOk Try.prog f45_E := envOfT_ok _ _ _ _ top_ok mixed
/-! ### imprimatur/value.Number -/
@[reducible] noncomputable def f45_ps : List KD := [.one (.int .i64)]
@[reducible] noncomputable def f45_rs : List KD := [.agg [(.int .i64), (.int .i64), .str, (.list .value), (.list .str)]]
@[reducible] noncomputable def f45_a : Ann Try.prog 0 true f45_c := (.leaf _)
noncomputable def f45_F (y : argsDen f45_ps) : Option (argsDen f45_rs) := evFunA f45_E Try.f45 f45_a (encArgs f45_ps y) (decRes f45_rs)
theorem f45_ok : Sound Try.prog 45 (pfun f45_F) := sound_of (c := f45_c) (f45_E_okE) (by kernel_rfl) (by kernel_rfl) (by kernel_rfl) f45_a (fun _ => rfl)
@[reducible] noncomputable def f38_c : Code := codeOf Try.f38
@[reducible] noncomputable def h38_E : Env := envOfT Try.prog 25 [rowOf true f37_ok, rowOf false f45_ok] [] [⟨12, _, h12_ok⟩] 21
theorem h38_E_okE : EnvOk Try.prog h38_E := envOfT_ok _ _ _ _ top_ok mixed
/-! ### (*imprimatur/parse.reader).number -/
@[reducible] noncomputable def h38_p0_sh : Shape := ⟨[.dead, .dead, .ptr 1 0, .hole (.int .i64), .dead, .hole .str, .hole (.int .i64), .dead, .dead, .dead, .dead, .dead, .dead, .dead, .dead, .dead, .dead, .dead, .dead, .dead, .dead, .dead, .dead, .dead, .dead, .dead, .dead, .dead, .dead, .dead, .dead, .dead, .dead, .dead, .dead, .dead, .dead, .dead, .dead, .dead, .dead, .dead, .dead, .dead, .dead, .dead, .dead, .dead, .dead, .dead, .dead, .dead, .dead, .dead, .dead, .dead, .dead, .dead, .dead, .dead, .dead, .dead, .dead, .dead, .dead, .dead, .dead, .dead, .dead, .dead, .dead, .dead, .dead, .dead, .dead, .dead, .dead, .dead, .hole (.int .i64), .hole (.int .i64), .dead, .dead, .dead, .dead, .dead, .dead, .dead, .dead, .dead, .dead, .dead, .dead, .dead, .dead, .dead, .dead, .dead, .dead], [some [.hole .str, .hole (.int .i64), .same], some [.hole (.int .i64), .hole (.int .i64), .hole .str, .nilS, .nilS]], []⟩
@[reducible] noncomputable def h38_p0_o0 : Shape := ⟨[.dead, .dead, .ptr 1 0, .hole (.int .i64), .dead, .dead, .hole (.int .i64), .dead, .dead, .dead, .dead, .dead, .dead, .dead, .dead, .dead, .dead, .dead, .dead, .dead, .dead, .dead, .dead, .dead, .dead, .dead, .dead, .dead, .dead, .dead, .dead, .dead, .dead, .dead, .dead, .dead, .dead, .dead, .dead, .dead, .dead, .dead, .dead, .dead, .dead, .dead, .dead, .dead, .dead, .dead, .dead, .dead, .dead, .dead, .dead, .dead, .dead, .dead, .dead, .dead, .dead, .dead, .dead, .dead, .dead, .dead, .dead, .dead, .dead, .dead, .dead, .dead, .dead, .dead, .dead, .dead, .dead, .dead, .dead, .dead, .dead, .dead, .dead, .dead, .dead, .dead, .dead, .dead, .dead, .dead, .dead, .dead, .dead, .dead, .dead, .dead, .dead, .dead], [some [.hole .str, .hole (.int .i64), .same], some [.hole (.int .i64), .hole (.int .i64), .hole .str, .nilS, .nilS]], []⟩
@[reducible] noncomputable def h38_p0_outs : List (Ex × Shape) := [(.exit 2, h38_p0_o0)]
@[reducible] noncomputable def h38_p0_a : Ann Try.prog 1 true (f38_c.cr.cr.cr.cr.cr.cr.cr.cr.cr.cl.cr.cb.cb) := (.leaf _)
noncomputable def h38_p0_st (rec : h38_p0_sh.den → Option (OutDen h38_p0_outs)) (y : h38_p0_sh.den) : Option (OutDen h38_p0_outs) := evA h38_E h38_p0_a (fill h38_p0_sh y) fun ex st => match ex with | .normal => (abs h38_p0_sh st).bind rec | e => packOut h38_p0_outs e st
theorem h38_p0_ok : PieceSound Try.prog 1 true (.loop (f38_c.cr.cr.cr.cr.cr.cr.cr.cr.cr.cl.cr.cb.cb)) h38_p0_sh h38_p0_outs (go h38_p0_st) := go_of (h38_E_okE) h38_p0_a rfl rfl fun _ _ => rfl
@[reducible] noncomputable def h38_p1_sh : Shape := ⟨[.dead, .dead, .ptr 1 0, .hole (.int .i64), .dead, .dead, .hole (.int .i64), .dead, .dead, .dead, .dead, .dead, .dead, .dead, .dead, .dead, .dead, .dead, .dead, .dead, .dead, .dead, .dead, .dead, .dead, .dead, .dead, .dead, .dead, .dead, .dead, .dead, .dead, .dead, .dead, .dead, .dead, .dead, .dead, .dead, .dead, .dead, .dead, .dead, .dead, .dead, .dead, .dead, .dead, .dead, .dead, .dead, .dead, .dead, .dead, .dead, .dead, .dead, .dead, .dead, .dead, .dead, .dead, .dead, .dead, .dead, .dead, .dead, .dead, .dead, .dead, .dead, .dead, .dead, .dead, .dead, .dead, .dead, .dead, .dead, .dead, .dead, .dead, .dead, .dead, .dead, .dead, .dead, .dead, .dead, .dead, .dead, .dead, .dead, .dead, .dead, .dead, .dead], [some [.hole .str, .hole (.int .i64), .same], some [.hole (.int .i64), .hole (.int .i64), .hole .str, .nilS, .nilS]], []⟩
@[reducible] noncomputable def h38_p1_o0 : Shape := ⟨[.dead, .dead, .ptr 1 0, .hole (.int .i64), .dead, .dead, .hole (.int .i64), .dead, .dead, .dead, .dead, .dead, .dead, .dead, .dead, .dead, .dead, .dead, .dead, .dead, .dead, .dead, .dead, .dead, .dead, .dead, .dead, .dead, .dead, .dead, .dead, .dead, .dead, .dead, .dead, .dead, .dead, .dead, .dead, .dead, .dead, .dead, .dead, .dead, .dead, .dead, .dead, .dead, .dead, .dead, .dead, .dead, .dead, .dead, .dead, .dead, .dead, .dead, .dead, .dead, .dead, .dead, .dead, .dead, .dead, .dead, .dead, .dead, .dead, .dead, .dead, .dead, .dead, .dead, .dead, .dead, .dead, .dead, .dead, .dead, .dead, .dead, .dead, .dead, .dead, .dead, .dead, .dead, .dead, .dead, .dead, .dead, .dead, .dead, .dead, .dead, .dead, .dead], [some [.hole .str, .hole (.int .i64), .same], some [.hole (.int .i64), .hole (.int .i64), .hole .str, .nilS, .nilS]], []⟩
@[reducible] noncomputable def h38_p1_o1 : Shape := ⟨[.ifc 35 [.agg [.hole (.int .i64)]]], [none], []⟩
@[reducible] noncomputable def h38_p1_outs : List (Ex × Shape) := [(.normal, h38_p1_o0), (.panic, h38_p1_o1)]
@[reducible] noncomputable def h38_p1_a : Ann Try.prog 1 true (f38_c.cr.cr.cr.cr.cr.cr.cr.cr.cr.cr.cl) := (.leaf _)
noncomputable def h38_p1_F (y : h38_p1_sh.den) : Option (OutDen h38_p1_outs) := evA h38_E h38_p1_a (fill h38_p1_sh y) (packOut h38_p1_outs)
theorem h38_p1_ok : PieceSound Try.prog 1 true (f38_c.cr.cr.cr.cr.cr.cr.cr.cr.cr.cr.cl) h38_p1_sh h38_p1_outs h38_p1_F := piece_of (h38_E_okE) h38_p1_a rfl rfl fun _ => rfl
@[reducible] noncomputable def h38_p2_sh : Shape := ⟨[.dead, .dead, .ptr 1 0, .hole (.int .i64), .hole (.int .i64), .hole .str, .dead, .dead, .dead, .dead, .dead, .dead, .dead, .dead, .dead, .dead, .dead, .dead, .dead, .dead, .dead, .dead, .dead, .dead, .dead, .dead, .dead, .dead, .dead, .dead, .dead, .dead, .dead, .dead, .dead, .dead, .dead, .dead, .dead, .dead, .dead, .dead, .dead, .dead, .dead, .dead, .dead, .dead, .dead, .dead, .dead, .dead, .dead, .dead, .dead, .dead, .dead, .dead, .dead, .dead, .dead, .dead, .dead, .dead, .dead, .dead, .dead, .dead, .dead, .dead, .dead, .dead, .dead, .dead, .dead, .dead, .dead, .dead, .dead, .dead, .dead, .dead, .dead, .dead, .dead, .dead, .dead, .dead, .dead, .dead, .dead, .dead, .dead, .dead, .dead, .dead, .dead, .dead], [some [.hole .str, .hole (.int .i64), .same], some [.hole (.int .i64), .hole (.int .i64), .hole .str, .nilS, .nilS]], []⟩
@[reducible] noncomputable def h38_p2_o0 : Shape := ⟨[.dead, .dead, .ptr 1 0, .hole (.int .i64), .hole (.int .i64), .hole .str, .dead, .dead, .dead, .dead, .dead, .dead, .dead, .dead, .dead, .dead, .dead, .dead, .dead, .dead, .dead, .dead, .dead, .dead, .dead, .dead, .dead, .dead, .dead, .dead, .dead, .dead, .dead, .dead, .dead, .dead, .dead, .dead, .dead, .dead, .dead, .dead, .dead, .dead, .dead, .dead, .dead, .dead, .dead, .dead, .dead, .dead, .dead, .dead, .dead, .dead, .dead, .dead, .dead, .dead, .dead, .dead, .dead, .dead, .dead, .dead, .dead, .dead, .dead, .dead, .dead, .dead, .dead, .hole .bool, .dead, .dead, .dead, .dead, .dead, .dead, .dead, .dead, .dead, .dead, .dead, .dead, .dead, .dead, .dead, .dead, .dead, .dead, .dead, .dead, .dead, .dead, .dead, .dead], [some [.hole .str, .hole (.int .i64), .same], some [.hole (.int .i64), .hole (.int .i64), .hole .str, .nilS, .nilS]], []⟩
@[reducible] noncomputable def h38_p2_outs : List (Ex × Shape) := [(.normal, h38_p2_o0)]
@[reducible] noncomputable def h38_p2_a : Ann Try.prog 1 true (f38_c.cr.cr.cr.cr.cr.cr.cl.cr.cl) := (.leaf _)
noncomputable def h38_p2_F (y : h38_p2_sh.den) : Option (OutDen h38_p2_outs) := evA h38_E h38_p2_a (fill h38_p2_sh y) (packOut h38_p2_outs)
theorem h38_p2_ok : PieceSound Try.prog 1 true (f38_c.cr.cr.cr.cr.cr.cr.cl.cr.cl) h38_p2_sh h38_p2_outs h38_p2_F := piece_of (h38_E_okE) h38_p2_a rfl rfl fun _ => rfl
@[reducible] noncomputable def h38_p3_sh : Shape := ⟨[.dead, .dead, .ptr 1 0, .hole (.int .i64), .hole (.int .i64), .hole .str, .hole (.int .i64), .dead, .dead, .dead, .dead, .dead, .dead, .dead, .dead, .dead, .dead, .dead, .dead, .dead, .dead, .dead, .dead, .dead, .dead, .dead, .dead, .dead, .dead, .dead, .dead, .dead, .dead, .dead, .dead, .dead, .dead, .dead, .dead, .dead, .dead, .dead, .dead, .dead, .dead, .dead, .dead, .dead, .dead, .dead, .dead, .dead, .dead, .dead, .dead, .dead, .dead, .dead, .dead, .dead, .dead, .dead, .dead, .dead, .dead, .dead, .dead, .dead, .dead, .dead, .dead, .dead, .dead, .dead, .dead, .dead, .dead, .dead, .dead, .dead, .dead, .dead, .dead, .dead, .dead, .dead, .dead, .dead, .dead, .dead, .dead, .dead, .dead, .dead, .dead, .dead, .dead, .dead], [some [.hole .str, .hole (.int .i64), .same], some [.hole (.int .i64), .hole (.int .i64), .hole .str, .nilS, .nilS]], []⟩
@[reducible] noncomputable def h38_p3_o0 : Shape := ⟨[.dead, .dead, .ptr 1 0, .hole (.int .i64), .hole (.int .i64), .hole .str, .hole (.int .i64), .dead, .dead, .dead, .dead, .dead, .dead, .dead, .dead, .dead, .dead, .dead, .dead, .dead, .dead, .dead, .dead, .dead, .dead, .dead, .dead, .dead, .dead, .dead, .dead, .dead, .dead, .dead, .dead, .dead, .dead, .dead, .dead, .dead, .dead, .dead, .dead, .dead, .dead, .dead, .dead, .dead, .dead, .dead, .dead, .dead, .dead, .dead, .dead, .dead, .dead, .dead, .dead, .dead, .dead, .dead, .dead, .dead, .dead, .dead, .dead, .dead, .dead, .dead, .dead, .dead, .dead, .dead, .dead, .dead, .dead, .dead, .dead, .dead, .dead, .dead, .dead, .dead, .dead, .dead, .dead, .dead, .dead, .dead, .dead, .dead, .dead, .dead, .dead, .dead, .dead, .dead], [some [.hole .str, .hole (.int .i64), .same], some [.hole (.int .i64), .hole (.int .i64), .hole .str, .nilS, .nilS]], []⟩
@[reducible] noncomputable def h38_p3_o1 : Shape := ⟨[.ifc 35 [.agg [.hole (.int .i64)]]], [none], []⟩
@[reducible] noncomputable def h38_p3_outs : List (Ex × Shape) := [(.normal, h38_p3_o0), (.panic, h38_p3_o1)]
@[reducible] noncomputable def h38_p3_a : Ann Try.prog 1 true (f38_c.cr.cr.cr.cr.cr.cr.cr.cr.cl) := (.leaf _)
noncomputable def h38_p3_F (y : h38_p3_sh.den) : Option (OutDen h38_p3_outs) := evA h38_E h38_p3_a (fill h38_p3_sh y) (packOut h38_p3_outs)
theorem h38_p3_ok : PieceSound Try.prog 1 true (f38_c.cr.cr.cr.cr.cr.cr.cr.cr.cl) h38_p3_sh h38_p3_outs h38_p3_F := piece_of (h38_E_okE) h38_p3_a rfl rfl fun _ => rfl
@[reducible] noncomputable def h38_p4_sh : Shape := ⟨[.ptr 0 0, .dead, .ptr 1 0, .hole (.int .i64), .hole (.int .i64), .hole .str, .dead, .dead, .dead, .dead, .dead, .dead, .dead, .dead, .dead, .dead, .dead, .dead, .dead, .dead, .dead, .dead, .dead, .dead, .dead, .dead, .dead, .dead, .dead, .dead, .dead, .dead, .dead, .dead, .dead, .dead, .dead, .dead, .dead, .dead, .dead, .dead, .dead, .dead, .dead, .dead, .dead, .dead, .dead, .dead, .dead, .dead, .dead, .dead, .dead, .dead, .dead, .dead, .dead, .dead, .dead, .dead, .dead, .dead, .dead, .dead, .dead, .dead, .dead, .dead, .dead, .dead, .dead, .dead, .dead, .dead, .dead, .dead, .dead, .dead, .dead, .dead, .dead, .dead, .dead, .dead, .dead, .dead, .dead, .dead, .dead, .dead, .dead, .dead, .dead, .dead, .dead, .dead], [some [.hole .str, .hole (.int .i64), .same], some [.hole (.int .i64), .hole (.int .i64), .hole .str, .nilS, .nilS]], []⟩
@[reducible] noncomputable def h38_p4_o0 : Shape := ⟨[.dead, .dead, .ptr 1 0, .hole (.int .i64), .hole (.int .i64), .hole .str, .dead, .dead, .dead, .dead, .dead, .dead, .dead, .dead, .dead, .dead, .dead, .dead, .dead, .dead, .dead, .dead, .dead, .dead, .dead, .dead, .dead, .dead, .dead, .dead, .dead, .dead, .dead, .dead, .dead, .dead, .dead, .dead, .dead, .dead, .dead, .dead, .dead, .dead, .dead, .dead, .dead, .dead, .dead, .dead, .dead, .dead, .dead, .dead, .dead, .dead, .dead, .dead, .dead, .dead, .dead, .dead, .dead, .dead, .dead, .dead, .dead, .dead, .dead, .dead, .dead, .dead, .dead, .dead, .dead, .dead, .dead, .dead, .dead, .dead, .dead, .dead, .dead, .dead, .dead, .dead, .dead, .dead, .dead, .dead, .dead, .dead, .dead, .dead, .dead, .dead, .dead, .dead], [some [.hole .str, .hole (.int .i64), .same], some [.hole (.int .i64), .hole (.int .i64), .hole .str, .nilS, .nilS]], []⟩
@[reducible] noncomputable def h38_p4_o1 : Shape := ⟨[.ifc 35 [.agg [.hole (.int .i64)]]], [none], []⟩
@[reducible] noncomputable def h38_p4_outs : List (Ex × Shape) := [(.normal, h38_p4_o0), (.panic, h38_p4_o1)]
@[reducible] noncomputable def h38_p4_a : Ann Try.prog 1 true (f38_c.cr.cr.cr.cr.cr.cr.cl) := (.seq (.leaf _) (.seq (.piece _ _ _ h38_p2_ok) (.leaf _)))
noncomputable def h38_p4_F (y : h38_p4_sh.den) : Option (OutDen h38_p4_outs) := evA h38_E h38_p4_a (fill h38_p4_sh y) (packOut h38_p4_outs)
theorem h38_p4_ok : PieceSound Try.prog 1 true (f38_c.cr.cr.cr.cr.cr.cr.cl) h38_p4_sh h38_p4_outs h38_p4_F := piece_of (h38_E_okE) h38_p4_a rfl rfl fun _ => rfl
@[reducible] noncomputable def h38_p5_sh : Shape := ⟨[.ptr 0 0, .dead, .ptr 1 0, .hole (.int .i64), .hole (.int .i64), .dead, .dead, .dead, .dead, .dead, .dead, .dead, .dead, .dead, .dead, .dead, .dead, .dead, .dead, .dead, .dead, .dead, .dead, .dead, .dead, .dead, .dead, .dead, .dead, .dead, .dead, .dead, .dead, .dead, .dead, .dead, .dead, .dead, .dead, .dead, .dead, .dead, .dead, .dead, .dead, .dead, .dead, .dead, .dead, .dead, .dead, .dead, .dead, .dead, .dead, .dead, .dead, .dead, .dead, .dead, .dead, .dead, .dead, .dead, .dead, .dead, .dead, .dead, .dead, .dead, .dead, .dead, .dead, .dead, .dead, .dead, .dead, .dead, .dead, .dead, .dead, .dead, .dead, .dead, .dead, .dead, .dead, .dead, .dead, .dead, .dead, .dead, .dead, .dead, .dead, .dead, .dead, .dead], [some [.hole .str, .hole (.int .i64), .same], some [.hole (.int .i64), .hole (.int .i64), .hole .str, .nilS, .nilS]], []⟩
@[reducible] noncomputable def h38_p5_o0 : Shape := ⟨[.ptr 0 0, .dead, .ptr 1 0, .hole (.int .i64), .hole (.int .i64), .dead, .dead, .dead, .dead, .dead, .dead, .dead, .dead, .dead, .dead, .dead, .dead, .dead, .dead, .dead, .dead, .dead, .dead, .dead, .dead, .dead, .dead, .dead, .dead, .dead, .dead, .dead, .dead, .dead, .dead, .dead, .dead, .dead, .dead, .dead, .dead, .dead, .dead, .dead, .dead, .dead, .dead, .dead, .dead, .dead, .dead, .dead, .dead, .dead, .dead, .dead, .dead, .dead, .dead, .dead, .dead, .dead, .dead, .dead, .dead, .dead, .dead, .dead, .dead, .dead, .dead, .dead, .dead, .dead, .dead, .dead, .dead, .dead, .dead, .dead, .dead, .dead, .dead, .dead, .dead, .dead, .dead, .dead, .dead, .dead, .dead, .dead, .dead, .dead, .dead, .dead, .dead, .dead], [some [.hole .str, .hole (.int .i64), .same], some [.hole (.int .i64), .hole (.int .i64), .hole .str, .nilS, .nilS]], []⟩
@[reducible] noncomputable def h38_p5_outs : List (Ex × Shape) := [(.exit 0, h38_p5_o0)]
@[reducible] noncomputable def h38_p5_a : Ann Try.prog 1 true (f38_c.cr.cr.cr.cr.cl.cb.cb) := (.leaf _)
noncomputable def h38_p5_st (rec : h38_p5_sh.den → Option (OutDen h38_p5_outs)) (y : h38_p5_sh.den) : Option (OutDen h38_p5_outs) := evA h38_E h38_p5_a (fill h38_p5_sh y) fun ex st => match ex with | .normal => (abs h38_p5_sh st).bind rec | e => packOut h38_p5_outs e st
theorem h38_p5_ok : PieceSound Try.prog 1 true (.loop (f38_c.cr.cr.cr.cr.cl.cb.cb)) h38_p5_sh h38_p5_outs (go h38_p5_st) := go_of (h38_E_okE) h38_p5_a rfl rfl fun _ _ => rfl
@[reducible] noncomputable def h38_p6_sh : Shape := ⟨[.ptr 0 0, .dead, .ptr 1 0, .hole (.int .i64), .dead, .dead, .dead, .dead, .dead, .dead, .dead, .dead, .dead, .dead, .dead, .dead, .dead, .dead, .dead, .dead, .dead, .dead, .dead, .dead, .dead, .dead, .dead, .dead, .dead, .dead, .dead, .dead, .dead, .dead, .dead, .dead, .dead, .dead, .dead, .dead, .dead, .dead, .dead, .dead, .dead, .dead, .dead, .dead, .dead, .dead, .dead, .dead, .dead, .dead, .dead, .dead, .dead, .dead, .dead, .dead, .dead, .dead, .dead, .dead, .dead, .dead, .dead, .dead, .dead, .dead, .dead, .dead, .dead, .dead, .dead, .dead, .dead, .dead, .dead, .dead, .dead, .dead, .dead, .dead, .dead, .dead, .dead, .dead, .dead, .dead, .dead, .dead, .dead, .dead, .dead, .dead, .dead, .dead], [some [.hole .str, .hole (.int .i64), .same], some [.hole (.int .i64), .hole (.int .i64), .hole .str, .nilS, .nilS]], []⟩
@[reducible] noncomputable def h38_p6_o0 : Shape := ⟨[.ptr 0 0, .dead, .ptr 1 0, .hole (.int .i64), .dead, .dead, .dead, .dead, .dead, .dead, .dead, .dead, .dead, .dead, .dead, .dead, .dead, .dead, .dead, .dead, .dead, .dead, .dead, .dead, .dead, .dead, .dead, .dead, .dead, .dead, .dead, .dead, .dead, .dead, .dead, .dead, .dead, .dead, .dead, .dead, .dead, .dead, .dead, .dead, .dead, .dead, .dead, .dead, .dead, .dead, .dead, .dead, .dead, .dead, .dead, .dead, .dead, .dead, .dead, .dead, .dead, .dead, .dead, .dead, .dead, .dead, .dead, .dead, .dead, .dead, .dead, .dead, .dead, .dead, .dead, .dead, .dead, .dead, .dead, .dead, .dead, .dead, .dead, .dead, .dead, .dead, .dead, .dead, .dead, .dead, .dead, .dead, .dead, .dead, .dead, .dead, .dead, .dead], [some [.hole .str, .hole (.int .i64), .same], some [.hole (.int .i64), .hole (.int .i64), .hole .str, .nilS, .nilS]], []⟩
@[reducible] noncomputable def h38_p6_outs : List (Ex × Shape) := [(.normal, h38_p6_o0)]
@[reducible] noncomputable def h38_p6_a : Ann Try.prog 1 true (f38_c.cr.cr.cl) := (.leaf _)
noncomputable def h38_p6_F (y : h38_p6_sh.den) : Option (OutDen h38_p6_outs) := evA h38_E h38_p6_a (fill h38_p6_sh y) (packOut h38_p6_outs)
theorem h38_p6_ok : PieceSound Try.prog 1 true (f38_c.cr.cr.cl) h38_p6_sh h38_p6_outs h38_p6_F := piece_of (h38_E_okE) h38_p6_a rfl rfl fun _ => rfl
@[reducible] noncomputable def h38_I : Shape := ⟨[.ptr 0 0], [some [.hole .str, .hole (.int .i64), .same]], []⟩
@[reducible] noncomputable def h38_O : Shape := ⟨[.agg [.hole (.int .i64), .hole (.int .i64), .hole .str, .hole (.list .value), .hole (.list .str)]], [some [.hole .str, .hole (.int .i64), .same]], []⟩
@[reducible] noncomputable def h38_Z : Shape := ⟨[.ifc 35 [.agg [.hole (.int .i64)]]], [none], []⟩
@[reducible] noncomputable def h38_a : Ann Try.prog 1 true f38_c := (.seq (.leaf _) (.seq (.leaf _) (.seq (.piece _ _ _ h38_p6_ok) (.seq (.leaf _) (.seq (.block (.piece _ _ _ h38_p5_ok)) (.seq (.leaf _) (.seq (.piece _ _ _ h38_p4_ok) (.seq (.leaf _) (.seq (.piece _ _ _ h38_p3_ok) (.seq (.seq (.leaf _) (.block (.piece _ _ _ h38_p0_ok))) (.seq (.piece _ _ _ h38_p1_ok) (.leaf _))))))))))))
noncomputable def h38_F (y : h38_I.den) : Option (h38_O.den ⊕ h38_Z.den) := evFunP h38_E Try.f38 h38_a h38_I h38_O h38_Z y
theorem h38_ok : SoundP Try.prog 38 ⟨h38_I, h38_O, h38_Z, h38_F⟩ := sound_ofP (I := h38_I) (O := h38_O) (Z := h38_Z) (c := f38_c) (h38_E_okE) (by kernel_rfl) (by kernel_rfl) (by kernel_rfl) h38_a rfl rfl (fun _ => rfl)
@[reducible] noncomputable def f46_c : Code := codeOf Try.f46
@[reducible] noncomputable def f46_E : Env := envOfT Try.prog 25 [] [] [] 21
theorem f46_E_okE : EnvOk Try.prog f46_E := envOfT_ok _ _ _ _ top_ok mixed
/-! ### slices.Index[[]byte,byte] -/
@[reducible] noncomputable def f46_p0_sh : Shape := ⟨[.hole (.list (.int .u8)), .hole (.int .u8), .dead, .dead, .dead, .dead, .dead, .hole (.int .i64), .hole (.int .i64), .dead, .dead, .dead, .dead, .dead, .dead, .dead, .dead, .dead, .dead], [], []⟩
@[reducible] noncomputable def f46_p0_o0 : Shape := ⟨[.dead, .dead, .dead, .dead, .dead, .dead, .dead, .dead, .dead, .dead, .dead, .dead, .dead, .dead, .dead, .dead, .dead, .dead, .dead], [], []⟩
@[reducible] noncomputable def f46_p0_o1 : Shape := ⟨[.dead, .dead, .dead, .dead, .hole (.int .i64), .dead, .dead, .dead, .dead, .dead, .dead, .dead, .dead, .dead, .dead, .dead, .dead, .dead, .dead], [], []⟩
@[reducible] noncomputable def f46_p0_outs : List (Ex × Shape) := [(.exit 0, f46_p0_o0), (.ret, f46_p0_o1)]
@[reducible] noncomputable def f46_p0_a : Ann Try.prog 0 true (f46_c.cr.cl.cr.cb.cb) := (.leaf _)
noncomputable def f46_p0_st (rec : f46_p0_sh.den → Option (OutDen f46_p0_outs)) (y : f46_p0_sh.den) : Option (OutDen f46_p0_outs) := evA f46_E f46_p0_a (fill f46_p0_sh y) fun ex st => match ex with | .normal => (abs f46_p0_sh st).bind rec | e => packOut f46_p0_outs e st
theorem f46_p0_ok : PieceSound Try.prog 0 true (.loop (f46_c.cr.cl.cr.cb.cb)) f46_p0_sh f46_p0_outs (go f46_p0_st) := go_of (f46_E_okE) f46_p0_a rfl rfl fun _ _ => rfl
@[reducible] noncomputable def f46_ps : List KD := [.one (.list (.int .u8)), .one (.int .u8)]
@[reducible] noncomputable def f46_rs : List KD := [.one (.int .i64)]
@[reducible] noncomputable def f46_a : Ann Try.prog 0 true f46_c := (.seq (.leaf _) (.seq (.seq (.leaf _) (.block (.piece _ _ _ f46_p0_ok))) (.leaf _)))
noncomputable def f46_F (y : argsDen f46_ps) : Option (argsDen f46_rs) := evFunA f46_E Try.f46 f46_a (encArgs f46_ps y) (decRes f46_rs)
theorem f46_ok : Sound Try.prog 46 (pfun f46_F) := sound_of (c := f46_c) (f46_E_okE) (by kernel_rfl) (by kernel_rfl) (by kernel_rfl) f46_a (fun _ => rfl)
@[reducible] noncomputable def f42_c : Code := codeOf Try.f42
@[reducible] noncomputable def f42_E : Env := envOfT Try.prog 25 [rowOf true f46_ok] [] [] 21
theorem f42_E_okE : EnvOk Try.prog f42_E := envOfT_ok _ _ _ _ top_ok mixed
/-! ### slices.Contains[[]byte,byte] -/
@[reducible] noncomputable def f42_ps : List KD := [.one (.list (.int .u8)), .one (.int .u8)]
@[reducible] noncomputable def f42_rs : List KD := [.one .bool]
@[reducible] noncomputable def f42_a : Ann Try.prog 0 true f42_c := (.leaf _)
noncomputable def f42_F (y : argsDen f42_ps) : Option (argsDen f42_rs) := evFunA f42_E Try.f42 f42_a (encArgs f42_ps y) (decRes f42_rs)
theorem f42_ok : Sound Try.prog 42 (pfun f42_F) := sound_of (c := f42_c) (f42_E_okE) (by kernel_rfl) (by kernel_rfl) (by kernel_rfl) f42_a (fun _ => rfl)
@[reducible] noncomputable def f22_c : Code := codeOf Try.f22
@[reducible] noncomputable def h22_E : Env := envOfT Try.prog 25 [rowOf true f42_ok] [] [⟨36, _, h36_ok⟩, ⟨12, _, h12_ok⟩] 21
theorem h22_E_okE : EnvOk Try.prog h22_E := envOfT_ok _ _ _ _ top_ok mixed
/-! ### (*imprimatur/parse.reader).take -/
@[reducible] noncomputable def h22_p0_sh : Shape := ⟨[.ptr 0 0, .hole .str, .dead, .dead, .dead, .hole (.int .u8), .dead, .dead, .dead, .dead, .dead, .dead, .dead, .dead, .dead, .dead, .dead, .dead, .dead, .dead, .dead, .dead, .dead], [some [.hole .str, .hole (.int .i64), .same]], []⟩
@[reducible] noncomputable def h22_p0_o0 : Shape := ⟨[.ptr 0 0, .dead, .dead, .dead, .dead, .hole (.int .u8), .dead, .dead, .dead, .dead, .dead, .dead, .dead, .dead, .dead, .dead, .dead, .dead, .dead, .dead, .dead, .dead, .dead], [some [.hole .str, .hole (.int .i64), .same]], []⟩
@[reducible] noncomputable def h22_p0_o1 : Shape := ⟨[.ifc 35 [.agg [.hole (.int .i64)]]], [none], []⟩
@[reducible] noncomputable def h22_p0_outs : List (Ex × Shape) := [(.normal, h22_p0_o0), (.panic, h22_p0_o1)]
@[reducible] noncomputable def h22_p0_a : Ann Try.prog 1 true (f22_c.cr.cr.cl) := (.leaf _)
noncomputable def h22_p0_F (y : h22_p0_sh.den) : Option (OutDen h22_p0_outs) := evA h22_E h22_p0_a (fill h22_p0_sh y) (packOut h22_p0_outs)
theorem h22_p0_ok : PieceSound Try.prog 1 true (f22_c.cr.cr.cl) h22_p0_sh h22_p0_outs h22_p0_F := piece_of (h22_E_okE) h22_p0_a rfl rfl fun _ => rfl
@[reducible] noncomputable def h22_I : Shape := ⟨[.ptr 0 0, .hole .str], [some [.hole .str, .hole (.int .i64), .same]], []⟩
@[reducible] noncomputable def h22_O : Shape := ⟨[.hole (.int .u8)], [some [.hole .str, .hole (.int .i64), .same]], []⟩
@[reducible] noncomputable def h22_Z : Shape := ⟨[.ifc 35 [.agg [.hole (.int .i64)]]], [none], []⟩
@[reducible] noncomputable def h22_a : Ann Try.prog 1 true f22_c := (.seq (.leaf _) (.seq (.leaf _) (.seq (.piece _ _ _ h22_p0_ok) (.leaf _))))
noncomputable def h22_F (y : h22_I.den) : Option (h22_O.den ⊕ h22_Z.den) := evFunP h22_E Try.f22 h22_a h22_I h22_O h22_Z y
theorem h22_ok : SoundP Try.prog 22 ⟨h22_I, h22_O, h22_Z, h22_F⟩ := sound_ofP (I := h22_I) (O := h22_O) (Z := h22_Z) (c := f22_c) (h22_E_okE) (by kernel_rfl) (by kernel_rfl) (by kernel_rfl) h22_a rfl rfl (fun _ => rfl)
@[reducible] noncomputable def f40_c : Code := codeOf Try.f40
@[reducible] noncomputable def h40_E : Env := envOfT Try.prog 25 [] [] [⟨22, _, h22_ok⟩, ⟨36, _, h36_ok⟩, ⟨12, _, h12_ok⟩] 21
theorem h40_E_okE : EnvOk Try.prog h40_E := envOfT_ok _ _ _ _ top_ok mixed
/-! ### (*imprimatur/parse.reader).text -/
@[reducible] noncomputable def h40_p0_sh : Shape := ⟨[.ptr 0 0, .dead, .dead, .whole 0, .hole (.int .u8), .dead, .dead, .dead, .dead, .dead, .dead, .dead, .dead, .dead, .dead, .dead, .dead, .dead, .dead, .dead, .dead, .dead, .dead, .dead, .dead, .dead, .dead, .dead, .dead, .dead, .dead, .dead, .dead, .dead, .dead, .dead, .dead], [some [.hole .str, .hole (.int .i64), .same]], [some (.int .u8)]⟩
@[reducible] noncomputable def h40_p0_o0 : Shape := ⟨[.ptr 0 0, .dead, .dead, .whole 0, .hole (.int .u8), .dead, .dead, .dead, .dead, .dead, .dead, .dead, .dead, .dead, .dead, .dead, .dead, .dead, .dead, .dead, .dead, .dead, .dead, .dead, .dead, .dead, .dead, .dead, .dead, .dead, .dead, .dead, .dead, .dead, .dead, .dead, .dead], [some [.hole .str, .hole (.int .i64), .same]], [some (.int .u8)]⟩
@[reducible] noncomputable def h40_p0_o1 : Shape := ⟨[.ifc 35 [.agg [.hole (.int .i64)]]], [none], []⟩
@[reducible] noncomputable def h40_p0_outs : List (Ex × Shape) := [(.normal, h40_p0_o0), (.panic, h40_p0_o1)]
@[reducible] noncomputable def h40_p0_a : Ann Try.prog 1 true (f40_c.cr.cr.cr.cb.cb.cb.cr.cr.cr.cr.cl) := (.leaf _)
noncomputable def h40_p0_F (y : h40_p0_sh.den) : Option (OutDen h40_p0_outs) := evA h40_E h40_p0_a (fill h40_p0_sh y) (packOut h40_p0_outs)
theorem h40_p0_ok : PieceSound Try.prog 1 true (f40_c.cr.cr.cr.cb.cb.cb.cr.cr.cr.cr.cl) h40_p0_sh h40_p0_outs h40_p0_F := piece_of (h40_E_okE) h40_p0_a rfl rfl fun _ => rfl
@[reducible] noncomputable def h40_p1_sh : Shape := ⟨[.ptr 0 0, .dead, .dead, .whole 0, .hole (.int .u8), .dead, .dead, .dead, .dead, .dead, .dead, .dead, .dead, .dead, .dead, .dead, .dead, .dead, .dead, .dead, .dead, .dead, .dead, .dead, .dead, .dead, .dead, .dead, .dead, .dead, .dead, .dead, .dead, .dead, .dead, .dead, .dead], [some [.hole .str, .hole (.int .i64), .same]], [some (.int .u8)]⟩
@[reducible] noncomputable def h40_p1_o0 : Shape := ⟨[.dead, .dead, .hole .str, .dead, .dead, .dead, .dead, .dead, .dead, .dead, .dead, .dead, .dead, .dead, .dead, .dead, .dead, .dead, .dead, .dead, .dead, .dead, .dead, .dead, .dead, .dead, .dead, .dead, .dead, .dead, .dead, .dead, .dead, .dead, .dead, .dead, .dead], [some [.hole .str, .hole (.int .i64), .same]], []⟩
@[reducible] noncomputable def h40_p1_o1 : Shape := ⟨[.ptr 0 0, .dead, .dead, .whole 0, .hole (.int .u8), .dead, .dead, .dead, .dead, .dead, .dead, .dead, .dead, .dead, .dead, .dead, .dead, .dead, .dead, .dead, .dead, .dead, .dead, .dead, .dead, .dead, .dead, .dead, .dead, .dead, .dead, .dead, .dead, .dead, .dead, .dead, .dead], [some [.hole .str, .hole (.int .i64), .same]], [some (.int .u8)]⟩
@[reducible] noncomputable def h40_p1_o2 : Shape := ⟨[.ifc 35 [.agg [.hole (.int .i64)]]], [none], []⟩
@[reducible] noncomputable def h40_p1_outs : List (Ex × Shape) := [(.ret, h40_p1_o0), (.normal, h40_p1_o1), (.panic, h40_p1_o2)]
@[reducible] noncomputable def h40_p1_a : Ann Try.prog 1 true (f40_c.cr.cr.cr.cb.cb.cb.cr.cr.cr.cl) := (.leaf _)
noncomputable def h40_p1_F (y : h40_p1_sh.den) : Option (OutDen h40_p1_outs) := evA h40_E h40_p1_a (fill h40_p1_sh y) (packOut h40_p1_outs)
theorem h40_p1_ok : PieceSound Try.prog 1 true (f40_c.cr.cr.cr.cb.cb.cb.cr.cr.cr.cl) h40_p1_sh h40_p1_outs h40_p1_F := piece_of (h40_E_okE) h40_p1_a rfl rfl fun _ => rfl
@[reducible] noncomputable def h40_p2_sh : Shape := ⟨[.ptr 0 0, .dead, .dead, .whole 0, .hole (.int .u8), .dead, .dead, .dead, .dead, .dead, .dead, .dead, .dead, .dead, .dead, .dead, .dead, .dead, .dead, .dead, .dead, .dead, .dead, .dead, .dead, .dead, .dead, .dead, .dead, .dead, .dead, .dead, .dead, .dead, .dead, .dead, .dead], [some [.hole .str, .hole (.int .i64), .same]], [some (.int .u8)]⟩
@[reducible] noncomputable def h40_p2_o0 : Shape := ⟨[.ptr 0 0, .dead, .dead, .whole 0, .hole (.int .u8), .dead, .dead, .dead, .dead, .dead, .dead, .dead, .dead, .dead, .dead, .dead, .dead, .dead, .dead, .dead, .dead, .dead, .dead, .dead, .dead, .dead, .dead, .dead, .dead, .dead, .dead, .dead, .dead, .dead, .dead, .dead, .dead], [some [.hole .str, .hole (.int .i64), .same]], [some (.int .u8)]⟩
@[reducible] noncomputable def h40_p2_o1 : Shape := ⟨[.ifc 35 [.agg [.hole (.int .i64)]]], [none], []⟩
@[reducible] noncomputable def h40_p2_outs : List (Ex × Shape) := [(.normal, h40_p2_o0), (.panic, h40_p2_o1)]
@[reducible] noncomputable def h40_p2_a : Ann Try.prog 1 true (f40_c.cr.cr.cr.cb.cb.cb.cr.cl) := (.leaf _)
noncomputable def h40_p2_F (y : h40_p2_sh.den) : Option (OutDen h40_p2_outs) := evA h40_E h40_p2_a (fill h40_p2_sh y) (packOut h40_p2_outs)
theorem h40_p2_ok : PieceSound Try.prog 1 true (f40_c.cr.cr.cr.cb.cb.cb.cr.cl) h40_p2_sh h40_p2_outs h40_p2_F := piece_of (h40_E_okE) h40_p2_a rfl rfl fun _ => rfl
@[reducible] noncomputable def h40_p3_sh : Shape := ⟨[.ptr 0 0, .dead, .dead, .whole 0, .dead, .dead, .dead, .dead, .dead, .dead, .dead, .dead, .dead, .dead, .dead, .dead, .dead, .dead, .dead, .dead, .dead, .dead, .dead, .dead, .dead, .dead, .dead, .dead, .dead, .dead, .dead, .dead, .dead, .dead, .dead, .dead, .dead], [some [.hole .str, .hole (.int .i64), .same]], [some (.int .u8)]⟩
@[reducible] noncomputable def h40_p3_o0 : Shape := ⟨[.ifc 35 [.agg [.hole (.int .i64)]]], [none], []⟩
@[reducible] noncomputable def h40_p3_o1 : Shape := ⟨[.dead, .dead, .hole .str, .dead, .dead, .dead, .dead, .dead, .dead, .dead, .dead, .dead, .dead, .dead, .dead, .dead, .dead, .dead, .dead, .dead, .dead, .dead, .dead, .dead, .dead, .dead, .dead, .dead, .dead, .dead, .dead, .dead, .dead, .dead, .dead, .dead, .dead], [some [.hole .str, .hole (.int .i64), .same]], []⟩
@[reducible] noncomputable def h40_p3_outs : List (Ex × Shape) := [(.panic, h40_p3_o0), (.ret, h40_p3_o1)]
@[reducible] noncomputable def h40_p3_a : Ann Try.prog 1 true (f40_c.cr.cr.cr.cb.cb) := (.block (.seq (.leaf _) (.seq (.piece _ _ _ h40_p2_ok) (.seq (.leaf _) (.seq (.piece _ _ _ h40_p1_ok) (.seq (.piece _ _ _ h40_p0_ok) (.leaf _)))))))
noncomputable def h40_p3_st (rec : h40_p3_sh.den → Option (OutDen h40_p3_outs)) (y : h40_p3_sh.den) : Option (OutDen h40_p3_outs) := evA h40_E h40_p3_a (fill h40_p3_sh y) fun ex st => match ex with | .normal => (abs h40_p3_sh st).bind rec | e => packOut h40_p3_outs e st
theorem h40_p3_ok : PieceSound Try.prog 1 true (.loop (f40_c.cr.cr.cr.cb.cb)) h40_p3_sh h40_p3_outs (go h40_p3_st) := go_of (h40_E_okE) h40_p3_a rfl rfl fun _ _ => rfl
@[reducible] noncomputable def h40_I : Shape := ⟨[.ptr 0 0], [some [.hole .str, .hole (.int .i64), .same]], []⟩
@[reducible] noncomputable def h40_O : Shape := ⟨[.hole .str], [some [.hole .str, .hole (.int .i64), .same]], []⟩
@[reducible] noncomputable def h40_Z : Shape := ⟨[.ifc 35 [.agg [.hole (.int .i64)]]], [none], []⟩
@[reducible] noncomputable def h40_a : Ann Try.prog 1 true f40_c := (.seq (.leaf _) (.seq (.leaf _) (.seq (.leaf _) (.block (.piece _ _ _ h40_p3_ok)))))
noncomputable def h40_F (y : h40_I.den) : Option (h40_O.den ⊕ h40_Z.den) := evFunP h40_E Try.f40 h40_a h40_I h40_O h40_Z y
theorem h40_ok : SoundP Try.prog 40 ⟨h40_I, h40_O, h40_Z, h40_F⟩ := sound_ofP (I := h40_I) (O := h40_O) (Z := h40_Z) (c := f40_c) (h40_E_okE) (by kernel_rfl) (by kernel_rfl) (by kernel_rfl) h40_a rfl rfl (fun _ => rfl)
@[reducible] noncomputable def f39_c : Code := codeOf Try.f39
@[reducible] noncomputable def f39_E : Env := envOfT Try.prog 25 [] [] [] 21
theorem f39_E_okE : EnvOk Try.prog f39_E := envOfT_ok _ _ _ _ top_ok mixed
/-! ### imprimatur/value.Text -/
@[reducible] noncomputable def f39_ps : List KD := [.one .str]
@[reducible] noncomputable def f39_rs : List KD := [.agg [(.int .i64), (.int .i64), .str, (.list .value), (.list .str)]]
@[reducible] noncomputable def f39_a : Ann Try.prog 0 true f39_c := (.leaf _)
noncomputable def f39_F (y : argsDen f39_ps) : Option (argsDen f39_rs) := evFunA f39_E Try.f39 f39_a (encArgs f39_ps y) (decRes f39_rs)
theorem f39_ok : Sound Try.prog 39 (pfun f39_F) := sound_of (c := f39_c) (f39_E_okE) (by kernel_rfl) (by kernel_rfl) (by kernel_rfl) f39_a (fun _ => rfl)
@[reducible] noncomputable def f23_c : Code := codeOf Try.f23
@[reducible] noncomputable def f23_E : Env := envOfT Try.prog 25 [] [] [] 21
theorem f23_E_okE : EnvOk Try.prog f23_E := envOfT_ok _ _ _ _ top_ok mixed
/-! ### imprimatur/parse.end -/
@[reducible] noncomputable def f23_ps : List KD := [.agg [(.int .i64), (.int .i64), .str, (.list .value), (.list .str)]]
@[reducible] noncomputable def f23_rs : List KD := [.one (.int .u8)]
@[reducible] noncomputable def f23_a : Ann Try.prog 0 true f23_c := (.leaf _)
noncomputable def f23_F (y : argsDen f23_ps) : Option (argsDen f23_rs) := evFunA f23_E Try.f23 f23_a (encArgs f23_ps y) (decRes f23_rs)
theorem f23_ok : Sound Try.prog 23 (pfun f23_F) := sound_of (c := f23_c) (f23_E_okE) (by kernel_rfl) (by kernel_rfl) (by kernel_rfl) f23_a (fun _ => rfl)
@[reducible] noncomputable def f41_c : Code := codeOf Try.f41
@[reducible] noncomputable def h41_E : Env := envOfT Try.prog 25 [] [] [] 21
theorem h41_E_okE : EnvOk Try.prog h41_E := envOfT_ok _ _ _ _ top_ok mixed
/-! ### (*imprimatur/parse.stack[imprimatur/api.Value]).push -/
@[reducible] noncomputable def h41_I : Shape := ⟨[.ptr 0 2, .agg [.hole (.int .i64), .hole (.int .i64), .hole .str, .nilS, .nilS]], [some [.hole .str, .hole (.int .i64), .stk]], []⟩
@[reducible] noncomputable def h41_O : Shape := ⟨[], [some [.hole .str, .hole (.int .i64), .stk]], []⟩
@[reducible] noncomputable def h41_a : Ann Try.prog 1 true f41_c := (.seq (.leaf _) (.gho [] [.unfocus 0 2] (.leaf _)))
noncomputable def h41_F (y : h41_I.den) : Option h41_O.den := evFunH h41_E Try.f41 h41_a h41_I h41_O y
theorem h41_ok : SoundH Try.prog 41 ⟨h41_I, h41_O, h41_F⟩ := sound_ofH (I := h41_I) (O := h41_O) (c := f41_c) (h41_E_okE) (by kernel_rfl) (by kernel_rfl) (by kernel_rfl) h41_a rfl (fun _ => rfl)
@[reducible] noncomputable def f25_c : Code := codeOf Try.f25
@[reducible] noncomputable def h25_E : Env := envOfT Try.prog 25 [] [] [⟨40, _, h40_ok⟩, ⟨12, _, h12_ok⟩, ⟨22, _, h22_ok⟩] 21
theorem h25_E_okE : EnvOk Try.prog h25_E := envOfT_ok _ _ _ _ top_ok mixed
/-! ### (*imprimatur/parse.reader).key -/
@[reducible] noncomputable def h25_I : Shape := ⟨[.ptr 0 0], [some [.hole .str, .hole (.int .i64), .stk]], []⟩
@[reducible] noncomputable def h25_O : Shape := ⟨[], [some [.hole .str, .hole (.int .i64), .stk]], []⟩
@[reducible] noncomputable def h25_Z : Shape := ⟨[.ifc 35 [.agg [.hole (.int .i64)]]], [none], []⟩
@[reducible] noncomputable def h25_a : Ann Try.prog 1 true f25_c := (.seq (.leaf _) (.seq (.gho [.focus 0 2] [] (.leaf _)) (.seq (.leaf _) (.seq (.leaf _) (.gho [.unfocus 0 2] [] (.leaf _))))))
noncomputable def h25_F (y : h25_I.den) : Option (h25_O.den ⊕ h25_Z.den) := evFunP h25_E Try.f25 h25_a h25_I h25_O h25_Z y
theorem h25_ok : SoundP Try.prog 25 ⟨h25_I, h25_O, h25_Z, h25_F⟩ := sound_ofP (I := h25_I) (O := h25_O) (Z := h25_Z) (c := f25_c) (h25_E_okE) (by kernel_rfl) (by kernel_rfl) (by kernel_rfl) h25_a rfl rfl (fun _ => rfl)
@[reducible] noncomputable def f20_c : Code := codeOf Try.f20
@[reducible] noncomputable def h20_E : Env := envOfT Try.prog 25 [rowOf true f37_ok, rowOf false f39_ok, rowOf true f23_ok] [⟨41, _, h41_ok⟩] [⟨12, _, h12_ok⟩, ⟨36, _, h36_ok⟩, ⟨38, _, h38_ok⟩, ⟨40, _, h40_ok⟩, ⟨22, _, h22_ok⟩, ⟨25, _, h25_ok⟩] 21
theorem h20_E_okE : EnvOk Try.prog h20_E := envOfT_ok _ _ _ _ top_ok mixed
/-! ### (*imprimatur/parse.reader).begin -/
@[reducible] noncomputable def h20_p0_sh : Shape := ⟨[.ptr 0 0, .dead, .ptr 1 0, .dead, .dead, .ptr 2 0, .dead, .dead, .dead, .dead, .dead, .dead, .dead, .dead, .dead, .dead, .dead, .dead, .dead, .dead, .dead, .dead, .dead, .dead, .dead, .dead, .dead, .dead, .dead, .dead, .dead, .dead, .dead, .dead, .dead, .dead, .dead, .dead, .dead, .dead, .dead, .dead, .dead, .dead, .dead, .dead, .dead, .dead, .dead, .dead, .dead, .dead, .dead, .dead, .dead, .dead, .dead, .dead, .dead, .dead, .dead, .dead, .dead, .dead, .dead, .dead, .dead, .dead, .dead, .dead, .dead, .dead, .dead, .dead, .dead, .dead, .dead, .dead, .dead, .dead, .dead, .dead, .dead, .dead, .dead, .dead], [some [.hole .str, .hole (.int .i64), .stk], some [.hole (.int .i64), .hole (.int .i64), .hole .str, .nilS, .nilS], some [.hole (.int .i64), .hole (.int .i64), .hole .str, .nilS, .nilS]], []⟩
@[reducible] noncomputable def h20_p0_o0 : Shape := ⟨[.ptr 0 0, .dead, .ptr 1 0, .dead, .dead, .ptr 2 0, .dead, .dead, .dead, .dead, .dead, .dead, .dead, .dead, .dead, .dead, .dead, .dead, .dead, .dead, .dead, .dead, .dead, .dead, .dead, .dead, .dead, .dead, .dead, .dead, .dead, .dead, .dead, .dead, .dead, .dead, .dead, .dead, .dead, .dead, .dead, .dead, .dead, .dead, .dead, .dead, .dead, .dead, .dead, .dead, .dead, .dead, .dead, .dead, .dead, .dead, .dead, .dead, .dead, .dead, .dead, .dead, .dead, .dead, .dead, .hole .bool, .dead, .dead, .dead, .dead, .dead, .dead, .dead, .dead, .dead, .dead, .dead, .dead, .dead, .dead, .dead, .dead, .dead, .dead, .dead, .dead], [some [.hole .str, .hole (.int .i64), .stk], some [.hole (.int .i64), .hole (.int .i64), .hole .str, .nilS, .nilS], some [.hole (.int .i64), .hole (.int .i64), .hole .str, .nilS, .nilS]], []⟩
@[reducible] noncomputable def h20_p0_outs : List (Ex × Shape) := [(.normal, h20_p0_o0)]
@[reducible] noncomputable def h20_p0_a : Ann Try.prog 1 true (f20_c.cr.cr.cr.cr.cr.cr.cl.cl) := (.leaf _)
noncomputable def h20_p0_F (y : h20_p0_sh.den) : Option (OutDen h20_p0_outs) := evA h20_E h20_p0_a (fill h20_p0_sh y) (packOut h20_p0_outs)
theorem h20_p0_ok : PieceSound Try.prog 1 true (f20_c.cr.cr.cr.cr.cr.cr.cl.cl) h20_p0_sh h20_p0_outs h20_p0_F := piece_of (h20_E_okE) h20_p0_a rfl rfl fun _ => rfl
@[reducible] noncomputable def h20_p1_sh : Shape := ⟨[.ptr 0 0, .dead, .ptr 1 0, .dead, .dead, .ptr 2 0, .dead, .dead, .dead, .dead, .dead, .dead, .dead, .dead, .dead, .dead, .dead, .dead, .dead, .dead, .dead, .dead, .dead, .dead, .dead, .dead, .dead, .dead, .dead, .dead, .dead, .dead, .dead, .dead, .dead, .dead, .dead, .dead, .dead, .dead, .dead, .dead, .dead, .dead, .dead, .dead, .dead, .dead, .dead, .dead, .dead, .dead, .dead, .dead, .dead, .dead, .dead, .dead, .dead, .dead, .dead, .dead, .dead, .dead, .dead, .dead, .dead, .dead, .dead, .dead, .dead, .dead, .dead, .dead, .dead, .dead, .dead, .dead, .dead, .dead, .dead, .dead, .dead, .dead, .dead, .dead], [some [.hole .str, .hole (.int .i64), .stk], some [.hole (.int .i64), .hole (.int .i64), .hole .str, .nilS, .nilS], some [.hole (.int .i64), .hole (.int .i64), .hole .str, .nilS, .nilS]], []⟩
@[reducible] noncomputable def h20_p1_o0 : Shape := ⟨[.dead, .dead, .ptr 1 0, .dead, .dead, .dead, .dead, .dead, .dead, .dead, .dead, .dead, .dead, .dead, .dead, .dead, .dead, .dead, .dead, .dead, .dead, .dead, .dead, .dead, .dead, .dead, .dead, .dead, .dead, .dead, .dead, .dead, .dead, .dead, .dead, .dead, .dead, .dead, .dead, .dead, .dead, .dead, .dead, .dead, .dead, .dead, .dead, .dead, .dead, .dead, .dead, .dead, .dead, .dead, .dead, .dead, .dead, .dead, .dead, .dead, .dead, .dead, .dead, .dead, .dead, .dead, .dead, .dead, .dead, .dead, .dead, .dead, .dead, .dead, .dead, .dead, .dead, .dead, .dead, .dead, .dead, .dead, .dead, .dead, .dead, .dead], [some [.hole .str, .hole (.int .i64), .stk], some [.hole (.int .i64), .hole (.int .i64), .hole .str, .nilS, .nilS]], []⟩
@[reducible] noncomputable def h20_p1_o1 : Shape := ⟨[.ifc 35 [.agg [.hole (.int .i64)]]], [none], []⟩
@[reducible] noncomputable def h20_p1_outs : List (Ex × Shape) := [(.normal, h20_p1_o0), (.panic, h20_p1_o1)]
@[reducible] noncomputable def h20_p1_a : Ann Try.prog 1 true (f20_c.cr.cr.cr.cr.cr.cr.cr.cl) := (.leaf _)
noncomputable def h20_p1_F (y : h20_p1_sh.den) : Option (OutDen h20_p1_outs) := evA h20_E h20_p1_a (fill h20_p1_sh y) (packOut h20_p1_outs)
theorem h20_p1_ok : PieceSound Try.prog 1 true (f20_c.cr.cr.cr.cr.cr.cr.cr.cl) h20_p1_sh h20_p1_outs h20_p1_F := piece_of (h20_E_okE) h20_p1_a rfl rfl fun _ => rfl
@[reducible] noncomputable def h20_p2_sh : Shape := ⟨[.ptr 0 0, .dead, .ptr 1 0, .dead, .hole (.int .u8), .dead, .dead, .dead, .dead, .dead, .dead, .dead, .dead, .dead, .dead, .dead, .dead, .dead, .dead, .dead, .dead, .dead, .dead, .dead, .dead, .dead, .dead, .dead, .dead, .dead, .dead, .dead, .dead, .dead, .dead, .dead, .dead, .dead, .dead, .dead, .dead, .dead, .dead, .dead, .dead, .dead, .dead, .dead, .dead, .dead, .dead, .dead, .dead, .dead, .dead, .dead, .dead, .dead, .dead, .dead, .dead, .dead, .dead, .dead, .dead, .dead, .dead, .dead, .dead, .dead, .dead, .dead, .dead, .dead, .dead, .dead, .dead, .dead, .dead, .dead, .dead, .dead, .dead, .dead, .dead, .dead], [some [.hole .str, .hole (.int .i64), .stk], some [.hole (.int .i64), .hole (.int .i64), .hole .str, .nilS, .nilS]], []⟩
@[reducible] noncomputable def h20_p2_o0 : Shape := ⟨[.ptr 0 0, .dead, .ptr 1 0, .dead, .hole (.int .u8), .dead, .dead, .dead, .dead, .dead, .dead, .dead, .dead, .dead, .dead, .dead, .dead, .dead, .dead, .dead, .dead, .dead, .dead, .dead, .dead, .dead, .dead, .dead, .dead, .dead, .dead, .hole .bool, .dead, .dead, .dead, .dead, .dead, .dead, .dead, .dead, .dead, .dead, .dead, .dead, .dead, .dead, .dead, .dead, .dead, .dead, .dead, .dead, .dead, .dead, .dead, .dead, .dead, .dead, .dead, .dead, .dead, .dead, .dead, .dead, .dead, .dead, .dead, .dead, .dead, .dead, .dead, .dead, .dead, .dead, .dead, .dead, .dead, .dead, .dead, .dead, .dead, .dead, .dead, .dead, .dead, .dead], [some [.hole .str, .hole (.int .i64), .stk], some [.hole (.int .i64), .hole (.int .i64), .hole .str, .nilS, .nilS]], []⟩
@[reducible] noncomputable def h20_p2_outs : List (Ex × Shape) := [(.normal, h20_p2_o0)]
@[reducible] noncomputable def h20_p2_a : Ann Try.prog 1 true (f20_c.cr.cr.cr.cl.cr.cb.cl) := (.leaf _)
noncomputable def h20_p2_F (y : h20_p2_sh.den) : Option (OutDen h20_p2_outs) := evA h20_E h20_p2_a (fill h20_p2_sh y) (packOut h20_p2_outs)
theorem h20_p2_ok : PieceSound Try.prog 1 true (f20_c.cr.cr.cr.cl.cr.cb.cl) h20_p2_sh h20_p2_outs h20_p2_F := piece_of (h20_E_okE) h20_p2_a rfl rfl fun _ => rfl
@[reducible] noncomputable def h20_p3_sh : Shape := ⟨[.ptr 0 0, .dead, .ptr 1 0, .dead, .dead, .ptr 2 0, .dead, .dead, .dead, .dead, .dead, .dead, .dead, .dead, .dead, .dead, .dead, .dead, .dead, .dead, .dead, .dead, .dead, .dead, .dead, .dead, .dead, .dead, .dead, .dead, .dead, .dead, .dead, .dead, .dead, .dead, .dead, .dead, .dead, .dead, .dead, .dead, .dead, .dead, .dead, .dead, .dead, .dead, .dead, .dead, .dead, .dead, .dead, .dead, .dead, .dead, .dead, .dead, .dead, .dead, .dead, .dead, .dead, .dead, .dead, .dead, .dead, .dead, .dead, .dead, .dead, .dead, .dead, .dead, .dead, .dead, .dead, .dead, .dead, .dead, .dead, .dead, .dead, .dead, .dead, .dead], [some [.hole .str, .hole (.int .i64), .stk], some [.hole (.int .i64), .hole (.int .i64), .hole .str, .nilS, .nilS], some [.hole (.int .i64), .hole (.int .i64), .hole .str, .nilS, .nilS]], []⟩
@[reducible] noncomputable def h20_p3_o0 : Shape := ⟨[.ifc 35 [.agg [.hole (.int .i64)]]], [none], []⟩
@[reducible] noncomputable def h20_p3_o1 : Shape := ⟨[.ptr 0 0, .dead, .ptr 1 0, .dead, .dead, .ptr 2 0, .dead, .dead, .dead, .dead, .dead, .dead, .dead, .dead, .dead, .dead, .dead, .dead, .dead, .dead, .dead, .dead, .dead, .dead, .dead, .dead, .dead, .dead, .dead, .dead, .dead, .dead, .dead, .dead, .dead, .dead, .dead, .dead, .dead, .dead, .dead, .dead, .dead, .dead, .dead, .dead, .dead, .dead, .dead, .dead, .dead, .dead, .dead, .dead, .dead, .dead, .dead, .dead, .dead, .dead, .dead, .dead, .dead, .dead, .dead, .dead, .dead, .dead, .dead, .dead, .dead, .dead, .dead, .dead, .dead, .dead, .dead, .dead, .dead, .dead, .dead, .dead, .dead, .dead, .dead, .dead], [some [.hole .str, .hole (.int .i64), .stk], some [.hole (.int .i64), .hole (.int .i64), .hole .str, .nilS, .nilS], some [.hole (.int .i64), .hole (.int .i64), .hole .str, .nilS, .nilS]], []⟩
@[reducible] noncomputable def h20_p3_outs : List (Ex × Shape) := [(.panic, h20_p3_o0), (.normal, h20_p3_o1)]
@[reducible] noncomputable def h20_p3_a : Ann Try.prog 1 true (f20_c.cr.cr.cr.cr.cr.cl) := (.leaf _)
noncomputable def h20_p3_F (y : h20_p3_sh.den) : Option (OutDen h20_p3_outs) := evA h20_E h20_p3_a (fill h20_p3_sh y) (packOut h20_p3_outs)
theorem h20_p3_ok : PieceSound Try.prog 1 true (f20_c.cr.cr.cr.cr.cr.cl) h20_p3_sh h20_p3_outs h20_p3_F := piece_of (h20_E_okE) h20_p3_a rfl rfl fun _ => rfl
@[reducible] noncomputable def h20_p4_sh : Shape := ⟨[.ptr 0 0, .dead, .ptr 1 0, .dead, .dead, .dead, .dead, .dead, .dead, .dead, .dead, .dead, .dead, .dead, .dead, .dead, .dead, .dead, .dead, .dead, .dead, .dead, .dead, .dead, .dead, .dead, .dead, .dead, .dead, .dead, .dead, .dead, .dead, .dead, .dead, .dead, .dead, .dead, .dead, .dead, .dead, .dead, .dead, .dead, .dead, .dead, .dead, .dead, .dead, .dead, .dead, .dead, .dead, .dead, .dead, .dead, .dead, .dead, .dead, .dead, .dead, .dead, .dead, .dead, .dead, .dead, .dead, .dead, .dead, .dead, .dead, .dead, .dead, .dead, .dead, .dead, .dead, .dead, .dead, .dead, .dead, .dead, .dead, .dead, .dead, .dead], [some [.hole .str, .hole (.int .i64), .stk], some [.hole (.int .i64), .hole (.int .i64), .hole .str, .nilS, .nilS]], []⟩
@[reducible] noncomputable def h20_p4_o0 : Shape := ⟨[.ptr 0 0, .dead, .ptr 1 0, .dead, .dead, .dead, .dead, .dead, .dead, .dead, .dead, .dead, .dead, .dead, .dead, .dead, .dead, .dead, .dead, .dead, .dead, .dead, .dead, .dead, .dead, .dead, .dead, .dead, .dead, .dead, .dead, .dead, .dead, .dead, .dead, .dead, .dead, .dead, .dead, .dead, .dead, .dead, .dead, .dead, .dead, .dead, .dead, .dead, .dead, .dead, .dead, .dead, .dead, .dead, .dead, .dead, .dead, .dead, .dead, .dead, .dead, .dead, .dead, .dead, .dead, .dead, .dead, .dead, .dead, .dead, .dead, .dead, .dead, .dead, .dead, .dead, .dead, .dead, .dead, .dead, .dead, .dead, .dead, .dead, .dead, .dead], [some [.hole .str, .hole (.int .i64), .stk], some [.hole (.int .i64), .hole (.int .i64), .hole .str, .nilS, .nilS]], []⟩
@[reducible] noncomputable def h20_p4_o1 : Shape := ⟨[.ifc 35 [.agg [.hole (.int .i64)]]], [none], []⟩
@[reducible] noncomputable def h20_p4_outs : List (Ex × Shape) := [(.normal, h20_p4_o0), (.panic, h20_p4_o1)]
@[reducible] noncomputable def h20_p4_a : Ann Try.prog 1 true (f20_c.cr.cl) := (.leaf _)
noncomputable def h20_p4_F (y : h20_p4_sh.den) : Option (OutDen h20_p4_outs) := evA h20_E h20_p4_a (fill h20_p4_sh y) (packOut h20_p4_outs)
theorem h20_p4_ok : PieceSound Try.prog 1 true (f20_c.cr.cl) h20_p4_sh h20_p4_outs h20_p4_F := piece_of (h20_E_okE) h20_p4_a rfl rfl fun _ => rfl
@[reducible] noncomputable def h20_I : Shape := ⟨[.ptr 0 0], [some [.hole .str, .hole (.int .i64), .stk]], []⟩
@[reducible] noncomputable def h20_O : Shape := ⟨[.agg [.hole (.int .i64), .hole (.int .i64), .hole .str, .hole (.list .value), .hole (.list .str)], .hole .bool], [some [.hole .str, .hole (.int .i64), .stk]], []⟩
@[reducible] noncomputable def h20_Z : Shape := ⟨[.ifc 35 [.agg [.hole (.int .i64)]]], [none], []⟩
@[reducible] noncomputable def h20_a : Ann Try.prog 1 true f20_c := (.seq (.leaf _) (.seq (.piece _ _ _ h20_p4_ok) (.seq (.leaf _) (.seq (.seq (.leaf _) (.block (.seq (.piece _ _ _ h20_p2_ok) (.leaf _)))) (.seq (.leaf _) (.seq (.piece _ _ _ h20_p3_ok) (.seq (.seq (.piece _ _ _ h20_p0_ok) (.leaf _)) (.seq (.piece _ _ _ h20_p1_ok) (.leaf _)))))))))
noncomputable def h20_F (y : h20_I.den) : Option (h20_O.den ⊕ h20_Z.den) := evFunP h20_E Try.f20 h20_a h20_I h20_O h20_Z y
theorem h20_ok : SoundP Try.prog 20 ⟨h20_I, h20_O, h20_Z, h20_F⟩ := sound_ofP (I := h20_I) (O := h20_O) (Z := h20_Z) (c := f20_c) (h20_E_okE) (by kernel_rfl) (by kernel_rfl) (by kernel_rfl) h20_a rfl rfl (fun _ => rfl)
@[reducible] noncomputable def f24_c : Code := codeOf Try.f24
@[reducible] noncomputable def h24_E : Env := envOfT Try.prog 25 [] [] [] 21
theorem h24_E_okE : EnvOk Try.prog h24_E := envOfT_ok _ _ _ _ top_ok mixed
/-! ### (*imprimatur/parse.stack[imprimatur/api.Value]).pop -/
@[reducible] noncomputable def h24_I : Shape := ⟨[.ptr 0 2], [some [.hole .str, .hole (.int .i64), .stk]], []⟩
@[reducible] noncomputable def h24_O : Shape := ⟨[.agg [.hole (.int .i64), .hole (.int .i64), .hole .str, .whole 0, .whole 1]], [some [.hole .str, .hole (.int .i64), .stk]], [some .value, some .str]⟩
@[reducible] noncomputable def h24_a : Ann Try.prog 1 true f24_c := (.seq (.leaf _) (.seq (.gho [.focus 0 2] [] (.leaf _)) (.seq (.gho [] [.drop 0 2] (.leaf _)) (.leaf _))))
noncomputable def h24_F (y : h24_I.den) : Option h24_O.den := evFunH h24_E Try.f24 h24_a h24_I h24_O y
theorem h24_ok : SoundH Try.prog 24 ⟨h24_I, h24_O, h24_F⟩ := sound_ofH (I := h24_I) (O := h24_O) (c := f24_c) (h24_E_okE) (by kernel_rfl) (by kernel_rfl) (by kernel_rfl) h24_a rfl (fun _ => rfl)
@[reducible] noncomputable def f11_c : Code := codeOf Try.f11
@[reducible] noncomputable def h11_E : Env := envOfT Try.prog 25 [rowOf true f23_ok] [⟨24, _, h24_ok⟩] [⟨20, _, h20_ok⟩, ⟨22, _, h22_ok⟩, ⟨25, _, h25_ok⟩] 21
theorem h11_E_okE : EnvOk Try.prog h11_E := envOfT_ok _ _ _ _ top_ok mixed
/-! ### (*imprimatur/parse.reader).read -/
@[reducible] noncomputable def h11_p0_sh : Shape := ⟨[.ptr 0 0, .dead, .ptr 1 0, .ptr 2 0, .hole .bool, .dead, .dead, .dead, .dead, .dead, .dead, .dead, .dead, .dead, .dead, .dead, .dead, .dead, .dead, .dead, .dead, .dead, .dead, .dead, .dead, .dead, .dead, .dead, .dead, .dead, .dead, .dead, .dead, .dead, .dead, .dead, .dead, .dead, .dead, .dead, .dead, .dead, .dead, .dead, .dead, .dead, .dead, .dead, .dead, .dead, .dead, .dead, .dead, .dead, .dead, .dead], [some [.hole .str, .hole (.int .i64), .stk], some [.hole (.int .i64), .hole (.int .i64), .hole .str, .nilS, .nilS], some [.hole (.int .i64), .hole (.int .i64), .hole .str, .hole (.list .value), .hole (.list .str)]], []⟩
@[reducible] noncomputable def h11_p0_o0 : Shape := ⟨[.ptr 0 0, .dead, .ptr 1 0, .dead, .dead, .dead, .dead, .dead, .dead, .dead, .dead, .dead, .dead, .dead, .dead, .dead, .dead, .dead, .dead, .dead, .dead, .dead, .dead, .dead, .dead, .dead, .dead, .dead, .dead, .dead, .dead, .dead, .dead, .dead, .dead, .dead, .dead, .dead, .dead, .dead, .dead, .dead, .dead, .dead, .dead, .dead, .dead, .dead, .dead, .dead, .dead, .dead, .dead, .dead, .dead, .dead], [some [.hole .str, .hole (.int .i64), .stk], some [.hole (.int .i64), .hole (.int .i64), .hole .str, .nilS, .nilS]], []⟩
@[reducible] noncomputable def h11_p0_o1 : Shape := ⟨[.dead, .dead, .ptr 1 0, .dead, .dead, .dead, .dead, .dead, .dead, .dead, .dead, .dead, .dead, .dead, .dead, .dead, .dead, .dead, .dead, .dead, .dead, .dead, .dead, .dead, .dead, .dead, .dead, .dead, .dead, .dead, .dead, .dead, .dead, .dead, .dead, .dead, .dead, .dead, .dead, .dead, .dead, .dead, .dead, .dead, .dead, .dead, .dead, .dead, .dead, .dead, .dead, .dead, .dead, .dead, .dead, .dead], [some [.hole .str, .hole (.int .i64), .stk], some [.hole (.int .i64), .hole (.int .i64), .hole .str, .hole (.list .value), .hole (.list .str)]], []⟩
@[reducible] noncomputable def h11_p0_o2 : Shape := ⟨[.ifc 35 [.agg [.hole (.int .i64)]]], [none], []⟩
@[reducible] noncomputable def h11_p0_outs : List (Ex × Shape) := [(.exit 2, h11_p0_o0), (.ret, h11_p0_o1), (.panic, h11_p0_o2)]
@[reducible] noncomputable def h11_p0_a : Ann Try.prog 1 true (f11_c.cr.cb.cb.cb.cr.cb.cb) := (.seq (.leaf _) (.block (.seq (.leaf _) (.seq (.gho [.focus 0 2] [] (.leaf _)) (.seq (.leaf _) (.seq (.seq (.leaf _) (.cond (.seq (.gho [.unfocus 0 2] [] (.leaf _)) (.leaf _)) (.leaf _))) (.seq (.leaf _) (.seq (.leaf _) (.gho [.unfocus 0 2] [] (.leaf _))))))))))
noncomputable def h11_p0_st (rec : h11_p0_sh.den → Option (OutDen h11_p0_outs)) (y : h11_p0_sh.den) : Option (OutDen h11_p0_outs) := evA h11_E h11_p0_a (fill h11_p0_sh y) fun ex st => match ex with | .normal => (abs h11_p0_sh st).bind rec | e => packOut h11_p0_outs e st
theorem h11_p0_ok : PieceSound Try.prog 1 true (.loop (f11_c.cr.cb.cb.cb.cr.cb.cb)) h11_p0_sh h11_p0_outs (go h11_p0_st) := go_of (h11_E_okE) h11_p0_a rfl rfl fun _ _ => rfl
@[reducible] noncomputable def h11_p1_sh : Shape := ⟨[.ptr 0 0, .dead, .ptr 1 0, .dead, .dead, .dead, .dead, .dead, .dead, .dead, .dead, .dead, .dead, .dead, .dead, .dead, .dead, .dead, .dead, .dead, .dead, .dead, .dead, .dead, .dead, .dead, .dead, .dead, .dead, .dead, .dead, .dead, .dead, .dead, .dead, .dead, .dead, .dead, .dead, .dead, .dead, .dead, .dead, .dead, .dead, .dead, .dead, .dead, .dead, .dead, .dead, .dead, .dead, .dead, .dead, .dead], [some [.hole .str, .hole (.int .i64), .stk], some [.hole (.int .i64), .hole (.int .i64), .hole .str, .nilS, .nilS]], []⟩
@[reducible] noncomputable def h11_p1_o0 : Shape := ⟨[.ifc 35 [.agg [.hole (.int .i64)]]], [none], []⟩
@[reducible] noncomputable def h11_p1_o1 : Shape := ⟨[.dead, .dead, .ptr 1 0, .dead, .dead, .dead, .dead, .dead, .dead, .dead, .dead, .dead, .dead, .dead, .dead, .dead, .dead, .dead, .dead, .dead, .dead, .dead, .dead, .dead, .dead, .dead, .dead, .dead, .dead, .dead, .dead, .dead, .dead, .dead, .dead, .dead, .dead, .dead, .dead, .dead, .dead, .dead, .dead, .dead, .dead, .dead, .dead, .dead, .dead, .dead, .dead, .dead, .dead, .dead, .dead, .dead], [some [.hole .str, .hole (.int .i64), .stk], some [.hole (.int .i64), .hole (.int .i64), .hole .str, .hole (.list .value), .hole (.list .str)]], []⟩
@[reducible] noncomputable def h11_p1_outs : List (Ex × Shape) := [(.panic, h11_p1_o0), (.ret, h11_p1_o1)]
@[reducible] noncomputable def h11_p1_a : Ann Try.prog 1 true (f11_c.cr.cb.cb) := (.block (.seq (.leaf _) (.block (.piece _ _ _ h11_p0_ok))))
noncomputable def h11_p1_st (rec : h11_p1_sh.den → Option (OutDen h11_p1_outs)) (y : h11_p1_sh.den) : Option (OutDen h11_p1_outs) := evA h11_E h11_p1_a (fill h11_p1_sh y) fun ex st => match ex with | .normal => (abs h11_p1_sh st).bind rec | e => packOut h11_p1_outs e st
theorem h11_p1_ok : PieceSound Try.prog 1 true (.loop (f11_c.cr.cb.cb)) h11_p1_sh h11_p1_outs (go h11_p1_st) := go_of (h11_E_okE) h11_p1_a rfl rfl fun _ _ => rfl
@[reducible] noncomputable def h11_I : Shape := ⟨[.ptr 0 0], [some [.hole .str, .hole (.int .i64), .stk]], []⟩
@[reducible] noncomputable def h11_O : Shape := ⟨[.agg [.hole (.int .i64), .hole (.int .i64), .hole .str, .hole (.list .value), .hole (.list .str)]], [some [.hole .str, .hole (.int .i64), .stk]], []⟩
@[reducible] noncomputable def h11_Z : Shape := ⟨[.ifc 35 [.agg [.hole (.int .i64)]]], [none], []⟩
@[reducible] noncomputable def h11_a : Ann Try.prog 1 true f11_c := (.seq (.leaf _) (.block (.piece _ _ _ h11_p1_ok)))
noncomputable def h11_F (y : h11_I.den) : Option (h11_O.den ⊕ h11_Z.den) := evFunP h11_E Try.f11 h11_a h11_I h11_O h11_Z y
theorem h11_ok : SoundP Try.prog 11 ⟨h11_I, h11_O, h11_Z, h11_F⟩ := sound_ofP (I := h11_I) (O := h11_O) (Z := h11_Z) (c := f11_c) (h11_E_okE) (by kernel_rfl) (by kernel_rfl) (by kernel_rfl) h11_a rfl rfl (fun _ => rfl)
end
end Go.Pe.Try
