/- Texts of the proof, what is used of them: GPd1, GPd1q, ParAd, ParB, ParCd, ParDd, ParEd. -/
import Derived.Test.YtgghmllnhaahgaaDoorProg
import Derived.WalkKit
import Derived.LoopTactic
import Derived.OwnWalk
import Derived.Deep.RegionLaw
import Derived.Below
import Derived.IntWalk
import Derived.Lib.Hide
import Derived.Defers
import Derived.Recover
import Derived.Tactics
import Derived.Tactics2
import Derived.Laws.Pointers
import Derived.Test.YtgghmllnhaahgaaDoorPeZPKeys4
section
namespace Go.Pe.Tryd
open Go.Proofs Go.RowKit
set_option maxRecDepth 100000
noncomputable section
@[reducible] noncomputable def f45_c : Code := codeOf Tryd.f45
@[reducible] noncomputable def h45_E : Env := envOfT Tryd.prog 25 [] [] [] 62
theorem h45_E_okE : EnvOk Tryd.prog h45_E := envOfT_ok _ _ _ _ top_ok mixed
@[reducible] noncomputable def h45_I : Shape := ⟨[.hole (.int .i64)], [], []⟩
@[reducible] noncomputable def h45_O : Shape := ⟨[], [], []⟩
@[reducible] noncomputable def h45_Z : Shape := ⟨[.ifc 68 [.agg [.hole (.int .i64)]]], [], []⟩
@[reducible] noncomputable def h45_a : Ann Tryd.prog 0 true f45_c := (.leaf _)
noncomputable def h45_F (y : h45_I.den) : Option (h45_O.den ⊕ h45_Z.den) := evFunP h45_E Tryd.f45 h45_a h45_I h45_O h45_Z y
theorem h45_ok : SoundP Tryd.prog 45 ⟨h45_I, h45_O, h45_Z, h45_F⟩ := sound_ofP (I := h45_I) (O := h45_O) (Z := h45_Z) (c := f45_c) (h45_E_okE) (by kernel_rfl) (by kernel_rfl) (by kernel_rfl) h45_a rfl rfl (fun _ => rfl)
@[reducible] noncomputable def f81_c : Code := codeOf Tryd.f81
@[reducible] noncomputable def h81_E : Env := envOfT Tryd.prog 25 [] [] [⟨45, _, h45_ok⟩] 62
theorem h81_E_okE : EnvOk Tryd.prog h81_E := envOfT_ok _ _ _ _ top_ok mixed
@[reducible] noncomputable def h81_p0_sh : Shape := ⟨[.ptr 0 0, .dead, .dead, .dead, .dead, .dead, .dead, .dead, .dead, .dead, .dead, .dead, .dead, .dead], [some [.hole .str, .hole (.int .i64), .same]], []⟩
@[reducible] noncomputable def h81_p0_o0 : Shape := ⟨[.ptr 0 0, .dead, .dead, .dead, .dead, .dead, .dead, .dead, .dead, .dead, .dead, .dead, .dead, .dead], [some [.hole .str, .hole (.int .i64), .same]], []⟩
@[reducible] noncomputable def h81_p0_o1 : Shape := ⟨[.ifc 68 [.agg [.hole (.int .i64)]]], [none], []⟩
@[reducible] noncomputable def h81_p0_outs : List (Ex × Shape) := [(.normal, h81_p0_o0), (.panic, h81_p0_o1)]
@[reducible] noncomputable def h81_p0_a : Ann Tryd.prog 1 true (f81_c.cr.cl) := (.leaf _)
noncomputable def h81_p0_F (y : h81_p0_sh.den) : Option (OutDen h81_p0_outs) := evA h81_E h81_p0_a (fill h81_p0_sh y) (packOut h81_p0_outs)
theorem h81_p0_ok : PieceSound Tryd.prog 1 true (f81_c.cr.cl) h81_p0_sh h81_p0_outs h81_p0_F := piece_of (h81_E_okE) h81_p0_a rfl rfl fun _ => rfl
@[reducible] noncomputable def h81_I : Shape := ⟨[.ptr 0 0], [some [.hole .str, .hole (.int .i64), .same]], []⟩
@[reducible] noncomputable def h81_O : Shape := ⟨[.hole (.int .u8)], [some [.hole .str, .hole (.int .i64), .same]], []⟩
@[reducible] noncomputable def h81_Z : Shape := ⟨[.ifc 68 [.agg [.hole (.int .i64)]]], [none], []⟩
@[reducible] noncomputable def h81_a : Ann Tryd.prog 1 true f81_c := (.seq (.leaf _) (.seq (.piece _ _ _ h81_p0_ok) (.leaf _)))
noncomputable def h81_F (y : h81_I.den) : Option (h81_O.den ⊕ h81_Z.den) := evFunP h81_E Tryd.f81 h81_a h81_I h81_O h81_Z y
theorem h81_ok : SoundP Tryd.prog 81 ⟨h81_I, h81_O, h81_Z, h81_F⟩ := sound_ofP (I := h81_I) (O := h81_O) (Z := h81_Z) (c := f81_c) (h81_E_okE) (by kernel_rfl) (by kernel_rfl) (by kernel_rfl) h81_a rfl rfl (fun _ => rfl)
@[reducible] noncomputable def f82_c : Code := codeOf Tryd.f82
@[reducible] noncomputable def f82_E : Env := envOfT Tryd.prog 25 [] [] [] 62
theorem f82_E_okE : EnvOk Tryd.prog f82_E := envOfT_ok _ _ _ _ top_ok mixed
@[reducible] noncomputable def f82_ps : List KD := [.one (.int .u8)]
@[reducible] noncomputable def f82_rs : List KD := [.one .bool]
@[reducible] noncomputable def f82_a : Ann Tryd.prog 0 true f82_c := (.leaf _)
noncomputable def f82_F (y : argsDen f82_ps) : Option (argsDen f82_rs) := evFunA f82_E Tryd.f82 f82_a (encArgs f82_ps y) (decRes f82_rs)
theorem f82_ok : Sound Tryd.prog 82 (pfun f82_F) := sound_of (c := f82_c) (f82_E_okE) (by kernel_rfl) (by kernel_rfl) (by kernel_rfl) f82_a (fun _ => rfl)
@[reducible] noncomputable def f83_c : Code := codeOf Tryd.f83
@[reducible] noncomputable def h83_E : Env := envOfT Tryd.prog 25 [rowOf true f82_ok, rowOf false f23_ok] [] [⟨45, _, h45_ok⟩] 62
theorem h83_E_okE : EnvOk Tryd.prog h83_E := envOfT_ok _ _ _ _ top_ok mixed
@[reducible] noncomputable def h83_p0_sh : Shape := ⟨[.dead, .dead, .ptr 1 0, .hole (.int .i64), .dead, .hole .str, .hole (.int .i64), .dead, .dead, .dead, .dead, .dead, .dead, .dead, .dead, .dead, .dead, .dead, .dead, .dead, .dead, .dead, .dead, .dead, .dead, .dead, .dead, .dead, .dead, .dead, .dead, .dead, .dead, .dead, .dead, .dead, .dead, .dead, .dead, .dead, .dead, .dead, .dead, .dead, .dead, .dead, .dead, .dead, .dead, .dead, .dead, .dead, .dead, .dead, .dead, .dead, .dead, .dead, .dead, .dead, .dead, .dead, .dead, .dead, .dead, .dead, .dead, .dead, .dead, .dead, .dead, .dead, .dead, .dead, .dead, .dead, .dead, .dead, .hole (.int .i64), .hole (.int .i64), .dead, .dead, .dead, .dead, .dead, .dead, .dead, .dead, .dead, .dead, .dead, .dead, .dead, .dead, .dead, .dead, .dead, .dead], [some [.hole .str, .hole (.int .i64), .same], some [.hole (.int .i64), .hole (.int .i64), .hole .str, .nilS, .nilS]], []⟩
@[reducible] noncomputable def h83_p0_o0 : Shape := ⟨[.dead, .dead, .ptr 1 0, .hole (.int .i64), .dead, .dead, .hole (.int .i64), .dead, .dead, .dead, .dead, .dead, .dead, .dead, .dead, .dead, .dead, .dead, .dead, .dead, .dead, .dead, .dead, .dead, .dead, .dead, .dead, .dead, .dead, .dead, .dead, .dead, .dead, .dead, .dead, .dead, .dead, .dead, .dead, .dead, .dead, .dead, .dead, .dead, .dead, .dead, .dead, .dead, .dead, .dead, .dead, .dead, .dead, .dead, .dead, .dead, .dead, .dead, .dead, .dead, .dead, .dead, .dead, .dead, .dead, .dead, .dead, .dead, .dead, .dead, .dead, .dead, .dead, .dead, .dead, .dead, .dead, .dead, .dead, .dead, .dead, .dead, .dead, .dead, .dead, .dead, .dead, .dead, .dead, .dead, .dead, .dead, .dead, .dead, .dead, .dead, .dead, .dead], [some [.hole .str, .hole (.int .i64), .same], some [.hole (.int .i64), .hole (.int .i64), .hole .str, .nilS, .nilS]], []⟩
@[reducible] noncomputable def h83_p0_outs : List (Ex × Shape) := [(.exit 2, h83_p0_o0)]
@[reducible] noncomputable def h83_p0_a : Ann Tryd.prog 1 true (f83_c.cr.cr.cr.cr.cr.cr.cr.cr.cr.cl.cr.cb.cb) := (.leaf _)
noncomputable def h83_p0_st (rec : h83_p0_sh.den → Option (OutDen h83_p0_outs)) (y : h83_p0_sh.den) : Option (OutDen h83_p0_outs) := evA h83_E h83_p0_a (fill h83_p0_sh y) fun ex st => match ex with | .normal => (abs h83_p0_sh st).bind rec | e => packOut h83_p0_outs e st
theorem h83_p0_ok : PieceSound Tryd.prog 1 true (.loop (f83_c.cr.cr.cr.cr.cr.cr.cr.cr.cr.cl.cr.cb.cb)) h83_p0_sh h83_p0_outs (go h83_p0_st) := go_of (h83_E_okE) h83_p0_a rfl rfl fun _ _ => rfl
@[reducible] noncomputable def h83_p1_sh : Shape := ⟨[.dead, .dead, .ptr 1 0, .hole (.int .i64), .dead, .dead, .hole (.int .i64), .dead, .dead, .dead, .dead, .dead, .dead, .dead, .dead, .dead, .dead, .dead, .dead, .dead, .dead, .dead, .dead, .dead, .dead, .dead, .dead, .dead, .dead, .dead, .dead, .dead, .dead, .dead, .dead, .dead, .dead, .dead, .dead, .dead, .dead, .dead, .dead, .dead, .dead, .dead, .dead, .dead, .dead, .dead, .dead, .dead, .dead, .dead, .dead, .dead, .dead, .dead, .dead, .dead, .dead, .dead, .dead, .dead, .dead, .dead, .dead, .dead, .dead, .dead, .dead, .dead, .dead, .dead, .dead, .dead, .dead, .dead, .dead, .dead, .dead, .dead, .dead, .dead, .dead, .dead, .dead, .dead, .dead, .dead, .dead, .dead, .dead, .dead, .dead, .dead, .dead, .dead], [some [.hole .str, .hole (.int .i64), .same], some [.hole (.int .i64), .hole (.int .i64), .hole .str, .nilS, .nilS]], []⟩
@[reducible] noncomputable def h83_p1_o0 : Shape := ⟨[.dead, .dead, .ptr 1 0, .hole (.int .i64), .dead, .dead, .hole (.int .i64), .dead, .dead, .dead, .dead, .dead, .dead, .dead, .dead, .dead, .dead, .dead, .dead, .dead, .dead, .dead, .dead, .dead, .dead, .dead, .dead, .dead, .dead, .dead, .dead, .dead, .dead, .dead, .dead, .dead, .dead, .dead, .dead, .dead, .dead, .dead, .dead, .dead, .dead, .dead, .dead, .dead, .dead, .dead, .dead, .dead, .dead, .dead, .dead, .dead, .dead, .dead, .dead, .dead, .dead, .dead, .dead, .dead, .dead, .dead, .dead, .dead, .dead, .dead, .dead, .dead, .dead, .dead, .dead, .dead, .dead, .dead, .dead, .dead, .dead, .dead, .dead, .dead, .dead, .dead, .dead, .dead, .dead, .dead, .dead, .dead, .dead, .dead, .dead, .dead, .dead, .dead], [some [.hole .str, .hole (.int .i64), .same], some [.hole (.int .i64), .hole (.int .i64), .hole .str, .nilS, .nilS]], []⟩
@[reducible] noncomputable def h83_p1_o1 : Shape := ⟨[.ifc 68 [.agg [.hole (.int .i64)]]], [none], []⟩
@[reducible] noncomputable def h83_p1_outs : List (Ex × Shape) := [(.normal, h83_p1_o0), (.panic, h83_p1_o1)]
@[reducible] noncomputable def h83_p1_a : Ann Tryd.prog 1 true (f83_c.cr.cr.cr.cr.cr.cr.cr.cr.cr.cr.cl) := (.leaf _)
noncomputable def h83_p1_F (y : h83_p1_sh.den) : Option (OutDen h83_p1_outs) := evA h83_E h83_p1_a (fill h83_p1_sh y) (packOut h83_p1_outs)
theorem h83_p1_ok : PieceSound Tryd.prog 1 true (f83_c.cr.cr.cr.cr.cr.cr.cr.cr.cr.cr.cl) h83_p1_sh h83_p1_outs h83_p1_F := piece_of (h83_E_okE) h83_p1_a rfl rfl fun _ => rfl
@[reducible] noncomputable def h83_p2_sh : Shape := ⟨[.dead, .dead, .ptr 1 0, .hole (.int .i64), .hole (.int .i64), .hole .str, .dead, .dead, .dead, .dead, .dead, .dead, .dead, .dead, .dead, .dead, .dead, .dead, .dead, .dead, .dead, .dead, .dead, .dead, .dead, .dead, .dead, .dead, .dead, .dead, .dead, .dead, .dead, .dead, .dead, .dead, .dead, .dead, .dead, .dead, .dead, .dead, .dead, .dead, .dead, .dead, .dead, .dead, .dead, .dead, .dead, .dead, .dead, .dead, .dead, .dead, .dead, .dead, .dead, .dead, .dead, .dead, .dead, .dead, .dead, .dead, .dead, .dead, .dead, .dead, .dead, .dead, .dead, .dead, .dead, .dead, .dead, .dead, .dead, .dead, .dead, .dead, .dead, .dead, .dead, .dead, .dead, .dead, .dead, .dead, .dead, .dead, .dead, .dead, .dead, .dead, .dead, .dead], [some [.hole .str, .hole (.int .i64), .same], some [.hole (.int .i64), .hole (.int .i64), .hole .str, .nilS, .nilS]], []⟩
@[reducible] noncomputable def h83_p2_o0 : Shape := ⟨[.dead, .dead, .ptr 1 0, .hole (.int .i64), .hole (.int .i64), .hole .str, .dead, .dead, .dead, .dead, .dead, .dead, .dead, .dead, .dead, .dead, .dead, .dead, .dead, .dead, .dead, .dead, .dead, .dead, .dead, .dead, .dead, .dead, .dead, .dead, .dead, .dead, .dead, .dead, .dead, .dead, .dead, .dead, .dead, .dead, .dead, .dead, .dead, .dead, .dead, .dead, .dead, .dead, .dead, .dead, .dead, .dead, .dead, .dead, .dead, .dead, .dead, .dead, .dead, .dead, .dead, .dead, .dead, .dead, .dead, .dead, .dead, .dead, .dead, .dead, .dead, .dead, .dead, .hole .bool, .dead, .dead, .dead, .dead, .dead, .dead, .dead, .dead, .dead, .dead, .dead, .dead, .dead, .dead, .dead, .dead, .dead, .dead, .dead, .dead, .dead, .dead, .dead, .dead], [some [.hole .str, .hole (.int .i64), .same], some [.hole (.int .i64), .hole (.int .i64), .hole .str, .nilS, .nilS]], []⟩
@[reducible] noncomputable def h83_p2_outs : List (Ex × Shape) := [(.normal, h83_p2_o0)]
@[reducible] noncomputable def h83_p2_a : Ann Tryd.prog 1 true (f83_c.cr.cr.cr.cr.cr.cr.cl.cr.cl) := (.leaf _)
noncomputable def h83_p2_F (y : h83_p2_sh.den) : Option (OutDen h83_p2_outs) := evA h83_E h83_p2_a (fill h83_p2_sh y) (packOut h83_p2_outs)
theorem h83_p2_ok : PieceSound Tryd.prog 1 true (f83_c.cr.cr.cr.cr.cr.cr.cl.cr.cl) h83_p2_sh h83_p2_outs h83_p2_F := piece_of (h83_E_okE) h83_p2_a rfl rfl fun _ => rfl
@[reducible] noncomputable def h83_p3_sh : Shape := ⟨[.dead, .dead, .ptr 1 0, .hole (.int .i64), .hole (.int .i64), .hole .str, .hole (.int .i64), .dead, .dead, .dead, .dead, .dead, .dead, .dead, .dead, .dead, .dead, .dead, .dead, .dead, .dead, .dead, .dead, .dead, .dead, .dead, .dead, .dead, .dead, .dead, .dead, .dead, .dead, .dead, .dead, .dead, .dead, .dead, .dead, .dead, .dead, .dead, .dead, .dead, .dead, .dead, .dead, .dead, .dead, .dead, .dead, .dead, .dead, .dead, .dead, .dead, .dead, .dead, .dead, .dead, .dead, .dead, .dead, .dead, .dead, .dead, .dead, .dead, .dead, .dead, .dead, .dead, .dead, .dead, .dead, .dead, .dead, .dead, .dead, .dead, .dead, .dead, .dead, .dead, .dead, .dead, .dead, .dead, .dead, .dead, .dead, .dead, .dead, .dead, .dead, .dead, .dead, .dead], [some [.hole .str, .hole (.int .i64), .same], some [.hole (.int .i64), .hole (.int .i64), .hole .str, .nilS, .nilS]], []⟩
@[reducible] noncomputable def h83_p3_o0 : Shape := ⟨[.dead, .dead, .ptr 1 0, .hole (.int .i64), .hole (.int .i64), .hole .str, .hole (.int .i64), .dead, .dead, .dead, .dead, .dead, .dead, .dead, .dead, .dead, .dead, .dead, .dead, .dead, .dead, .dead, .dead, .dead, .dead, .dead, .dead, .dead, .dead, .dead, .dead, .dead, .dead, .dead, .dead, .dead, .dead, .dead, .dead, .dead, .dead, .dead, .dead, .dead, .dead, .dead, .dead, .dead, .dead, .dead, .dead, .dead, .dead, .dead, .dead, .dead, .dead, .dead, .dead, .dead, .dead, .dead, .dead, .dead, .dead, .dead, .dead, .dead, .dead, .dead, .dead, .dead, .dead, .dead, .dead, .dead, .dead, .dead, .dead, .dead, .dead, .dead, .dead, .dead, .dead, .dead, .dead, .dead, .dead, .dead, .dead, .dead, .dead, .dead, .dead, .dead, .dead, .dead], [some [.hole .str, .hole (.int .i64), .same], some [.hole (.int .i64), .hole (.int .i64), .hole .str, .nilS, .nilS]], []⟩
@[reducible] noncomputable def h83_p3_o1 : Shape := ⟨[.ifc 68 [.agg [.hole (.int .i64)]]], [none], []⟩
@[reducible] noncomputable def h83_p3_outs : List (Ex × Shape) := [(.normal, h83_p3_o0), (.panic, h83_p3_o1)]
@[reducible] noncomputable def h83_p3_a : Ann Tryd.prog 1 true (f83_c.cr.cr.cr.cr.cr.cr.cr.cr.cl) := (.leaf _)
noncomputable def h83_p3_F (y : h83_p3_sh.den) : Option (OutDen h83_p3_outs) := evA h83_E h83_p3_a (fill h83_p3_sh y) (packOut h83_p3_outs)
theorem h83_p3_ok : PieceSound Tryd.prog 1 true (f83_c.cr.cr.cr.cr.cr.cr.cr.cr.cl) h83_p3_sh h83_p3_outs h83_p3_F := piece_of (h83_E_okE) h83_p3_a rfl rfl fun _ => rfl
@[reducible] noncomputable def h83_p4_sh : Shape := ⟨[.ptr 0 0, .dead, .ptr 1 0, .hole (.int .i64), .hole (.int .i64), .hole .str, .dead, .dead, .dead, .dead, .dead, .dead, .dead, .dead, .dead, .dead, .dead, .dead, .dead, .dead, .dead, .dead, .dead, .dead, .dead, .dead, .dead, .dead, .dead, .dead, .dead, .dead, .dead, .dead, .dead, .dead, .dead, .dead, .dead, .dead, .dead, .dead, .dead, .dead, .dead, .dead, .dead, .dead, .dead, .dead, .dead, .dead, .dead, .dead, .dead, .dead, .dead, .dead, .dead, .dead, .dead, .dead, .dead, .dead, .dead, .dead, .dead, .dead, .dead, .dead, .dead, .dead, .dead, .dead, .dead, .dead, .dead, .dead, .dead, .dead, .dead, .dead, .dead, .dead, .dead, .dead, .dead, .dead, .dead, .dead, .dead, .dead, .dead, .dead, .dead, .dead, .dead, .dead], [some [.hole .str, .hole (.int .i64), .same], some [.hole (.int .i64), .hole (.int .i64), .hole .str, .nilS, .nilS]], []⟩
@[reducible] noncomputable def h83_p4_o0 : Shape := ⟨[.dead, .dead, .ptr 1 0, .hole (.int .i64), .hole (.int .i64), .hole .str, .dead, .dead, .dead, .dead, .dead, .dead, .dead, .dead, .dead, .dead, .dead, .dead, .dead, .dead, .dead, .dead, .dead, .dead, .dead, .dead, .dead, .dead, .dead, .dead, .dead, .dead, .dead, .dead, .dead, .dead, .dead, .dead, .dead, .dead, .dead, .dead, .dead, .dead, .dead, .dead, .dead, .dead, .dead, .dead, .dead, .dead, .dead, .dead, .dead, .dead, .dead, .dead, .dead, .dead, .dead, .dead, .dead, .dead, .dead, .dead, .dead, .dead, .dead, .dead, .dead, .dead, .dead, .dead, .dead, .dead, .dead, .dead, .dead, .dead, .dead, .dead, .dead, .dead, .dead, .dead, .dead, .dead, .dead, .dead, .dead, .dead, .dead, .dead, .dead, .dead, .dead, .dead], [some [.hole .str, .hole (.int .i64), .same], some [.hole (.int .i64), .hole (.int .i64), .hole .str, .nilS, .nilS]], []⟩
@[reducible] noncomputable def h83_p4_o1 : Shape := ⟨[.ifc 68 [.agg [.hole (.int .i64)]]], [none], []⟩
@[reducible] noncomputable def h83_p4_outs : List (Ex × Shape) := [(.normal, h83_p4_o0), (.panic, h83_p4_o1)]
@[reducible] noncomputable def h83_p4_a : Ann Tryd.prog 1 true (f83_c.cr.cr.cr.cr.cr.cr.cl) := (.seq (.leaf _) (.seq (.piece _ _ _ h83_p2_ok) (.leaf _)))
noncomputable def h83_p4_F (y : h83_p4_sh.den) : Option (OutDen h83_p4_outs) := evA h83_E h83_p4_a (fill h83_p4_sh y) (packOut h83_p4_outs)
theorem h83_p4_ok : PieceSound Tryd.prog 1 true (f83_c.cr.cr.cr.cr.cr.cr.cl) h83_p4_sh h83_p4_outs h83_p4_F := piece_of (h83_E_okE) h83_p4_a rfl rfl fun _ => rfl
@[reducible] noncomputable def h83_p5_sh : Shape := ⟨[.ptr 0 0, .dead, .ptr 1 0, .hole (.int .i64), .hole (.int .i64), .dead, .dead, .dead, .dead, .dead, .dead, .dead, .dead, .dead, .dead, .dead, .dead, .dead, .dead, .dead, .dead, .dead, .dead, .dead, .dead, .dead, .dead, .dead, .dead, .dead, .dead, .dead, .dead, .dead, .dead, .dead, .dead, .dead, .dead, .dead, .dead, .dead, .dead, .dead, .dead, .dead, .dead, .dead, .dead, .dead, .dead, .dead, .dead, .dead, .dead, .dead, .dead, .dead, .dead, .dead, .dead, .dead, .dead, .dead, .dead, .dead, .dead, .dead, .dead, .dead, .dead, .dead, .dead, .dead, .dead, .dead, .dead, .dead, .dead, .dead, .dead, .dead, .dead, .dead, .dead, .dead, .dead, .dead, .dead, .dead, .dead, .dead, .dead, .dead, .dead, .dead, .dead, .dead], [some [.hole .str, .hole (.int .i64), .same], some [.hole (.int .i64), .hole (.int .i64), .hole .str, .nilS, .nilS]], []⟩
@[reducible] noncomputable def h83_p5_o0 : Shape := ⟨[.ptr 0 0, .dead, .ptr 1 0, .hole (.int .i64), .hole (.int .i64), .dead, .dead, .dead, .dead, .dead, .dead, .dead, .dead, .dead, .dead, .dead, .dead, .dead, .dead, .dead, .dead, .dead, .dead, .dead, .dead, .dead, .dead, .dead, .dead, .dead, .dead, .dead, .dead, .dead, .dead, .dead, .dead, .dead, .dead, .dead, .dead, .dead, .dead, .dead, .dead, .dead, .dead, .dead, .dead, .dead, .dead, .dead, .dead, .dead, .dead, .dead, .dead, .dead, .dead, .dead, .dead, .dead, .dead, .dead, .dead, .dead, .dead, .dead, .dead, .dead, .dead, .dead, .dead, .dead, .dead, .dead, .dead, .dead, .dead, .dead, .dead, .dead, .dead, .dead, .dead, .dead, .dead, .dead, .dead, .dead, .dead, .dead, .dead, .dead, .dead, .dead, .dead, .dead], [some [.hole .str, .hole (.int .i64), .same], some [.hole (.int .i64), .hole (.int .i64), .hole .str, .nilS, .nilS]], []⟩
@[reducible] noncomputable def h83_p5_outs : List (Ex × Shape) := [(.exit 0, h83_p5_o0)]
@[reducible] noncomputable def h83_p5_a : Ann Tryd.prog 1 true (f83_c.cr.cr.cr.cr.cl.cb.cb) := (.leaf _)
noncomputable def h83_p5_st (rec : h83_p5_sh.den → Option (OutDen h83_p5_outs)) (y : h83_p5_sh.den) : Option (OutDen h83_p5_outs) := evA h83_E h83_p5_a (fill h83_p5_sh y) fun ex st => match ex with | .normal => (abs h83_p5_sh st).bind rec | e => packOut h83_p5_outs e st
theorem h83_p5_ok : PieceSound Tryd.prog 1 true (.loop (f83_c.cr.cr.cr.cr.cl.cb.cb)) h83_p5_sh h83_p5_outs (go h83_p5_st) := go_of (h83_E_okE) h83_p5_a rfl rfl fun _ _ => rfl
@[reducible] noncomputable def h83_p6_sh : Shape := ⟨[.ptr 0 0, .dead, .ptr 1 0, .hole (.int .i64), .dead, .dead, .dead, .dead, .dead, .dead, .dead, .dead, .dead, .dead, .dead, .dead, .dead, .dead, .dead, .dead, .dead, .dead, .dead, .dead, .dead, .dead, .dead, .dead, .dead, .dead, .dead, .dead, .dead, .dead, .dead, .dead, .dead, .dead, .dead, .dead, .dead, .dead, .dead, .dead, .dead, .dead, .dead, .dead, .dead, .dead, .dead, .dead, .dead, .dead, .dead, .dead, .dead, .dead, .dead, .dead, .dead, .dead, .dead, .dead, .dead, .dead, .dead, .dead, .dead, .dead, .dead, .dead, .dead, .dead, .dead, .dead, .dead, .dead, .dead, .dead, .dead, .dead, .dead, .dead, .dead, .dead, .dead, .dead, .dead, .dead, .dead, .dead, .dead, .dead, .dead, .dead, .dead, .dead], [some [.hole .str, .hole (.int .i64), .same], some [.hole (.int .i64), .hole (.int .i64), .hole .str, .nilS, .nilS]], []⟩
@[reducible] noncomputable def h83_p6_o0 : Shape := ⟨[.ptr 0 0, .dead, .ptr 1 0, .hole (.int .i64), .dead, .dead, .dead, .dead, .dead, .dead, .dead, .dead, .dead, .dead, .dead, .dead, .dead, .dead, .dead, .dead, .dead, .dead, .dead, .dead, .dead, .dead, .dead, .dead, .dead, .dead, .dead, .dead, .dead, .dead, .dead, .dead, .dead, .dead, .dead, .dead, .dead, .dead, .dead, .dead, .dead, .dead, .dead, .dead, .dead, .dead, .dead, .dead, .dead, .dead, .dead, .dead, .dead, .dead, .dead, .dead, .dead, .dead, .dead, .dead, .dead, .dead, .dead, .dead, .dead, .dead, .dead, .dead, .dead, .dead, .dead, .dead, .dead, .dead, .dead, .dead, .dead, .dead, .dead, .dead, .dead, .dead, .dead, .dead, .dead, .dead, .dead, .dead, .dead, .dead, .dead, .dead, .dead, .dead], [some [.hole .str, .hole (.int .i64), .same], some [.hole (.int .i64), .hole (.int .i64), .hole .str, .nilS, .nilS]], []⟩
@[reducible] noncomputable def h83_p6_outs : List (Ex × Shape) := [(.normal, h83_p6_o0)]
@[reducible] noncomputable def h83_p6_a : Ann Tryd.prog 1 true (f83_c.cr.cr.cl) := (.leaf _)
noncomputable def h83_p6_F (y : h83_p6_sh.den) : Option (OutDen h83_p6_outs) := evA h83_E h83_p6_a (fill h83_p6_sh y) (packOut h83_p6_outs)
theorem h83_p6_ok : PieceSound Tryd.prog 1 true (f83_c.cr.cr.cl) h83_p6_sh h83_p6_outs h83_p6_F := piece_of (h83_E_okE) h83_p6_a rfl rfl fun _ => rfl
@[reducible] noncomputable def h83_I : Shape := ⟨[.ptr 0 0], [some [.hole .str, .hole (.int .i64), .same]], []⟩
@[reducible] noncomputable def h83_O : Shape := ⟨[.agg [.hole (.int .i64), .hole (.int .i64), .hole .str, .hole (.list .value), .hole (.list .str)]], [some [.hole .str, .hole (.int .i64), .same]], []⟩
@[reducible] noncomputable def h83_Z : Shape := ⟨[.ifc 68 [.agg [.hole (.int .i64)]]], [none], []⟩
@[reducible] noncomputable def h83_a : Ann Tryd.prog 1 true f83_c := (.seq (.leaf _) (.seq (.leaf _) (.seq (.piece _ _ _ h83_p6_ok) (.seq (.leaf _) (.seq (.block (.piece _ _ _ h83_p5_ok)) (.seq (.leaf _) (.seq (.piece _ _ _ h83_p4_ok) (.seq (.leaf _) (.seq (.piece _ _ _ h83_p3_ok) (.seq (.seq (.leaf _) (.block (.piece _ _ _ h83_p0_ok))) (.seq (.piece _ _ _ h83_p1_ok) (.leaf _))))))))))))
noncomputable def h83_F (y : h83_I.den) : Option (h83_O.den ⊕ h83_Z.den) := evFunP h83_E Tryd.f83 h83_a h83_I h83_O h83_Z y
theorem h83_ok : SoundP Tryd.prog 83 ⟨h83_I, h83_O, h83_Z, h83_F⟩ := sound_ofP (I := h83_I) (O := h83_O) (Z := h83_Z) (c := f83_c) (h83_E_okE) (by kernel_rfl) (by kernel_rfl) (by kernel_rfl) h83_a rfl rfl (fun _ => rfl)
@[reducible] noncomputable def f104_c : Code := codeOf Tryd.f104
@[reducible] noncomputable def f104_E : Env := envOfT Tryd.prog 25 [] [] [] 62
theorem f104_E_okE : EnvOk Tryd.prog f104_E := envOfT_ok _ _ _ _ top_ok mixed
@[reducible] noncomputable def f104_p0_sh : Shape := ⟨[.hole (.list (.int .u8)), .hole (.int .u8), .dead, .dead, .dead, .dead, .dead, .hole (.int .i64), .hole (.int .i64), .dead, .dead, .dead, .dead, .dead, .dead, .dead, .dead, .dead, .dead], [], []⟩
@[reducible] noncomputable def f104_p0_o0 : Shape := ⟨[.dead, .dead, .dead, .dead, .dead, .dead, .dead, .dead, .dead, .dead, .dead, .dead, .dead, .dead, .dead, .dead, .dead, .dead, .dead], [], []⟩
@[reducible] noncomputable def f104_p0_o1 : Shape := ⟨[.dead, .dead, .dead, .dead, .hole (.int .i64), .dead, .dead, .dead, .dead, .dead, .dead, .dead, .dead, .dead, .dead, .dead, .dead, .dead, .dead], [], []⟩
@[reducible] noncomputable def f104_p0_outs : List (Ex × Shape) := [(.exit 0, f104_p0_o0), (.ret, f104_p0_o1)]
@[reducible] noncomputable def f104_p0_a : Ann Tryd.prog 0 true (f104_c.cr.cl.cr.cb.cb) := (.leaf _)
noncomputable def f104_p0_st (rec : f104_p0_sh.den → Option (OutDen f104_p0_outs)) (y : f104_p0_sh.den) : Option (OutDen f104_p0_outs) := evA f104_E f104_p0_a (fill f104_p0_sh y) fun ex st => match ex with | .normal => (abs f104_p0_sh st).bind rec | e => packOut f104_p0_outs e st
theorem f104_p0_ok : PieceSound Tryd.prog 0 true (.loop (f104_c.cr.cl.cr.cb.cb)) f104_p0_sh f104_p0_outs (go f104_p0_st) := go_of (f104_E_okE) f104_p0_a rfl rfl fun _ _ => rfl
@[reducible] noncomputable def f104_ps : List KD := [.one (.list (.int .u8)), .one (.int .u8)]
@[reducible] noncomputable def f104_rs : List KD := [.one (.int .i64)]
@[reducible] noncomputable def f104_a : Ann Tryd.prog 0 true f104_c := (.seq (.leaf _) (.seq (.seq (.leaf _) (.block (.piece _ _ _ f104_p0_ok))) (.leaf _)))
noncomputable def f104_F (y : argsDen f104_ps) : Option (argsDen f104_rs) := evFunA f104_E Tryd.f104 f104_a (encArgs f104_ps y) (decRes f104_rs)
theorem f104_ok : Sound Tryd.prog 104 (pfun f104_F) := sound_of (c := f104_c) (f104_E_okE) (by kernel_rfl) (by kernel_rfl) (by kernel_rfl) f104_a (fun _ => rfl)
@[reducible] noncomputable def f86_c : Code := codeOf Tryd.f86
@[reducible] noncomputable def f86_E : Env := envOfT Tryd.prog 25 [rowOf true f104_ok] [] [] 62
theorem f86_E_okE : EnvOk Tryd.prog f86_E := envOfT_ok _ _ _ _ top_ok mixed
@[reducible] noncomputable def f86_ps : List KD := [.one (.list (.int .u8)), .one (.int .u8)]
@[reducible] noncomputable def f86_rs : List KD := [.one .bool]
@[reducible] noncomputable def f86_a : Ann Tryd.prog 0 true f86_c := (.leaf _)
noncomputable def f86_F (y : argsDen f86_ps) : Option (argsDen f86_rs) := evFunA f86_E Tryd.f86 f86_a (encArgs f86_ps y) (decRes f86_rs)
theorem f86_ok : Sound Tryd.prog 86 (pfun f86_F) := sound_of (c := f86_c) (f86_E_okE) (by kernel_rfl) (by kernel_rfl) (by kernel_rfl) f86_a (fun _ => rfl)
@[reducible] noncomputable def f63_c : Code := codeOf Tryd.f63
@[reducible] noncomputable def h63_E : Env := envOfT Tryd.prog 25 [rowOf true f86_ok] [] [⟨81, _, h81_ok⟩, ⟨45, _, h45_ok⟩] 62
theorem h63_E_okE : EnvOk Tryd.prog h63_E := envOfT_ok _ _ _ _ top_ok mixed
@[reducible] noncomputable def h63_p0_sh : Shape := ⟨[.ptr 0 0, .hole .str, .dead, .dead, .dead, .hole (.int .u8), .dead, .dead, .dead, .dead, .dead, .dead, .dead, .dead, .dead, .dead, .dead, .dead, .dead, .dead, .dead, .dead, .dead], [some [.hole .str, .hole (.int .i64), .same]], []⟩
@[reducible] noncomputable def h63_p0_o0 : Shape := ⟨[.ptr 0 0, .dead, .dead, .dead, .dead, .hole (.int .u8), .dead, .dead, .dead, .dead, .dead, .dead, .dead, .dead, .dead, .dead, .dead, .dead, .dead, .dead, .dead, .dead, .dead], [some [.hole .str, .hole (.int .i64), .same]], []⟩
@[reducible] noncomputable def h63_p0_o1 : Shape := ⟨[.ifc 68 [.agg [.hole (.int .i64)]]], [none], []⟩
@[reducible] noncomputable def h63_p0_outs : List (Ex × Shape) := [(.normal, h63_p0_o0), (.panic, h63_p0_o1)]
@[reducible] noncomputable def h63_p0_a : Ann Tryd.prog 1 true (f63_c.cr.cr.cl) := (.leaf _)
noncomputable def h63_p0_F (y : h63_p0_sh.den) : Option (OutDen h63_p0_outs) := evA h63_E h63_p0_a (fill h63_p0_sh y) (packOut h63_p0_outs)
theorem h63_p0_ok : PieceSound Tryd.prog 1 true (f63_c.cr.cr.cl) h63_p0_sh h63_p0_outs h63_p0_F := piece_of (h63_E_okE) h63_p0_a rfl rfl fun _ => rfl
@[reducible] noncomputable def h63_I : Shape := ⟨[.ptr 0 0, .hole .str], [some [.hole .str, .hole (.int .i64), .same]], []⟩
@[reducible] noncomputable def h63_O : Shape := ⟨[.hole (.int .u8)], [some [.hole .str, .hole (.int .i64), .same]], []⟩
@[reducible] noncomputable def h63_Z : Shape := ⟨[.ifc 68 [.agg [.hole (.int .i64)]]], [none], []⟩
@[reducible] noncomputable def h63_a : Ann Tryd.prog 1 true f63_c := (.seq (.leaf _) (.seq (.leaf _) (.seq (.piece _ _ _ h63_p0_ok) (.leaf _))))
noncomputable def h63_F (y : h63_I.den) : Option (h63_O.den ⊕ h63_Z.den) := evFunP h63_E Tryd.f63 h63_a h63_I h63_O h63_Z y
theorem h63_ok : SoundP Tryd.prog 63 ⟨h63_I, h63_O, h63_Z, h63_F⟩ := sound_ofP (I := h63_I) (O := h63_O) (Z := h63_Z) (c := f63_c) (h63_E_okE) (by kernel_rfl) (by kernel_rfl) (by kernel_rfl) h63_a rfl rfl (fun _ => rfl)
@[reducible] noncomputable def f84_c : Code := codeOf Tryd.f84
@[reducible] noncomputable def h84_E : Env := envOfT Tryd.prog 25 [] [] [⟨63, _, h63_ok⟩, ⟨81, _, h81_ok⟩, ⟨45, _, h45_ok⟩] 62
theorem h84_E_okE : EnvOk Tryd.prog h84_E := envOfT_ok _ _ _ _ top_ok mixed
@[reducible] noncomputable def h84_p0_sh : Shape := ⟨[.ptr 0 0, .dead, .dead, .whole 0, .hole (.int .u8), .dead, .dead, .dead, .dead, .dead, .dead, .dead, .dead, .dead, .dead, .dead, .dead, .dead, .dead, .dead, .dead, .dead, .dead, .dead, .dead, .dead, .dead, .dead, .dead, .dead, .dead, .dead, .dead, .dead, .dead, .dead, .dead], [some [.hole .str, .hole (.int .i64), .same]], [some (.int .u8)]⟩
@[reducible] noncomputable def h84_p0_o0 : Shape := ⟨[.ptr 0 0, .dead, .dead, .whole 0, .hole (.int .u8), .dead, .dead, .dead, .dead, .dead, .dead, .dead, .dead, .dead, .dead, .dead, .dead, .dead, .dead, .dead, .dead, .dead, .dead, .dead, .dead, .dead, .dead, .dead, .dead, .dead, .dead, .dead, .dead, .dead, .dead, .dead, .dead], [some [.hole .str, .hole (.int .i64), .same]], [some (.int .u8)]⟩
@[reducible] noncomputable def h84_p0_o1 : Shape := ⟨[.ifc 68 [.agg [.hole (.int .i64)]]], [none], []⟩
@[reducible] noncomputable def h84_p0_outs : List (Ex × Shape) := [(.normal, h84_p0_o0), (.panic, h84_p0_o1)]
@[reducible] noncomputable def h84_p0_a : Ann Tryd.prog 1 true (f84_c.cr.cr.cr.cb.cb.cb.cr.cr.cr.cr.cl) := (.leaf _)
noncomputable def h84_p0_F (y : h84_p0_sh.den) : Option (OutDen h84_p0_outs) := evA h84_E h84_p0_a (fill h84_p0_sh y) (packOut h84_p0_outs)
theorem h84_p0_ok : PieceSound Tryd.prog 1 true (f84_c.cr.cr.cr.cb.cb.cb.cr.cr.cr.cr.cl) h84_p0_sh h84_p0_outs h84_p0_F := piece_of (h84_E_okE) h84_p0_a rfl rfl fun _ => rfl
@[reducible] noncomputable def h84_p1_sh : Shape := ⟨[.ptr 0 0, .dead, .dead, .whole 0, .hole (.int .u8), .dead, .dead, .dead, .dead, .dead, .dead, .dead, .dead, .dead, .dead, .dead, .dead, .dead, .dead, .dead, .dead, .dead, .dead, .dead, .dead, .dead, .dead, .dead, .dead, .dead, .dead, .dead, .dead, .dead, .dead, .dead, .dead], [some [.hole .str, .hole (.int .i64), .same]], [some (.int .u8)]⟩
@[reducible] noncomputable def h84_p1_o0 : Shape := ⟨[.dead, .dead, .hole .str, .dead, .dead, .dead, .dead, .dead, .dead, .dead, .dead, .dead, .dead, .dead, .dead, .dead, .dead, .dead, .dead, .dead, .dead, .dead, .dead, .dead, .dead, .dead, .dead, .dead, .dead, .dead, .dead, .dead, .dead, .dead, .dead, .dead, .dead], [some [.hole .str, .hole (.int .i64), .same]], []⟩
@[reducible] noncomputable def h84_p1_o1 : Shape := ⟨[.ptr 0 0, .dead, .dead, .whole 0, .hole (.int .u8), .dead, .dead, .dead, .dead, .dead, .dead, .dead, .dead, .dead, .dead, .dead, .dead, .dead, .dead, .dead, .dead, .dead, .dead, .dead, .dead, .dead, .dead, .dead, .dead, .dead, .dead, .dead, .dead, .dead, .dead, .dead, .dead], [some [.hole .str, .hole (.int .i64), .same]], [some (.int .u8)]⟩
@[reducible] noncomputable def h84_p1_o2 : Shape := ⟨[.ifc 68 [.agg [.hole (.int .i64)]]], [none], []⟩
@[reducible] noncomputable def h84_p1_outs : List (Ex × Shape) := [(.ret, h84_p1_o0), (.normal, h84_p1_o1), (.panic, h84_p1_o2)]
@[reducible] noncomputable def h84_p1_a : Ann Tryd.prog 1 true (f84_c.cr.cr.cr.cb.cb.cb.cr.cr.cr.cl) := (.leaf _)
noncomputable def h84_p1_F (y : h84_p1_sh.den) : Option (OutDen h84_p1_outs) := evA h84_E h84_p1_a (fill h84_p1_sh y) (packOut h84_p1_outs)
theorem h84_p1_ok : PieceSound Tryd.prog 1 true (f84_c.cr.cr.cr.cb.cb.cb.cr.cr.cr.cl) h84_p1_sh h84_p1_outs h84_p1_F := piece_of (h84_E_okE) h84_p1_a rfl rfl fun _ => rfl
@[reducible] noncomputable def h84_p2_sh : Shape := ⟨[.ptr 0 0, .dead, .dead, .whole 0, .hole (.int .u8), .dead, .dead, .dead, .dead, .dead, .dead, .dead, .dead, .dead, .dead, .dead, .dead, .dead, .dead, .dead, .dead, .dead, .dead, .dead, .dead, .dead, .dead, .dead, .dead, .dead, .dead, .dead, .dead, .dead, .dead, .dead, .dead], [some [.hole .str, .hole (.int .i64), .same]], [some (.int .u8)]⟩
@[reducible] noncomputable def h84_p2_o0 : Shape := ⟨[.ptr 0 0, .dead, .dead, .whole 0, .hole (.int .u8), .dead, .dead, .dead, .dead, .dead, .dead, .dead, .dead, .dead, .dead, .dead, .dead, .dead, .dead, .dead, .dead, .dead, .dead, .dead, .dead, .dead, .dead, .dead, .dead, .dead, .dead, .dead, .dead, .dead, .dead, .dead, .dead], [some [.hole .str, .hole (.int .i64), .same]], [some (.int .u8)]⟩
@[reducible] noncomputable def h84_p2_o1 : Shape := ⟨[.ifc 68 [.agg [.hole (.int .i64)]]], [none], []⟩
@[reducible] noncomputable def h84_p2_outs : List (Ex × Shape) := [(.normal, h84_p2_o0), (.panic, h84_p2_o1)]
@[reducible] noncomputable def h84_p2_a : Ann Tryd.prog 1 true (f84_c.cr.cr.cr.cb.cb.cb.cr.cl) := (.leaf _)
noncomputable def h84_p2_F (y : h84_p2_sh.den) : Option (OutDen h84_p2_outs) := evA h84_E h84_p2_a (fill h84_p2_sh y) (packOut h84_p2_outs)
theorem h84_p2_ok : PieceSound Tryd.prog 1 true (f84_c.cr.cr.cr.cb.cb.cb.cr.cl) h84_p2_sh h84_p2_outs h84_p2_F := piece_of (h84_E_okE) h84_p2_a rfl rfl fun _ => rfl
@[reducible] noncomputable def h84_p3_sh : Shape := ⟨[.ptr 0 0, .dead, .dead, .whole 0, .dead, .dead, .dead, .dead, .dead, .dead, .dead, .dead, .dead, .dead, .dead, .dead, .dead, .dead, .dead, .dead, .dead, .dead, .dead, .dead, .dead, .dead, .dead, .dead, .dead, .dead, .dead, .dead, .dead, .dead, .dead, .dead, .dead], [some [.hole .str, .hole (.int .i64), .same]], [some (.int .u8)]⟩
@[reducible] noncomputable def h84_p3_o0 : Shape := ⟨[.ifc 68 [.agg [.hole (.int .i64)]]], [none], []⟩
@[reducible] noncomputable def h84_p3_o1 : Shape := ⟨[.dead, .dead, .hole .str, .dead, .dead, .dead, .dead, .dead, .dead, .dead, .dead, .dead, .dead, .dead, .dead, .dead, .dead, .dead, .dead, .dead, .dead, .dead, .dead, .dead, .dead, .dead, .dead, .dead, .dead, .dead, .dead, .dead, .dead, .dead, .dead, .dead, .dead], [some [.hole .str, .hole (.int .i64), .same]], []⟩
@[reducible] noncomputable def h84_p3_outs : List (Ex × Shape) := [(.panic, h84_p3_o0), (.ret, h84_p3_o1)]
@[reducible] noncomputable def h84_p3_a : Ann Tryd.prog 1 true (f84_c.cr.cr.cr.cb.cb) := (.block (.seq (.leaf _) (.seq (.piece _ _ _ h84_p2_ok) (.seq (.leaf _) (.seq (.piece _ _ _ h84_p1_ok) (.seq (.piece _ _ _ h84_p0_ok) (.leaf _)))))))
noncomputable def h84_p3_st (rec : h84_p3_sh.den → Option (OutDen h84_p3_outs)) (y : h84_p3_sh.den) : Option (OutDen h84_p3_outs) := evA h84_E h84_p3_a (fill h84_p3_sh y) fun ex st => match ex with | .normal => (abs h84_p3_sh st).bind rec | e => packOut h84_p3_outs e st
theorem h84_p3_ok : PieceSound Tryd.prog 1 true (.loop (f84_c.cr.cr.cr.cb.cb)) h84_p3_sh h84_p3_outs (go h84_p3_st) := go_of (h84_E_okE) h84_p3_a rfl rfl fun _ _ => rfl
@[reducible] noncomputable def h84_I : Shape := ⟨[.ptr 0 0], [some [.hole .str, .hole (.int .i64), .same]], []⟩
@[reducible] noncomputable def h84_O : Shape := ⟨[.hole .str], [some [.hole .str, .hole (.int .i64), .same]], []⟩
@[reducible] noncomputable def h84_Z : Shape := ⟨[.ifc 68 [.agg [.hole (.int .i64)]]], [none], []⟩
@[reducible] noncomputable def h84_a : Ann Tryd.prog 1 true f84_c := (.seq (.leaf _) (.seq (.leaf _) (.seq (.leaf _) (.block (.piece _ _ _ h84_p3_ok)))))
noncomputable def h84_F (y : h84_I.den) : Option (h84_O.den ⊕ h84_Z.den) := evFunP h84_E Tryd.f84 h84_a h84_I h84_O h84_Z y
theorem h84_ok : SoundP Tryd.prog 84 ⟨h84_I, h84_O, h84_Z, h84_F⟩ := sound_ofP (I := h84_I) (O := h84_O) (Z := h84_Z) (c := f84_c) (h84_E_okE) (by kernel_rfl) (by kernel_rfl) (by kernel_rfl) h84_a rfl rfl (fun _ => rfl)
@[reducible] noncomputable def f64_c : Code := codeOf Tryd.f64
@[reducible] noncomputable def f64_E : Env := envOfT Tryd.prog 25 [] [] [] 62
theorem f64_E_okE : EnvOk Tryd.prog f64_E := envOfT_ok _ _ _ _ top_ok mixed
@[reducible] noncomputable def f64_ps : List KD := [.agg [(.int .i64), (.int .i64), .str, (.list .value), (.list .str)]]
@[reducible] noncomputable def f64_rs : List KD := [.one (.int .u8)]
@[reducible] noncomputable def f64_a : Ann Tryd.prog 0 true f64_c := (.leaf _)
noncomputable def f64_F (y : argsDen f64_ps) : Option (argsDen f64_rs) := evFunA f64_E Tryd.f64 f64_a (encArgs f64_ps y) (decRes f64_rs)
theorem f64_ok : Sound Tryd.prog 64 (pfun f64_F) := sound_of (c := f64_c) (f64_E_okE) (by kernel_rfl) (by kernel_rfl) (by kernel_rfl) f64_a (fun _ => rfl)
@[reducible] noncomputable def f85_c : Code := codeOf Tryd.f85
@[reducible] noncomputable def h85_E : Env := envOfT Tryd.prog 25 [] [] [] 62
theorem h85_E_okE : EnvOk Tryd.prog h85_E := envOfT_ok _ _ _ _ top_ok mixed
@[reducible] noncomputable def h85_I : Shape := ⟨[.ptr 0 2, .agg [.hole (.int .i64), .hole (.int .i64), .hole .str, .nilS, .nilS]], [some [.hole .str, .hole (.int .i64), .stk]], []⟩
@[reducible] noncomputable def h85_O : Shape := ⟨[], [some [.hole .str, .hole (.int .i64), .stk]], []⟩
@[reducible] noncomputable def h85_a : Ann Tryd.prog 1 true f85_c := (.seq (.leaf _) (.gho [] [.unfocus 0 2] (.leaf _)))
noncomputable def h85_F (y : h85_I.den) : Option h85_O.den := evFunH h85_E Tryd.f85 h85_a h85_I h85_O y
theorem h85_ok : SoundH Tryd.prog 85 ⟨h85_I, h85_O, h85_F⟩ := sound_ofH (I := h85_I) (O := h85_O) (c := f85_c) (h85_E_okE) (by kernel_rfl) (by kernel_rfl) (by kernel_rfl) h85_a rfl (fun _ => rfl)
@[reducible] noncomputable def f66_c : Code := codeOf Tryd.f66
@[reducible] noncomputable def h66_E : Env := envOfT Tryd.prog 25 [] [] [⟨84, _, h84_ok⟩, ⟨45, _, h45_ok⟩, ⟨63, _, h63_ok⟩] 62
theorem h66_E_okE : EnvOk Tryd.prog h66_E := envOfT_ok _ _ _ _ top_ok mixed
@[reducible] noncomputable def h66_I : Shape := ⟨[.ptr 0 0], [some [.hole .str, .hole (.int .i64), .stk]], []⟩
@[reducible] noncomputable def h66_O : Shape := ⟨[], [some [.hole .str, .hole (.int .i64), .stk]], []⟩
@[reducible] noncomputable def h66_Z : Shape := ⟨[.ifc 68 [.agg [.hole (.int .i64)]]], [none], []⟩
@[reducible] noncomputable def h66_a : Ann Tryd.prog 1 true f66_c := (.seq (.leaf _) (.seq (.gho [.focus 0 2] [] (.leaf _)) (.seq (.leaf _) (.seq (.leaf _) (.gho [.unfocus 0 2] [] (.leaf _))))))
noncomputable def h66_F (y : h66_I.den) : Option (h66_O.den ⊕ h66_Z.den) := evFunP h66_E Tryd.f66 h66_a h66_I h66_O h66_Z y
theorem h66_ok : SoundP Tryd.prog 66 ⟨h66_I, h66_O, h66_Z, h66_F⟩ := sound_ofP (I := h66_I) (O := h66_O) (Z := h66_Z) (c := f66_c) (h66_E_okE) (by kernel_rfl) (by kernel_rfl) (by kernel_rfl) h66_a rfl rfl (fun _ => rfl)
@[reducible] noncomputable def f61_c : Code := codeOf Tryd.f61
@[reducible] noncomputable def h61_E : Env := envOfT Tryd.prog 25 [rowOf true f82_ok, rowOf false f22_ok, rowOf true f64_ok] [⟨85, _, h85_ok⟩] [⟨45, _, h45_ok⟩, ⟨81, _, h81_ok⟩, ⟨83, _, h83_ok⟩, ⟨84, _, h84_ok⟩, ⟨63, _, h63_ok⟩, ⟨66, _, h66_ok⟩] 62
theorem h61_E_okE : EnvOk Tryd.prog h61_E := envOfT_ok _ _ _ _ top_ok mixed
@[reducible] noncomputable def h61_p0_sh : Shape := ⟨[.ptr 0 0, .dead, .ptr 1 0, .dead, .dead, .ptr 2 0, .dead, .dead, .dead, .dead, .dead, .dead, .dead, .dead, .dead, .dead, .dead, .dead, .dead, .dead, .dead, .dead, .dead, .dead, .dead, .dead, .dead, .dead, .dead, .dead, .dead, .dead, .dead, .dead, .dead, .dead, .dead, .dead, .dead, .dead, .dead, .dead, .dead, .dead, .dead, .dead, .dead, .dead, .dead, .dead, .dead, .dead, .dead, .dead, .dead, .dead, .dead, .dead, .dead, .dead, .dead, .dead, .dead, .dead, .dead, .dead, .dead, .dead, .dead, .dead, .dead, .dead, .dead, .dead, .dead, .dead, .dead, .dead, .dead, .dead, .dead, .dead, .dead, .dead, .dead, .dead], [some [.hole .str, .hole (.int .i64), .stk], some [.hole (.int .i64), .hole (.int .i64), .hole .str, .nilS, .nilS], some [.hole (.int .i64), .hole (.int .i64), .hole .str, .nilS, .nilS]], []⟩
@[reducible] noncomputable def h61_p0_o0 : Shape := ⟨[.ptr 0 0, .dead, .ptr 1 0, .dead, .dead, .ptr 2 0, .dead, .dead, .dead, .dead, .dead, .dead, .dead, .dead, .dead, .dead, .dead, .dead, .dead, .dead, .dead, .dead, .dead, .dead, .dead, .dead, .dead, .dead, .dead, .dead, .dead, .dead, .dead, .dead, .dead, .dead, .dead, .dead, .dead, .dead, .dead, .dead, .dead, .dead, .dead, .dead, .dead, .dead, .dead, .dead, .dead, .dead, .dead, .dead, .dead, .dead, .dead, .dead, .dead, .dead, .dead, .dead, .dead, .dead, .dead, .hole .bool, .dead, .dead, .dead, .dead, .dead, .dead, .dead, .dead, .dead, .dead, .dead, .dead, .dead, .dead, .dead, .dead, .dead, .dead, .dead, .dead], [some [.hole .str, .hole (.int .i64), .stk], some [.hole (.int .i64), .hole (.int .i64), .hole .str, .nilS, .nilS], some [.hole (.int .i64), .hole (.int .i64), .hole .str, .nilS, .nilS]], []⟩
@[reducible] noncomputable def h61_p0_outs : List (Ex × Shape) := [(.normal, h61_p0_o0)]
@[reducible] noncomputable def h61_p0_a : Ann Tryd.prog 1 true (f61_c.cr.cr.cr.cr.cr.cr.cl.cl) := (.leaf _)
noncomputable def h61_p0_F (y : h61_p0_sh.den) : Option (OutDen h61_p0_outs) := evA h61_E h61_p0_a (fill h61_p0_sh y) (packOut h61_p0_outs)
theorem h61_p0_ok : PieceSound Tryd.prog 1 true (f61_c.cr.cr.cr.cr.cr.cr.cl.cl) h61_p0_sh h61_p0_outs h61_p0_F := piece_of (h61_E_okE) h61_p0_a rfl rfl fun _ => rfl
@[reducible] noncomputable def h61_p1_sh : Shape := ⟨[.ptr 0 0, .dead, .ptr 1 0, .dead, .dead, .ptr 2 0, .dead, .dead, .dead, .dead, .dead, .dead, .dead, .dead, .dead, .dead, .dead, .dead, .dead, .dead, .dead, .dead, .dead, .dead, .dead, .dead, .dead, .dead, .dead, .dead, .dead, .dead, .dead, .dead, .dead, .dead, .dead, .dead, .dead, .dead, .dead, .dead, .dead, .dead, .dead, .dead, .dead, .dead, .dead, .dead, .dead, .dead, .dead, .dead, .dead, .dead, .dead, .dead, .dead, .dead, .dead, .dead, .dead, .dead, .dead, .dead, .dead, .dead, .dead, .dead, .dead, .dead, .dead, .dead, .dead, .dead, .dead, .dead, .dead, .dead, .dead, .dead, .dead, .dead, .dead, .dead], [some [.hole .str, .hole (.int .i64), .stk], some [.hole (.int .i64), .hole (.int .i64), .hole .str, .nilS, .nilS], some [.hole (.int .i64), .hole (.int .i64), .hole .str, .nilS, .nilS]], []⟩
@[reducible] noncomputable def h61_p1_o0 : Shape := ⟨[.dead, .dead, .ptr 1 0, .dead, .dead, .dead, .dead, .dead, .dead, .dead, .dead, .dead, .dead, .dead, .dead, .dead, .dead, .dead, .dead, .dead, .dead, .dead, .dead, .dead, .dead, .dead, .dead, .dead, .dead, .dead, .dead, .dead, .dead, .dead, .dead, .dead, .dead, .dead, .dead, .dead, .dead, .dead, .dead, .dead, .dead, .dead, .dead, .dead, .dead, .dead, .dead, .dead, .dead, .dead, .dead, .dead, .dead, .dead, .dead, .dead, .dead, .dead, .dead, .dead, .dead, .dead, .dead, .dead, .dead, .dead, .dead, .dead, .dead, .dead, .dead, .dead, .dead, .dead, .dead, .dead, .dead, .dead, .dead, .dead, .dead, .dead], [some [.hole .str, .hole (.int .i64), .stk], some [.hole (.int .i64), .hole (.int .i64), .hole .str, .nilS, .nilS]], []⟩
@[reducible] noncomputable def h61_p1_o1 : Shape := ⟨[.ifc 68 [.agg [.hole (.int .i64)]]], [none], []⟩
@[reducible] noncomputable def h61_p1_outs : List (Ex × Shape) := [(.normal, h61_p1_o0), (.panic, h61_p1_o1)]
@[reducible] noncomputable def h61_p1_a : Ann Tryd.prog 1 true (f61_c.cr.cr.cr.cr.cr.cr.cr.cl) := (.leaf _)
noncomputable def h61_p1_F (y : h61_p1_sh.den) : Option (OutDen h61_p1_outs) := evA h61_E h61_p1_a (fill h61_p1_sh y) (packOut h61_p1_outs)
theorem h61_p1_ok : PieceSound Tryd.prog 1 true (f61_c.cr.cr.cr.cr.cr.cr.cr.cl) h61_p1_sh h61_p1_outs h61_p1_F := piece_of (h61_E_okE) h61_p1_a rfl rfl fun _ => rfl
@[reducible] noncomputable def h61_p2_sh : Shape := ⟨[.ptr 0 0, .dead, .ptr 1 0, .dead, .hole (.int .u8), .dead, .dead, .dead, .dead, .dead, .dead, .dead, .dead, .dead, .dead, .dead, .dead, .dead, .dead, .dead, .dead, .dead, .dead, .dead, .dead, .dead, .dead, .dead, .dead, .dead, .dead, .dead, .dead, .dead, .dead, .dead, .dead, .dead, .dead, .dead, .dead, .dead, .dead, .dead, .dead, .dead, .dead, .dead, .dead, .dead, .dead, .dead, .dead, .dead, .dead, .dead, .dead, .dead, .dead, .dead, .dead, .dead, .dead, .dead, .dead, .dead, .dead, .dead, .dead, .dead, .dead, .dead, .dead, .dead, .dead, .dead, .dead, .dead, .dead, .dead, .dead, .dead, .dead, .dead, .dead, .dead], [some [.hole .str, .hole (.int .i64), .stk], some [.hole (.int .i64), .hole (.int .i64), .hole .str, .nilS, .nilS]], []⟩
@[reducible] noncomputable def h61_p2_o0 : Shape := ⟨[.ptr 0 0, .dead, .ptr 1 0, .dead, .hole (.int .u8), .dead, .dead, .dead, .dead, .dead, .dead, .dead, .dead, .dead, .dead, .dead, .dead, .dead, .dead, .dead, .dead, .dead, .dead, .dead, .dead, .dead, .dead, .dead, .dead, .dead, .dead, .hole .bool, .dead, .dead, .dead, .dead, .dead, .dead, .dead, .dead, .dead, .dead, .dead, .dead, .dead, .dead, .dead, .dead, .dead, .dead, .dead, .dead, .dead, .dead, .dead, .dead, .dead, .dead, .dead, .dead, .dead, .dead, .dead, .dead, .dead, .dead, .dead, .dead, .dead, .dead, .dead, .dead, .dead, .dead, .dead, .dead, .dead, .dead, .dead, .dead, .dead, .dead, .dead, .dead, .dead, .dead], [some [.hole .str, .hole (.int .i64), .stk], some [.hole (.int .i64), .hole (.int .i64), .hole .str, .nilS, .nilS]], []⟩
@[reducible] noncomputable def h61_p2_outs : List (Ex × Shape) := [(.normal, h61_p2_o0)]
@[reducible] noncomputable def h61_p2_a : Ann Tryd.prog 1 true (f61_c.cr.cr.cr.cl.cr.cb.cl) := (.leaf _)
noncomputable def h61_p2_F (y : h61_p2_sh.den) : Option (OutDen h61_p2_outs) := evA h61_E h61_p2_a (fill h61_p2_sh y) (packOut h61_p2_outs)
theorem h61_p2_ok : PieceSound Tryd.prog 1 true (f61_c.cr.cr.cr.cl.cr.cb.cl) h61_p2_sh h61_p2_outs h61_p2_F := piece_of (h61_E_okE) h61_p2_a rfl rfl fun _ => rfl
@[reducible] noncomputable def h61_p3_sh : Shape := ⟨[.ptr 0 0, .dead, .ptr 1 0, .dead, .dead, .ptr 2 0, .dead, .dead, .dead, .dead, .dead, .dead, .dead, .dead, .dead, .dead, .dead, .dead, .dead, .dead, .dead, .dead, .dead, .dead, .dead, .dead, .dead, .dead, .dead, .dead, .dead, .dead, .dead, .dead, .dead, .dead, .dead, .dead, .dead, .dead, .dead, .dead, .dead, .dead, .dead, .dead, .dead, .dead, .dead, .dead, .dead, .dead, .dead, .dead, .dead, .dead, .dead, .dead, .dead, .dead, .dead, .dead, .dead, .dead, .dead, .dead, .dead, .dead, .dead, .dead, .dead, .dead, .dead, .dead, .dead, .dead, .dead, .dead, .dead, .dead, .dead, .dead, .dead, .dead, .dead, .dead], [some [.hole .str, .hole (.int .i64), .stk], some [.hole (.int .i64), .hole (.int .i64), .hole .str, .nilS, .nilS], some [.hole (.int .i64), .hole (.int .i64), .hole .str, .nilS, .nilS]], []⟩
@[reducible] noncomputable def h61_p3_o0 : Shape := ⟨[.ifc 68 [.agg [.hole (.int .i64)]]], [none], []⟩
@[reducible] noncomputable def h61_p3_o1 : Shape := ⟨[.ptr 0 0, .dead, .ptr 1 0, .dead, .dead, .ptr 2 0, .dead, .dead, .dead, .dead, .dead, .dead, .dead, .dead, .dead, .dead, .dead, .dead, .dead, .dead, .dead, .dead, .dead, .dead, .dead, .dead, .dead, .dead, .dead, .dead, .dead, .dead, .dead, .dead, .dead, .dead, .dead, .dead, .dead, .dead, .dead, .dead, .dead, .dead, .dead, .dead, .dead, .dead, .dead, .dead, .dead, .dead, .dead, .dead, .dead, .dead, .dead, .dead, .dead, .dead, .dead, .dead, .dead, .dead, .dead, .dead, .dead, .dead, .dead, .dead, .dead, .dead, .dead, .dead, .dead, .dead, .dead, .dead, .dead, .dead, .dead, .dead, .dead, .dead, .dead, .dead], [some [.hole .str, .hole (.int .i64), .stk], some [.hole (.int .i64), .hole (.int .i64), .hole .str, .nilS, .nilS], some [.hole (.int .i64), .hole (.int .i64), .hole .str, .nilS, .nilS]], []⟩
@[reducible] noncomputable def h61_p3_outs : List (Ex × Shape) := [(.panic, h61_p3_o0), (.normal, h61_p3_o1)]
@[reducible] noncomputable def h61_p3_a : Ann Tryd.prog 1 true (f61_c.cr.cr.cr.cr.cr.cl) := (.leaf _)
noncomputable def h61_p3_F (y : h61_p3_sh.den) : Option (OutDen h61_p3_outs) := evA h61_E h61_p3_a (fill h61_p3_sh y) (packOut h61_p3_outs)
theorem h61_p3_ok : PieceSound Tryd.prog 1 true (f61_c.cr.cr.cr.cr.cr.cl) h61_p3_sh h61_p3_outs h61_p3_F := piece_of (h61_E_okE) h61_p3_a rfl rfl fun _ => rfl
@[reducible] noncomputable def h61_p4_sh : Shape := ⟨[.ptr 0 0, .dead, .ptr 1 0, .dead, .dead, .dead, .dead, .dead, .dead, .dead, .dead, .dead, .dead, .dead, .dead, .dead, .dead, .dead, .dead, .dead, .dead, .dead, .dead, .dead, .dead, .dead, .dead, .dead, .dead, .dead, .dead, .dead, .dead, .dead, .dead, .dead, .dead, .dead, .dead, .dead, .dead, .dead, .dead, .dead, .dead, .dead, .dead, .dead, .dead, .dead, .dead, .dead, .dead, .dead, .dead, .dead, .dead, .dead, .dead, .dead, .dead, .dead, .dead, .dead, .dead, .dead, .dead, .dead, .dead, .dead, .dead, .dead, .dead, .dead, .dead, .dead, .dead, .dead, .dead, .dead, .dead, .dead, .dead, .dead, .dead, .dead], [some [.hole .str, .hole (.int .i64), .stk], some [.hole (.int .i64), .hole (.int .i64), .hole .str, .nilS, .nilS]], []⟩
@[reducible] noncomputable def h61_p4_o0 : Shape := ⟨[.ptr 0 0, .dead, .ptr 1 0, .dead, .dead, .dead, .dead, .dead, .dead, .dead, .dead, .dead, .dead, .dead, .dead, .dead, .dead, .dead, .dead, .dead, .dead, .dead, .dead, .dead, .dead, .dead, .dead, .dead, .dead, .dead, .dead, .dead, .dead, .dead, .dead, .dead, .dead, .dead, .dead, .dead, .dead, .dead, .dead, .dead, .dead, .dead, .dead, .dead, .dead, .dead, .dead, .dead, .dead, .dead, .dead, .dead, .dead, .dead, .dead, .dead, .dead, .dead, .dead, .dead, .dead, .dead, .dead, .dead, .dead, .dead, .dead, .dead, .dead, .dead, .dead, .dead, .dead, .dead, .dead, .dead, .dead, .dead, .dead, .dead, .dead, .dead], [some [.hole .str, .hole (.int .i64), .stk], some [.hole (.int .i64), .hole (.int .i64), .hole .str, .nilS, .nilS]], []⟩
@[reducible] noncomputable def h61_p4_o1 : Shape := ⟨[.ifc 68 [.agg [.hole (.int .i64)]]], [none], []⟩
@[reducible] noncomputable def h61_p4_outs : List (Ex × Shape) := [(.normal, h61_p4_o0), (.panic, h61_p4_o1)]
@[reducible] noncomputable def h61_p4_a : Ann Tryd.prog 1 true (f61_c.cr.cl) := (.leaf _)
noncomputable def h61_p4_F (y : h61_p4_sh.den) : Option (OutDen h61_p4_outs) := evA h61_E h61_p4_a (fill h61_p4_sh y) (packOut h61_p4_outs)
theorem h61_p4_ok : PieceSound Tryd.prog 1 true (f61_c.cr.cl) h61_p4_sh h61_p4_outs h61_p4_F := piece_of (h61_E_okE) h61_p4_a rfl rfl fun _ => rfl
@[reducible] noncomputable def h61_I : Shape := ⟨[.ptr 0 0], [some [.hole .str, .hole (.int .i64), .stk]], []⟩
@[reducible] noncomputable def h61_O : Shape := ⟨[.agg [.hole (.int .i64), .hole (.int .i64), .hole .str, .hole (.list .value), .hole (.list .str)], .hole .bool], [some [.hole .str, .hole (.int .i64), .stk]], []⟩
@[reducible] noncomputable def h61_Z : Shape := ⟨[.ifc 68 [.agg [.hole (.int .i64)]]], [none], []⟩
@[reducible] noncomputable def h61_a : Ann Tryd.prog 1 true f61_c := (.seq (.leaf _) (.seq (.piece _ _ _ h61_p4_ok) (.seq (.leaf _) (.seq (.seq (.leaf _) (.block (.seq (.piece _ _ _ h61_p2_ok) (.leaf _)))) (.seq (.leaf _) (.seq (.piece _ _ _ h61_p3_ok) (.seq (.seq (.piece _ _ _ h61_p0_ok) (.leaf _)) (.seq (.piece _ _ _ h61_p1_ok) (.leaf _)))))))))
noncomputable def h61_F (y : h61_I.den) : Option (h61_O.den ⊕ h61_Z.den) := evFunP h61_E Tryd.f61 h61_a h61_I h61_O h61_Z y
theorem h61_ok : SoundP Tryd.prog 61 ⟨h61_I, h61_O, h61_Z, h61_F⟩ := sound_ofP (I := h61_I) (O := h61_O) (Z := h61_Z) (c := f61_c) (h61_E_okE) (by kernel_rfl) (by kernel_rfl) (by kernel_rfl) h61_a rfl rfl (fun _ => rfl)
@[reducible] noncomputable def f65_c : Code := codeOf Tryd.f65
@[reducible] noncomputable def h65_E : Env := envOfT Tryd.prog 25 [] [] [] 62
theorem h65_E_okE : EnvOk Tryd.prog h65_E := envOfT_ok _ _ _ _ top_ok mixed
@[reducible] noncomputable def h65_I : Shape := ⟨[.ptr 0 2], [some [.hole .str, .hole (.int .i64), .stk]], []⟩
@[reducible] noncomputable def h65_O : Shape := ⟨[.agg [.hole (.int .i64), .hole (.int .i64), .hole .str, .whole 0, .whole 1]], [some [.hole .str, .hole (.int .i64), .stk]], [some .value, some .str]⟩
@[reducible] noncomputable def h65_a : Ann Tryd.prog 1 true f65_c := (.seq (.leaf _) (.seq (.gho [.focus 0 2] [] (.leaf _)) (.seq (.gho [] [.drop 0 2] (.leaf _)) (.leaf _))))
noncomputable def h65_F (y : h65_I.den) : Option h65_O.den := evFunH h65_E Tryd.f65 h65_a h65_I h65_O y
theorem h65_ok : SoundH Tryd.prog 65 ⟨h65_I, h65_O, h65_F⟩ := sound_ofH (I := h65_I) (O := h65_O) (c := f65_c) (h65_E_okE) (by kernel_rfl) (by kernel_rfl) (by kernel_rfl) h65_a rfl (fun _ => rfl)
@[reducible] noncomputable def f44_c : Code := codeOf Tryd.f44
@[reducible] noncomputable def h44_E : Env := envOfT Tryd.prog 25 [rowOf true f64_ok] [⟨65, _, h65_ok⟩] [⟨61, _, h61_ok⟩, ⟨63, _, h63_ok⟩, ⟨66, _, h66_ok⟩] 62
theorem h44_E_okE : EnvOk Tryd.prog h44_E := envOfT_ok _ _ _ _ top_ok mixed
@[reducible] noncomputable def h44_p0_sh : Shape := ⟨[.ptr 0 0, .dead, .ptr 1 0, .ptr 2 0, .hole .bool, .dead, .dead, .dead, .dead, .dead, .dead, .dead, .dead, .dead, .dead, .dead, .dead, .dead, .dead, .dead, .dead, .dead, .dead, .dead, .dead, .dead, .dead, .dead, .dead, .dead, .dead, .dead, .dead, .dead, .dead, .dead, .dead, .dead, .dead, .dead, .dead, .dead, .dead, .dead, .dead, .dead, .dead, .dead, .dead, .dead, .dead, .dead, .dead, .dead, .dead, .dead], [some [.hole .str, .hole (.int .i64), .stk], some [.hole (.int .i64), .hole (.int .i64), .hole .str, .nilS, .nilS], some [.hole (.int .i64), .hole (.int .i64), .hole .str, .hole (.list .value), .hole (.list .str)]], []⟩
@[reducible] noncomputable def h44_p0_o0 : Shape := ⟨[.ptr 0 0, .dead, .ptr 1 0, .dead, .dead, .dead, .dead, .dead, .dead, .dead, .dead, .dead, .dead, .dead, .dead, .dead, .dead, .dead, .dead, .dead, .dead, .dead, .dead, .dead, .dead, .dead, .dead, .dead, .dead, .dead, .dead, .dead, .dead, .dead, .dead, .dead, .dead, .dead, .dead, .dead, .dead, .dead, .dead, .dead, .dead, .dead, .dead, .dead, .dead, .dead, .dead, .dead, .dead, .dead, .dead, .dead], [some [.hole .str, .hole (.int .i64), .stk], some [.hole (.int .i64), .hole (.int .i64), .hole .str, .nilS, .nilS]], []⟩
@[reducible] noncomputable def h44_p0_o1 : Shape := ⟨[.dead, .dead, .ptr 1 0, .dead, .dead, .dead, .dead, .dead, .dead, .dead, .dead, .dead, .dead, .dead, .dead, .dead, .dead, .dead, .dead, .dead, .dead, .dead, .dead, .dead, .dead, .dead, .dead, .dead, .dead, .dead, .dead, .dead, .dead, .dead, .dead, .dead, .dead, .dead, .dead, .dead, .dead, .dead, .dead, .dead, .dead, .dead, .dead, .dead, .dead, .dead, .dead, .dead, .dead, .dead, .dead, .dead], [some [.hole .str, .hole (.int .i64), .stk], some [.hole (.int .i64), .hole (.int .i64), .hole .str, .hole (.list .value), .hole (.list .str)]], []⟩
@[reducible] noncomputable def h44_p0_o2 : Shape := ⟨[.ifc 68 [.agg [.hole (.int .i64)]]], [none], []⟩
@[reducible] noncomputable def h44_p0_outs : List (Ex × Shape) := [(.exit 2, h44_p0_o0), (.ret, h44_p0_o1), (.panic, h44_p0_o2)]
@[reducible] noncomputable def h44_p0_a : Ann Tryd.prog 1 true (f44_c.cr.cb.cb.cb.cr.cb.cb) := (.seq (.leaf _) (.block (.seq (.leaf _) (.seq (.gho [.focus 0 2] [] (.leaf _)) (.seq (.leaf _) (.seq (.seq (.leaf _) (.cond (.seq (.gho [.unfocus 0 2] [] (.leaf _)) (.leaf _)) (.leaf _))) (.seq (.leaf _) (.seq (.leaf _) (.gho [.unfocus 0 2] [] (.leaf _))))))))))
noncomputable def h44_p0_st (rec : h44_p0_sh.den → Option (OutDen h44_p0_outs)) (y : h44_p0_sh.den) : Option (OutDen h44_p0_outs) := evA h44_E h44_p0_a (fill h44_p0_sh y) fun ex st => match ex with | .normal => (abs h44_p0_sh st).bind rec | e => packOut h44_p0_outs e st
theorem h44_p0_ok : PieceSound Tryd.prog 1 true (.loop (f44_c.cr.cb.cb.cb.cr.cb.cb)) h44_p0_sh h44_p0_outs (go h44_p0_st) := go_of (h44_E_okE) h44_p0_a rfl rfl fun _ _ => rfl
@[reducible] noncomputable def h44_p1_sh : Shape := ⟨[.ptr 0 0, .dead, .ptr 1 0, .dead, .dead, .dead, .dead, .dead, .dead, .dead, .dead, .dead, .dead, .dead, .dead, .dead, .dead, .dead, .dead, .dead, .dead, .dead, .dead, .dead, .dead, .dead, .dead, .dead, .dead, .dead, .dead, .dead, .dead, .dead, .dead, .dead, .dead, .dead, .dead, .dead, .dead, .dead, .dead, .dead, .dead, .dead, .dead, .dead, .dead, .dead, .dead, .dead, .dead, .dead, .dead, .dead], [some [.hole .str, .hole (.int .i64), .stk], some [.hole (.int .i64), .hole (.int .i64), .hole .str, .nilS, .nilS]], []⟩
@[reducible] noncomputable def h44_p1_o0 : Shape := ⟨[.ifc 68 [.agg [.hole (.int .i64)]]], [none], []⟩
@[reducible] noncomputable def h44_p1_o1 : Shape := ⟨[.dead, .dead, .ptr 1 0, .dead, .dead, .dead, .dead, .dead, .dead, .dead, .dead, .dead, .dead, .dead, .dead, .dead, .dead, .dead, .dead, .dead, .dead, .dead, .dead, .dead, .dead, .dead, .dead, .dead, .dead, .dead, .dead, .dead, .dead, .dead, .dead, .dead, .dead, .dead, .dead, .dead, .dead, .dead, .dead, .dead, .dead, .dead, .dead, .dead, .dead, .dead, .dead, .dead, .dead, .dead, .dead, .dead], [some [.hole .str, .hole (.int .i64), .stk], some [.hole (.int .i64), .hole (.int .i64), .hole .str, .hole (.list .value), .hole (.list .str)]], []⟩
@[reducible] noncomputable def h44_p1_outs : List (Ex × Shape) := [(.panic, h44_p1_o0), (.ret, h44_p1_o1)]
@[reducible] noncomputable def h44_p1_a : Ann Tryd.prog 1 true (f44_c.cr.cb.cb) := (.block (.seq (.leaf _) (.block (.piece _ _ _ h44_p0_ok))))
noncomputable def h44_p1_st (rec : h44_p1_sh.den → Option (OutDen h44_p1_outs)) (y : h44_p1_sh.den) : Option (OutDen h44_p1_outs) := evA h44_E h44_p1_a (fill h44_p1_sh y) fun ex st => match ex with | .normal => (abs h44_p1_sh st).bind rec | e => packOut h44_p1_outs e st
theorem h44_p1_ok : PieceSound Tryd.prog 1 true (.loop (f44_c.cr.cb.cb)) h44_p1_sh h44_p1_outs (go h44_p1_st) := go_of (h44_E_okE) h44_p1_a rfl rfl fun _ _ => rfl
@[reducible] noncomputable def h44_I : Shape := ⟨[.ptr 0 0], [some [.hole .str, .hole (.int .i64), .stk]], []⟩
@[reducible] noncomputable def h44_O : Shape := ⟨[.agg [.hole (.int .i64), .hole (.int .i64), .hole .str, .hole (.list .value), .hole (.list .str)]], [some [.hole .str, .hole (.int .i64), .stk]], []⟩
@[reducible] noncomputable def h44_Z : Shape := ⟨[.ifc 68 [.agg [.hole (.int .i64)]]], [none], []⟩
@[reducible] noncomputable def h44_a : Ann Tryd.prog 1 true f44_c := (.seq (.leaf _) (.block (.piece _ _ _ h44_p1_ok)))
noncomputable def h44_F (y : h44_I.den) : Option (h44_O.den ⊕ h44_Z.den) := evFunP h44_E Tryd.f44 h44_a h44_I h44_O h44_Z y
theorem h44_ok : SoundP Tryd.prog 44 ⟨h44_I, h44_O, h44_Z, h44_F⟩ := sound_ofP (I := h44_I) (O := h44_O) (Z := h44_Z) (c := f44_c) (h44_E_okE) (by kernel_rfl) (by kernel_rfl) (by kernel_rfl) h44_a rfl rfl (fun _ => rfl)
end
end Go.Pe.Tryd
end
section
namespace Go.Pe.Tryd
open Go.Proofs Go.RowKit
set_option maxRecDepth 100000
set_option linter.unusedVariables false
def h45_y (x0 : Int) : h45_I.den := ((x0, ()), (), ())
def h45_z_y (x0_0_0 : Int) : h45_Z.den := ((((x0_0_0, ()), ()), ()), (), ())
def h45_z_x0_0_0 (z : h45_Z.den) : Int := z.1.1.1.1
@[simp] theorem h45_z_x0_0_0_y (x0_0_0 : Int) : h45_z_x0_0_0 (h45_z_y x0_0_0) = x0_0_0 := id rfl
theorem h45_eq (x0 : Int) : h45_F (h45_y x0) = (some (.inr (h45_z_y x0))) := by kernel_rfl
def h81_y (r0_0 : List UInt8) (r0_1 : Int) : h81_I.den := (((), ()), ((r0_0, (r0_1, ((), ()))), ()), ())
def h81_o_y (x0 : Int) (r0_0 : List UInt8) (r0_1 : Int) : h81_O.den := ((x0, ()), ((r0_0, (r0_1, ((), ()))), ()), ())
def h81_o_x0 (z : h81_O.den) : Int := z.1.1
def h81_o_r0_0 (z : h81_O.den) : List UInt8 := z.2.1.1.1
def h81_o_r0_1 (z : h81_O.den) : Int := z.2.1.1.2.1
@[simp] theorem h81_o_x0_y (x0 : Int) (r0_0 : List UInt8) (r0_1 : Int) : h81_o_x0 (h81_o_y x0 r0_0 r0_1) = x0 := id rfl
@[simp] theorem h81_o_r0_0_y (x0 : Int) (r0_0 : List UInt8) (r0_1 : Int) : h81_o_r0_0 (h81_o_y x0 r0_0 r0_1) = r0_0 := id rfl
@[simp] theorem h81_o_r0_1_y (x0 : Int) (r0_0 : List UInt8) (r0_1 : Int) : h81_o_r0_1 (h81_o_y x0 r0_0 r0_1) = r0_1 := id rfl
def h81_z_y (x0_0_0 : Int) : h81_Z.den := ((((x0_0_0, ()), ()), ()), (), ())
def h81_z_x0_0_0 (z : h81_Z.den) : Int := z.1.1.1.1
@[simp] theorem h81_z_x0_0_0_y (x0_0_0 : Int) : h81_z_x0_0_0 (h81_z_y x0_0_0) = x0_0_0 := id rfl
def h81_p0_y (r0_0 : List UInt8) (r0_1 : Int) : h81_p0_sh.den := (((), ((), ((), ((), ((), ((), ((), ((), ((), ((), ((), ((), ((), ((), ())))))))))))))), ((r0_0, (r0_1, ((), ()))), ()), ())
def h81_p0_o0_y (r0_0 : List UInt8) (r0_1 : Int) : h81_p0_o0.den := (((), ((), ((), ((), ((), ((), ((), ((), ((), ((), ((), ((), ((), ((), ())))))))))))))), ((r0_0, (r0_1, ((), ()))), ()), ())
def h81_p0_o0_r0_0 (z : h81_p0_o0.den) : List UInt8 := z.2.1.1.1
def h81_p0_o0_r0_1 (z : h81_p0_o0.den) : Int := z.2.1.1.2.1
@[simp] theorem h81_p0_o0_r0_0_y (r0_0 : List UInt8) (r0_1 : Int) : h81_p0_o0_r0_0 (h81_p0_o0_y r0_0 r0_1) = r0_0 := id rfl
@[simp] theorem h81_p0_o0_r0_1_y (r0_0 : List UInt8) (r0_1 : Int) : h81_p0_o0_r0_1 (h81_p0_o0_y r0_0 r0_1) = r0_1 := id rfl
def h81_p0_o1_y (x0_0_0 : Int) : h81_p0_o1.den := ((((x0_0_0, ()), ()), ()), (), ())
def h81_p0_o1_x0_0_0 (z : h81_p0_o1.den) : Int := z.1.1.1.1
@[simp] theorem h81_p0_o1_x0_0_0_y (x0_0_0 : Int) : h81_p0_o1_x0_0_0 (h81_p0_o1_y x0_0_0) = x0_0_0 := id rfl
theorem h81_p0_eq (r0_0 : List UInt8) (r0_1 : Int) : h81_p0_F (h81_p0_y r0_0 r0_1) = (bif (r0_0 == ([] : List UInt8)) then ((h45_F (h45_y (3 : Int))).bind fun o3 => (match o3 with | .inl z1 => some (.inl (h81_p0_o0_y r0_0 r0_1)) | .inr z2 => some (.inr ((h81_p0_o1_y (h45_z_x0_0_0 z2)))))) else (some (.inl (h81_p0_o0_y r0_0 r0_1)))) := by kernel_rfl
theorem h81_eq (r0_0 : List UInt8) (r0_1 : Int) : h81_F (h81_y r0_0 r0_1) = ((h81_p0_F (h81_p0_y r0_0 r0_1)).bind fun o4 => (match o4 with | .inl z5 => (nth (h81_p0_o0_r0_0 z5) (0 : Int)).bind fun c7 => some (.inl (h81_o_y (c7.toNat : Int) (h81_p0_o0_r0_0 z5) (h81_p0_o0_r0_1 z5))) | .inr o6 => some (.inr (h81_z_y (h81_p0_o1_x0_0_0 o6))))) := by kernel_rfl
theorem f82_eq (a0 : Int) : f82_F (a0, ()) = (bif (decide (a0 ≥ (48 : Int))) then (some ((decide (a0 ≤ (57 : Int))), ())) else (some (false, ()))) := by kernel_rfl
def h83_y (r0_0 : List UInt8) (r0_1 : Int) : h83_I.den := (((), ()), ((r0_0, (r0_1, ((), ()))), ()), ())
def h83_o_y (x0_0 : Int) (x0_1 : Int) (x0_2 : List UInt8) (x0_3 : List V) (x0_4 : List (List UInt8)) (r0_0 : List UInt8) (r0_1 : Int) : h83_O.den := (((x0_0, (x0_1, (x0_2, (x0_3, (x0_4, ()))))), ()), ((r0_0, (r0_1, ((), ()))), ()), ())
def h83_o_x0_0 (z : h83_O.den) : Int := z.1.1.1
def h83_o_x0_1 (z : h83_O.den) : Int := z.1.1.2.1
def h83_o_x0_2 (z : h83_O.den) : List UInt8 := z.1.1.2.2.1
def h83_o_x0_3 (z : h83_O.den) : List V := z.1.1.2.2.2.1
def h83_o_x0_4 (z : h83_O.den) : List (List UInt8) := z.1.1.2.2.2.2.1
def h83_o_r0_0 (z : h83_O.den) : List UInt8 := z.2.1.1.1
def h83_o_r0_1 (z : h83_O.den) : Int := z.2.1.1.2.1
@[simp] theorem h83_o_x0_0_y (x0_0 : Int) (x0_1 : Int) (x0_2 : List UInt8) (x0_3 : List V) (x0_4 : List (List UInt8)) (r0_0 : List UInt8) (r0_1 : Int) : h83_o_x0_0 (h83_o_y x0_0 x0_1 x0_2 x0_3 x0_4 r0_0 r0_1) = x0_0 := id rfl
@[simp] theorem h83_o_x0_1_y (x0_0 : Int) (x0_1 : Int) (x0_2 : List UInt8) (x0_3 : List V) (x0_4 : List (List UInt8)) (r0_0 : List UInt8) (r0_1 : Int) : h83_o_x0_1 (h83_o_y x0_0 x0_1 x0_2 x0_3 x0_4 r0_0 r0_1) = x0_1 := id rfl
@[simp] theorem h83_o_x0_2_y (x0_0 : Int) (x0_1 : Int) (x0_2 : List UInt8) (x0_3 : List V) (x0_4 : List (List UInt8)) (r0_0 : List UInt8) (r0_1 : Int) : h83_o_x0_2 (h83_o_y x0_0 x0_1 x0_2 x0_3 x0_4 r0_0 r0_1) = x0_2 := id rfl
@[simp] theorem h83_o_x0_3_y (x0_0 : Int) (x0_1 : Int) (x0_2 : List UInt8) (x0_3 : List V) (x0_4 : List (List UInt8)) (r0_0 : List UInt8) (r0_1 : Int) : h83_o_x0_3 (h83_o_y x0_0 x0_1 x0_2 x0_3 x0_4 r0_0 r0_1) = x0_3 := id rfl
@[simp] theorem h83_o_x0_4_y (x0_0 : Int) (x0_1 : Int) (x0_2 : List UInt8) (x0_3 : List V) (x0_4 : List (List UInt8)) (r0_0 : List UInt8) (r0_1 : Int) : h83_o_x0_4 (h83_o_y x0_0 x0_1 x0_2 x0_3 x0_4 r0_0 r0_1) = x0_4 := id rfl
@[simp] theorem h83_o_r0_0_y (x0_0 : Int) (x0_1 : Int) (x0_2 : List UInt8) (x0_3 : List V) (x0_4 : List (List UInt8)) (r0_0 : List UInt8) (r0_1 : Int) : h83_o_r0_0 (h83_o_y x0_0 x0_1 x0_2 x0_3 x0_4 r0_0 r0_1) = r0_0 := id rfl
@[simp] theorem h83_o_r0_1_y (x0_0 : Int) (x0_1 : Int) (x0_2 : List UInt8) (x0_3 : List V) (x0_4 : List (List UInt8)) (r0_0 : List UInt8) (r0_1 : Int) : h83_o_r0_1 (h83_o_y x0_0 x0_1 x0_2 x0_3 x0_4 r0_0 r0_1) = r0_1 := id rfl
def h83_z_y (x0_0_0 : Int) : h83_Z.den := ((((x0_0_0, ()), ()), ()), (), ())
def h83_z_x0_0_0 (z : h83_Z.den) : Int := z.1.1.1.1
@[simp] theorem h83_z_x0_0_0_y (x0_0_0 : Int) : h83_z_x0_0_0 (h83_z_y x0_0_0) = x0_0_0 := id rfl
def h83_p0_y (x3 : Int) (x5 : List UInt8) (x6 : Int) (x78 : Int) (x79 : Int) (r0_0 : List UInt8) (r0_1 : Int) (r1_0 : Int) (r1_1 : Int) (r1_2 : List UInt8) : h83_p0_sh.den := (((), ((), ((), (x3, ((), (x5, (x6, ((), ((), ((), ((), ((), ((), ((), ((), ((), ((), ((), ((), ((), ((), ((), ((), ((), ((), ((), ((), ((), ((), ((), ((), ((), ((), ((), ((), ((), ((), ((), ((), ((), ((), ((), ((), ((), ((), ((), ((), ((), ((), ((), ((), ((), ((), ((), ((), ((), ((), ((), ((), ((), ((), ((), ((), ((), ((), ((), ((), ((), ((), ((), ((), ((), ((), ((), ((), ((), ((), ((), (x78, (x79, ((), ((), ((), ((), ((), ((), ((), ((), ((), ((), ((), ((), ((), ((), ((), ((), ((), ((), ())))))))))))))))))))))))))))))))))))))))))))))))))))))))))))))))))))))))))))))))))))))))))))))))))), ((r0_0, (r0_1, ((), ()))), ((r1_0, (r1_1, (r1_2, ((), ((), ()))))), ())), ())
def h83_p0_o0_y (x3 : Int) (x6 : Int) (r0_0 : List UInt8) (r0_1 : Int) (r1_0 : Int) (r1_1 : Int) (r1_2 : List UInt8) : h83_p0_o0.den := (((), ((), ((), (x3, ((), ((), (x6, ((), ((), ((), ((), ((), ((), ((), ((), ((), ((), ((), ((), ((), ((), ((), ((), ((), ((), ((), ((), ((), ((), ((), ((), ((), ((), ((), ((), ((), ((), ((), ((), ((), ((), ((), ((), ((), ((), ((), ((), ((), ((), ((), ((), ((), ((), ((), ((), ((), ((), ((), ((), ((), ((), ((), ((), ((), ((), ((), ((), ((), ((), ((), ((), ((), ((), ((), ((), ((), ((), ((), ((), ((), ((), ((), ((), ((), ((), ((), ((), ((), ((), ((), ((), ((), ((), ((), ((), ((), ((), ((), ())))))))))))))))))))))))))))))))))))))))))))))))))))))))))))))))))))))))))))))))))))))))))))))))))), ((r0_0, (r0_1, ((), ()))), ((r1_0, (r1_1, (r1_2, ((), ((), ()))))), ())), ())
def h83_p0_o0_x3 (z : h83_p0_o0.den) : Int := z.1.2.2.2.1
def h83_p0_o0_x6 (z : h83_p0_o0.den) : Int := z.1.2.2.2.2.2.2.1
def h83_p0_o0_r0_0 (z : h83_p0_o0.den) : List UInt8 := z.2.1.1.1
def h83_p0_o0_r0_1 (z : h83_p0_o0.den) : Int := z.2.1.1.2.1
def h83_p0_o0_r1_0 (z : h83_p0_o0.den) : Int := z.2.1.2.1.1
def h83_p0_o0_r1_1 (z : h83_p0_o0.den) : Int := z.2.1.2.1.2.1
def h83_p0_o0_r1_2 (z : h83_p0_o0.den) : List UInt8 := z.2.1.2.1.2.2.1
@[simp] theorem h83_p0_o0_x3_y (x3 : Int) (x6 : Int) (r0_0 : List UInt8) (r0_1 : Int) (r1_0 : Int) (r1_1 : Int) (r1_2 : List UInt8) : h83_p0_o0_x3 (h83_p0_o0_y x3 x6 r0_0 r0_1 r1_0 r1_1 r1_2) = x3 := id rfl
@[simp] theorem h83_p0_o0_x6_y (x3 : Int) (x6 : Int) (r0_0 : List UInt8) (r0_1 : Int) (r1_0 : Int) (r1_1 : Int) (r1_2 : List UInt8) : h83_p0_o0_x6 (h83_p0_o0_y x3 x6 r0_0 r0_1 r1_0 r1_1 r1_2) = x6 := id rfl
@[simp] theorem h83_p0_o0_r0_0_y (x3 : Int) (x6 : Int) (r0_0 : List UInt8) (r0_1 : Int) (r1_0 : Int) (r1_1 : Int) (r1_2 : List UInt8) : h83_p0_o0_r0_0 (h83_p0_o0_y x3 x6 r0_0 r0_1 r1_0 r1_1 r1_2) = r0_0 := id rfl
@[simp] theorem h83_p0_o0_r0_1_y (x3 : Int) (x6 : Int) (r0_0 : List UInt8) (r0_1 : Int) (r1_0 : Int) (r1_1 : Int) (r1_2 : List UInt8) : h83_p0_o0_r0_1 (h83_p0_o0_y x3 x6 r0_0 r0_1 r1_0 r1_1 r1_2) = r0_1 := id rfl
@[simp] theorem h83_p0_o0_r1_0_y (x3 : Int) (x6 : Int) (r0_0 : List UInt8) (r0_1 : Int) (r1_0 : Int) (r1_1 : Int) (r1_2 : List UInt8) : h83_p0_o0_r1_0 (h83_p0_o0_y x3 x6 r0_0 r0_1 r1_0 r1_1 r1_2) = r1_0 := id rfl
@[simp] theorem h83_p0_o0_r1_1_y (x3 : Int) (x6 : Int) (r0_0 : List UInt8) (r0_1 : Int) (r1_0 : Int) (r1_1 : Int) (r1_2 : List UInt8) : h83_p0_o0_r1_1 (h83_p0_o0_y x3 x6 r0_0 r0_1 r1_0 r1_1 r1_2) = r1_1 := id rfl
@[simp] theorem h83_p0_o0_r1_2_y (x3 : Int) (x6 : Int) (r0_0 : List UInt8) (r0_1 : Int) (r1_0 : Int) (r1_1 : Int) (r1_2 : List UInt8) : h83_p0_o0_r1_2 (h83_p0_o0_y x3 x6 r0_0 r0_1 r1_0 r1_1 r1_2) = r1_2 := id rfl
theorem h83_p0_eq (rec : h83_p0_sh.den → Option (OutDen h83_p0_outs)) (x3 : Int) (x5 : List UInt8) (x6 : Int) (x78 : Int) (x79 : Int) (r0_0 : List UInt8) (r0_1 : Int) (r1_0 : Int) (r1_1 : Int) (r1_2 : List UInt8) : h83_p0_st rec (h83_p0_y x3 x5 x6 x78 x79 r0_0 r0_1 r1_0 r1_1 r1_2) = (bif (decide (x79 < x78)) then ((nth x5 x79).bind fun c8 => rec (h83_p0_y x3 x5 (IntKind.i64.wrap ((IntKind.i64.wrap ((10 : Int) * x6)) + (IntKind.i64.wrap (IntKind.u8.wrap ((c8.toNat : Int) - (48 : Int)))))) x78 (IntKind.i64.wrap (x79 + (1 : Int))) r0_0 r0_1 r1_0 r1_1 r1_2)) else (some ((h83_p0_o0_y x3 x6 r0_0 r0_1 r1_0 r1_1 r1_2)))) := by kernel_rfl
def h83_p1_y (x3 : Int) (x6 : Int) (r0_0 : List UInt8) (r0_1 : Int) (r1_0 : Int) (r1_1 : Int) (r1_2 : List UInt8) : h83_p1_sh.den := (((), ((), ((), (x3, ((), ((), (x6, ((), ((), ((), ((), ((), ((), ((), ((), ((), ((), ((), ((), ((), ((), ((), ((), ((), ((), ((), ((), ((), ((), ((), ((), ((), ((), ((), ((), ((), ((), ((), ((), ((), ((), ((), ((), ((), ((), ((), ((), ((), ((), ((), ((), ((), ((), ((), ((), ((), ((), ((), ((), ((), ((), ((), ((), ((), ((), ((), ((), ((), ((), ((), ((), ((), ((), ((), ((), ((), ((), ((), ((), ((), ((), ((), ((), ((), ((), ((), ((), ((), ((), ((), ((), ((), ((), ((), ((), ((), ((), ((), ())))))))))))))))))))))))))))))))))))))))))))))))))))))))))))))))))))))))))))))))))))))))))))))))))), ((r0_0, (r0_1, ((), ()))), ((r1_0, (r1_1, (r1_2, ((), ((), ()))))), ())), ())
def h83_p1_o0_y (x3 : Int) (x6 : Int) (r0_0 : List UInt8) (r0_1 : Int) (r1_0 : Int) (r1_1 : Int) (r1_2 : List UInt8) : h83_p1_o0.den := (((), ((), ((), (x3, ((), ((), (x6, ((), ((), ((), ((), ((), ((), ((), ((), ((), ((), ((), ((), ((), ((), ((), ((), ((), ((), ((), ((), ((), ((), ((), ((), ((), ((), ((), ((), ((), ((), ((), ((), ((), ((), ((), ((), ((), ((), ((), ((), ((), ((), ((), ((), ((), ((), ((), ((), ((), ((), ((), ((), ((), ((), ((), ((), ((), ((), ((), ((), ((), ((), ((), ((), ((), ((), ((), ((), ((), ((), ((), ((), ((), ((), ((), ((), ((), ((), ((), ((), ((), ((), ((), ((), ((), ((), ((), ((), ((), ((), ((), ())))))))))))))))))))))))))))))))))))))))))))))))))))))))))))))))))))))))))))))))))))))))))))))))))), ((r0_0, (r0_1, ((), ()))), ((r1_0, (r1_1, (r1_2, ((), ((), ()))))), ())), ())
def h83_p1_o0_x3 (z : h83_p1_o0.den) : Int := z.1.2.2.2.1
def h83_p1_o0_x6 (z : h83_p1_o0.den) : Int := z.1.2.2.2.2.2.2.1
def h83_p1_o0_r0_0 (z : h83_p1_o0.den) : List UInt8 := z.2.1.1.1
def h83_p1_o0_r0_1 (z : h83_p1_o0.den) : Int := z.2.1.1.2.1
def h83_p1_o0_r1_0 (z : h83_p1_o0.den) : Int := z.2.1.2.1.1
def h83_p1_o0_r1_1 (z : h83_p1_o0.den) : Int := z.2.1.2.1.2.1
def h83_p1_o0_r1_2 (z : h83_p1_o0.den) : List UInt8 := z.2.1.2.1.2.2.1
@[simp] theorem h83_p1_o0_x3_y (x3 : Int) (x6 : Int) (r0_0 : List UInt8) (r0_1 : Int) (r1_0 : Int) (r1_1 : Int) (r1_2 : List UInt8) : h83_p1_o0_x3 (h83_p1_o0_y x3 x6 r0_0 r0_1 r1_0 r1_1 r1_2) = x3 := id rfl
@[simp] theorem h83_p1_o0_x6_y (x3 : Int) (x6 : Int) (r0_0 : List UInt8) (r0_1 : Int) (r1_0 : Int) (r1_1 : Int) (r1_2 : List UInt8) : h83_p1_o0_x6 (h83_p1_o0_y x3 x6 r0_0 r0_1 r1_0 r1_1 r1_2) = x6 := id rfl
@[simp] theorem h83_p1_o0_r0_0_y (x3 : Int) (x6 : Int) (r0_0 : List UInt8) (r0_1 : Int) (r1_0 : Int) (r1_1 : Int) (r1_2 : List UInt8) : h83_p1_o0_r0_0 (h83_p1_o0_y x3 x6 r0_0 r0_1 r1_0 r1_1 r1_2) = r0_0 := id rfl
@[simp] theorem h83_p1_o0_r0_1_y (x3 : Int) (x6 : Int) (r0_0 : List UInt8) (r0_1 : Int) (r1_0 : Int) (r1_1 : Int) (r1_2 : List UInt8) : h83_p1_o0_r0_1 (h83_p1_o0_y x3 x6 r0_0 r0_1 r1_0 r1_1 r1_2) = r0_1 := id rfl
@[simp] theorem h83_p1_o0_r1_0_y (x3 : Int) (x6 : Int) (r0_0 : List UInt8) (r0_1 : Int) (r1_0 : Int) (r1_1 : Int) (r1_2 : List UInt8) : h83_p1_o0_r1_0 (h83_p1_o0_y x3 x6 r0_0 r0_1 r1_0 r1_1 r1_2) = r1_0 := id rfl
@[simp] theorem h83_p1_o0_r1_1_y (x3 : Int) (x6 : Int) (r0_0 : List UInt8) (r0_1 : Int) (r1_0 : Int) (r1_1 : Int) (r1_2 : List UInt8) : h83_p1_o0_r1_1 (h83_p1_o0_y x3 x6 r0_0 r0_1 r1_0 r1_1 r1_2) = r1_1 := id rfl
@[simp] theorem h83_p1_o0_r1_2_y (x3 : Int) (x6 : Int) (r0_0 : List UInt8) (r0_1 : Int) (r1_0 : Int) (r1_1 : Int) (r1_2 : List UInt8) : h83_p1_o0_r1_2 (h83_p1_o0_y x3 x6 r0_0 r0_1 r1_0 r1_1 r1_2) = r1_2 := id rfl
def h83_p1_o1_y (x0_0_0 : Int) : h83_p1_o1.den := ((((x0_0_0, ()), ()), ()), (), ())
def h83_p1_o1_x0_0_0 (z : h83_p1_o1.den) : Int := z.1.1.1.1
@[simp] theorem h83_p1_o1_x0_0_0_y (x0_0_0 : Int) : h83_p1_o1_x0_0_0 (h83_p1_o1_y x0_0_0) = x0_0_0 := id rfl
theorem h83_p1_eq (x3 : Int) (x6 : Int) (r0_0 : List UInt8) (r0_1 : Int) (r1_0 : Int) (r1_1 : Int) (r1_2 : List UInt8) : h83_p1_F (h83_p1_y x3 x6 r0_0 r0_1 r1_0 r1_1 r1_2) = (bif (decide (x6 > (1099511627776 : Int))) then ((h45_F (h45_y (2 : Int))).bind fun o11 => (match o11 with | .inl z9 => some (.inl (h83_p1_o0_y x3 x6 r0_0 r0_1 r1_0 r1_1 r1_2)) | .inr z10 => some (.inr ((h83_p1_o1_y (h45_z_x0_0_0 z10)))))) else (some (.inl (h83_p1_o0_y x3 x6 r0_0 r0_1 r1_0 r1_1 r1_2)))) := by kernel_rfl
def h83_p2_y (x3 : Int) (x4 : Int) (x5 : List UInt8) (r0_0 : List UInt8) (r0_1 : Int) (r1_0 : Int) (r1_1 : Int) (r1_2 : List UInt8) : h83_p2_sh.den := (((), ((), ((), (x3, (x4, (x5, ((), ((), ((), ((), ((), ((), ((), ((), ((), ((), ((), ((), ((), ((), ((), ((), ((), ((), ((), ((), ((), ((), ((), ((), ((), ((), ((), ((), ((), ((), ((), ((), ((), ((), ((), ((), ((), ((), ((), ((), ((), ((), ((), ((), ((), ((), ((), ((), ((), ((), ((), ((), ((), ((), ((), ((), ((), ((), ((), ((), ((), ((), ((), ((), ((), ((), ((), ((), ((), ((), ((), ((), ((), ((), ((), ((), ((), ((), ((), ((), ((), ((), ((), ((), ((), ((), ((), ((), ((), ((), ((), ((), ())))))))))))))))))))))))))))))))))))))))))))))))))))))))))))))))))))))))))))))))))))))))))))))))))), ((r0_0, (r0_1, ((), ()))), ((r1_0, (r1_1, (r1_2, ((), ((), ()))))), ())), ())
def h83_p2_o0_y (x3 : Int) (x4 : Int) (x5 : List UInt8) (x73 : Bool) (r0_0 : List UInt8) (r0_1 : Int) (r1_0 : Int) (r1_1 : Int) (r1_2 : List UInt8) : h83_p2_o0.den := (((), ((), ((), (x3, (x4, (x5, ((), ((), ((), ((), ((), ((), ((), ((), ((), ((), ((), ((), ((), ((), ((), ((), ((), ((), ((), ((), ((), ((), ((), ((), ((), ((), ((), ((), ((), ((), ((), ((), ((), ((), ((), ((), ((), ((), ((), ((), ((), ((), ((), ((), ((), ((), ((), ((), ((), ((), ((), ((), ((), ((), ((), ((), ((), ((), ((), ((), ((), ((), ((), ((), ((), ((), ((), (x73, ((), ((), ((), ((), ((), ((), ((), ((), ((), ((), ((), ((), ((), ((), ((), ((), ((), ((), ((), ((), ((), ((), ((), ((), ())))))))))))))))))))))))))))))))))))))))))))))))))))))))))))))))))))))))))))))))))))))))))))))))))), ((r0_0, (r0_1, ((), ()))), ((r1_0, (r1_1, (r1_2, ((), ((), ()))))), ())), ())
def h83_p2_o0_x3 (z : h83_p2_o0.den) : Int := z.1.2.2.2.1
def h83_p2_o0_x4 (z : h83_p2_o0.den) : Int := z.1.2.2.2.2.1
def h83_p2_o0_x5 (z : h83_p2_o0.den) : List UInt8 := z.1.2.2.2.2.2.1
def h83_p2_o0_x73 (z : h83_p2_o0.den) : Bool := z.1.2.2.2.2.2.2.2.2.2.2.2.2.2.2.2.2.2.2.2.2.2.2.2.2.2.2.2.2.2.2.2.2.2.2.2.2.2.2.2.2.2.2.2.2.2.2.2.2.2.2.2.2.2.2.2.2.2.2.2.2.2.2.2.2.2.2.2.2.2.2.2.2.2.1
def h83_p2_o0_r0_0 (z : h83_p2_o0.den) : List UInt8 := z.2.1.1.1
def h83_p2_o0_r0_1 (z : h83_p2_o0.den) : Int := z.2.1.1.2.1
def h83_p2_o0_r1_0 (z : h83_p2_o0.den) : Int := z.2.1.2.1.1
def h83_p2_o0_r1_1 (z : h83_p2_o0.den) : Int := z.2.1.2.1.2.1
def h83_p2_o0_r1_2 (z : h83_p2_o0.den) : List UInt8 := z.2.1.2.1.2.2.1
@[simp] theorem h83_p2_o0_x3_y (x3 : Int) (x4 : Int) (x5 : List UInt8) (x73 : Bool) (r0_0 : List UInt8) (r0_1 : Int) (r1_0 : Int) (r1_1 : Int) (r1_2 : List UInt8) : h83_p2_o0_x3 (h83_p2_o0_y x3 x4 x5 x73 r0_0 r0_1 r1_0 r1_1 r1_2) = x3 := id rfl
@[simp] theorem h83_p2_o0_x4_y (x3 : Int) (x4 : Int) (x5 : List UInt8) (x73 : Bool) (r0_0 : List UInt8) (r0_1 : Int) (r1_0 : Int) (r1_1 : Int) (r1_2 : List UInt8) : h83_p2_o0_x4 (h83_p2_o0_y x3 x4 x5 x73 r0_0 r0_1 r1_0 r1_1 r1_2) = x4 := id rfl
@[simp] theorem h83_p2_o0_x5_y (x3 : Int) (x4 : Int) (x5 : List UInt8) (x73 : Bool) (r0_0 : List UInt8) (r0_1 : Int) (r1_0 : Int) (r1_1 : Int) (r1_2 : List UInt8) : h83_p2_o0_x5 (h83_p2_o0_y x3 x4 x5 x73 r0_0 r0_1 r1_0 r1_1 r1_2) = x5 := id rfl
@[simp] theorem h83_p2_o0_x73_y (x3 : Int) (x4 : Int) (x5 : List UInt8) (x73 : Bool) (r0_0 : List UInt8) (r0_1 : Int) (r1_0 : Int) (r1_1 : Int) (r1_2 : List UInt8) : h83_p2_o0_x73 (h83_p2_o0_y x3 x4 x5 x73 r0_0 r0_1 r1_0 r1_1 r1_2) = x73 := id rfl
@[simp] theorem h83_p2_o0_r0_0_y (x3 : Int) (x4 : Int) (x5 : List UInt8) (x73 : Bool) (r0_0 : List UInt8) (r0_1 : Int) (r1_0 : Int) (r1_1 : Int) (r1_2 : List UInt8) : h83_p2_o0_r0_0 (h83_p2_o0_y x3 x4 x5 x73 r0_0 r0_1 r1_0 r1_1 r1_2) = r0_0 := id rfl
@[simp] theorem h83_p2_o0_r0_1_y (x3 : Int) (x4 : Int) (x5 : List UInt8) (x73 : Bool) (r0_0 : List UInt8) (r0_1 : Int) (r1_0 : Int) (r1_1 : Int) (r1_2 : List UInt8) : h83_p2_o0_r0_1 (h83_p2_o0_y x3 x4 x5 x73 r0_0 r0_1 r1_0 r1_1 r1_2) = r0_1 := id rfl
@[simp] theorem h83_p2_o0_r1_0_y (x3 : Int) (x4 : Int) (x5 : List UInt8) (x73 : Bool) (r0_0 : List UInt8) (r0_1 : Int) (r1_0 : Int) (r1_1 : Int) (r1_2 : List UInt8) : h83_p2_o0_r1_0 (h83_p2_o0_y x3 x4 x5 x73 r0_0 r0_1 r1_0 r1_1 r1_2) = r1_0 := id rfl
@[simp] theorem h83_p2_o0_r1_1_y (x3 : Int) (x4 : Int) (x5 : List UInt8) (x73 : Bool) (r0_0 : List UInt8) (r0_1 : Int) (r1_0 : Int) (r1_1 : Int) (r1_2 : List UInt8) : h83_p2_o0_r1_1 (h83_p2_o0_y x3 x4 x5 x73 r0_0 r0_1 r1_0 r1_1 r1_2) = r1_1 := id rfl
@[simp] theorem h83_p2_o0_r1_2_y (x3 : Int) (x4 : Int) (x5 : List UInt8) (x73 : Bool) (r0_0 : List UInt8) (r0_1 : Int) (r1_0 : Int) (r1_1 : Int) (r1_2 : List UInt8) : h83_p2_o0_r1_2 (h83_p2_o0_y x3 x4 x5 x73 r0_0 r0_1 r1_0 r1_1 r1_2) = r1_2 := id rfl
theorem h83_p2_eq (x3 : Int) (x4 : Int) (x5 : List UInt8) (r0_0 : List UInt8) (r0_1 : Int) (r1_0 : Int) (r1_1 : Int) (r1_2 : List UInt8) : h83_p2_F (h83_p2_y x3 x4 x5 r0_0 r0_1 r1_0 r1_1 r1_2) = (bif (x4 == (0 : Int)) then (some ((h83_p2_o0_y x3 x4 x5 true r0_0 r0_1 r1_0 r1_1 r1_2))) else (bif (decide (x4 > (1 : Int))) then ((nth x5 (0 : Int)).bind fun c12 => bif ((c12.toNat : Int) == (48 : Int)) then (some ((h83_p2_o0_y x3 x4 x5 true r0_0 r0_1 r1_0 r1_1 r1_2))) else (bif (x5 == ([48] : List UInt8)) then (some ((h83_p2_o0_y x3 x4 x5 (decide (x3 < (0 : Int))) r0_0 r0_1 r1_0 r1_1 r1_2))) else (some ((h83_p2_o0_y x3 x4 x5 false r0_0 r0_1 r1_0 r1_1 r1_2))))) else (bif (x5 == ([48] : List UInt8)) then (some ((h83_p2_o0_y x3 x4 x5 (decide (x3 < (0 : Int))) r0_0 r0_1 r1_0 r1_1 r1_2))) else (some ((h83_p2_o0_y x3 x4 x5 false r0_0 r0_1 r1_0 r1_1 r1_2)))))) := by kernel_rfl
def h83_p3_y (x3 : Int) (x4 : Int) (x5 : List UInt8) (x6 : Int) (r0_0 : List UInt8) (r0_1 : Int) (r1_0 : Int) (r1_1 : Int) (r1_2 : List UInt8) : h83_p3_sh.den := (((), ((), ((), (x3, (x4, (x5, (x6, ((), ((), ((), ((), ((), ((), ((), ((), ((), ((), ((), ((), ((), ((), ((), ((), ((), ((), ((), ((), ((), ((), ((), ((), ((), ((), ((), ((), ((), ((), ((), ((), ((), ((), ((), ((), ((), ((), ((), ((), ((), ((), ((), ((), ((), ((), ((), ((), ((), ((), ((), ((), ((), ((), ((), ((), ((), ((), ((), ((), ((), ((), ((), ((), ((), ((), ((), ((), ((), ((), ((), ((), ((), ((), ((), ((), ((), ((), ((), ((), ((), ((), ((), ((), ((), ((), ((), ((), ((), ((), ((), ())))))))))))))))))))))))))))))))))))))))))))))))))))))))))))))))))))))))))))))))))))))))))))))))))), ((r0_0, (r0_1, ((), ()))), ((r1_0, (r1_1, (r1_2, ((), ((), ()))))), ())), ())
def h83_p3_o0_y (x3 : Int) (x4 : Int) (x5 : List UInt8) (x6 : Int) (r0_0 : List UInt8) (r0_1 : Int) (r1_0 : Int) (r1_1 : Int) (r1_2 : List UInt8) : h83_p3_o0.den := (((), ((), ((), (x3, (x4, (x5, (x6, ((), ((), ((), ((), ((), ((), ((), ((), ((), ((), ((), ((), ((), ((), ((), ((), ((), ((), ((), ((), ((), ((), ((), ((), ((), ((), ((), ((), ((), ((), ((), ((), ((), ((), ((), ((), ((), ((), ((), ((), ((), ((), ((), ((), ((), ((), ((), ((), ((), ((), ((), ((), ((), ((), ((), ((), ((), ((), ((), ((), ((), ((), ((), ((), ((), ((), ((), ((), ((), ((), ((), ((), ((), ((), ((), ((), ((), ((), ((), ((), ((), ((), ((), ((), ((), ((), ((), ((), ((), ((), ((), ())))))))))))))))))))))))))))))))))))))))))))))))))))))))))))))))))))))))))))))))))))))))))))))))))), ((r0_0, (r0_1, ((), ()))), ((r1_0, (r1_1, (r1_2, ((), ((), ()))))), ())), ())
def h83_p3_o0_x3 (z : h83_p3_o0.den) : Int := z.1.2.2.2.1
def h83_p3_o0_x4 (z : h83_p3_o0.den) : Int := z.1.2.2.2.2.1
def h83_p3_o0_x5 (z : h83_p3_o0.den) : List UInt8 := z.1.2.2.2.2.2.1
def h83_p3_o0_x6 (z : h83_p3_o0.den) : Int := z.1.2.2.2.2.2.2.1
def h83_p3_o0_r0_0 (z : h83_p3_o0.den) : List UInt8 := z.2.1.1.1
def h83_p3_o0_r0_1 (z : h83_p3_o0.den) : Int := z.2.1.1.2.1
def h83_p3_o0_r1_0 (z : h83_p3_o0.den) : Int := z.2.1.2.1.1
def h83_p3_o0_r1_1 (z : h83_p3_o0.den) : Int := z.2.1.2.1.2.1
def h83_p3_o0_r1_2 (z : h83_p3_o0.den) : List UInt8 := z.2.1.2.1.2.2.1
@[simp] theorem h83_p3_o0_x3_y (x3 : Int) (x4 : Int) (x5 : List UInt8) (x6 : Int) (r0_0 : List UInt8) (r0_1 : Int) (r1_0 : Int) (r1_1 : Int) (r1_2 : List UInt8) : h83_p3_o0_x3 (h83_p3_o0_y x3 x4 x5 x6 r0_0 r0_1 r1_0 r1_1 r1_2) = x3 := id rfl
@[simp] theorem h83_p3_o0_x4_y (x3 : Int) (x4 : Int) (x5 : List UInt8) (x6 : Int) (r0_0 : List UInt8) (r0_1 : Int) (r1_0 : Int) (r1_1 : Int) (r1_2 : List UInt8) : h83_p3_o0_x4 (h83_p3_o0_y x3 x4 x5 x6 r0_0 r0_1 r1_0 r1_1 r1_2) = x4 := id rfl
@[simp] theorem h83_p3_o0_x5_y (x3 : Int) (x4 : Int) (x5 : List UInt8) (x6 : Int) (r0_0 : List UInt8) (r0_1 : Int) (r1_0 : Int) (r1_1 : Int) (r1_2 : List UInt8) : h83_p3_o0_x5 (h83_p3_o0_y x3 x4 x5 x6 r0_0 r0_1 r1_0 r1_1 r1_2) = x5 := id rfl
@[simp] theorem h83_p3_o0_x6_y (x3 : Int) (x4 : Int) (x5 : List UInt8) (x6 : Int) (r0_0 : List UInt8) (r0_1 : Int) (r1_0 : Int) (r1_1 : Int) (r1_2 : List UInt8) : h83_p3_o0_x6 (h83_p3_o0_y x3 x4 x5 x6 r0_0 r0_1 r1_0 r1_1 r1_2) = x6 := id rfl
@[simp] theorem h83_p3_o0_r0_0_y (x3 : Int) (x4 : Int) (x5 : List UInt8) (x6 : Int) (r0_0 : List UInt8) (r0_1 : Int) (r1_0 : Int) (r1_1 : Int) (r1_2 : List UInt8) : h83_p3_o0_r0_0 (h83_p3_o0_y x3 x4 x5 x6 r0_0 r0_1 r1_0 r1_1 r1_2) = r0_0 := id rfl
@[simp] theorem h83_p3_o0_r0_1_y (x3 : Int) (x4 : Int) (x5 : List UInt8) (x6 : Int) (r0_0 : List UInt8) (r0_1 : Int) (r1_0 : Int) (r1_1 : Int) (r1_2 : List UInt8) : h83_p3_o0_r0_1 (h83_p3_o0_y x3 x4 x5 x6 r0_0 r0_1 r1_0 r1_1 r1_2) = r0_1 := id rfl
@[simp] theorem h83_p3_o0_r1_0_y (x3 : Int) (x4 : Int) (x5 : List UInt8) (x6 : Int) (r0_0 : List UInt8) (r0_1 : Int) (r1_0 : Int) (r1_1 : Int) (r1_2 : List UInt8) : h83_p3_o0_r1_0 (h83_p3_o0_y x3 x4 x5 x6 r0_0 r0_1 r1_0 r1_1 r1_2) = r1_0 := id rfl
@[simp] theorem h83_p3_o0_r1_1_y (x3 : Int) (x4 : Int) (x5 : List UInt8) (x6 : Int) (r0_0 : List UInt8) (r0_1 : Int) (r1_0 : Int) (r1_1 : Int) (r1_2 : List UInt8) : h83_p3_o0_r1_1 (h83_p3_o0_y x3 x4 x5 x6 r0_0 r0_1 r1_0 r1_1 r1_2) = r1_1 := id rfl
@[simp] theorem h83_p3_o0_r1_2_y (x3 : Int) (x4 : Int) (x5 : List UInt8) (x6 : Int) (r0_0 : List UInt8) (r0_1 : Int) (r1_0 : Int) (r1_1 : Int) (r1_2 : List UInt8) : h83_p3_o0_r1_2 (h83_p3_o0_y x3 x4 x5 x6 r0_0 r0_1 r1_0 r1_1 r1_2) = r1_2 := id rfl
def h83_p3_o1_y (x0_0_0 : Int) : h83_p3_o1.den := ((((x0_0_0, ()), ()), ()), (), ())
def h83_p3_o1_x0_0_0 (z : h83_p3_o1.den) : Int := z.1.1.1.1
@[simp] theorem h83_p3_o1_x0_0_0_y (x0_0_0 : Int) : h83_p3_o1_x0_0_0 (h83_p3_o1_y x0_0_0) = x0_0_0 := id rfl
theorem h83_p3_eq (x3 : Int) (x4 : Int) (x5 : List UInt8) (x6 : Int) (r0_0 : List UInt8) (r0_1 : Int) (r1_0 : Int) (r1_1 : Int) (r1_2 : List UInt8) : h83_p3_F (h83_p3_y x3 x4 x5 x6 r0_0 r0_1 r1_0 r1_1 r1_2) = (bif (decide (x4 > (13 : Int))) then ((h45_F (h45_y (2 : Int))).bind fun o15 => (match o15 with | .inl z13 => some (.inl (h83_p3_o0_y x3 x4 x5 x6 r0_0 r0_1 r1_0 r1_1 r1_2)) | .inr z14 => some (.inr ((h83_p3_o1_y (h45_z_x0_0_0 z14)))))) else (some (.inl (h83_p3_o0_y x3 x4 x5 x6 r0_0 r0_1 r1_0 r1_1 r1_2)))) := by kernel_rfl
def h83_p4_y (x3 : Int) (x4 : Int) (x5 : List UInt8) (r0_0 : List UInt8) (r0_1 : Int) (r1_0 : Int) (r1_1 : Int) (r1_2 : List UInt8) : h83_p4_sh.den := (((), ((), ((), (x3, (x4, (x5, ((), ((), ((), ((), ((), ((), ((), ((), ((), ((), ((), ((), ((), ((), ((), ((), ((), ((), ((), ((), ((), ((), ((), ((), ((), ((), ((), ((), ((), ((), ((), ((), ((), ((), ((), ((), ((), ((), ((), ((), ((), ((), ((), ((), ((), ((), ((), ((), ((), ((), ((), ((), ((), ((), ((), ((), ((), ((), ((), ((), ((), ((), ((), ((), ((), ((), ((), ((), ((), ((), ((), ((), ((), ((), ((), ((), ((), ((), ((), ((), ((), ((), ((), ((), ((), ((), ((), ((), ((), ((), ((), ((), ())))))))))))))))))))))))))))))))))))))))))))))))))))))))))))))))))))))))))))))))))))))))))))))))))), ((r0_0, (r0_1, ((), ()))), ((r1_0, (r1_1, (r1_2, ((), ((), ()))))), ())), ())
def h83_p4_o0_y (x3 : Int) (x4 : Int) (x5 : List UInt8) (r0_0 : List UInt8) (r0_1 : Int) (r1_0 : Int) (r1_1 : Int) (r1_2 : List UInt8) : h83_p4_o0.den := (((), ((), ((), (x3, (x4, (x5, ((), ((), ((), ((), ((), ((), ((), ((), ((), ((), ((), ((), ((), ((), ((), ((), ((), ((), ((), ((), ((), ((), ((), ((), ((), ((), ((), ((), ((), ((), ((), ((), ((), ((), ((), ((), ((), ((), ((), ((), ((), ((), ((), ((), ((), ((), ((), ((), ((), ((), ((), ((), ((), ((), ((), ((), ((), ((), ((), ((), ((), ((), ((), ((), ((), ((), ((), ((), ((), ((), ((), ((), ((), ((), ((), ((), ((), ((), ((), ((), ((), ((), ((), ((), ((), ((), ((), ((), ((), ((), ((), ((), ())))))))))))))))))))))))))))))))))))))))))))))))))))))))))))))))))))))))))))))))))))))))))))))))))), ((r0_0, (r0_1, ((), ()))), ((r1_0, (r1_1, (r1_2, ((), ((), ()))))), ())), ())
def h83_p4_o0_x3 (z : h83_p4_o0.den) : Int := z.1.2.2.2.1
def h83_p4_o0_x4 (z : h83_p4_o0.den) : Int := z.1.2.2.2.2.1
def h83_p4_o0_x5 (z : h83_p4_o0.den) : List UInt8 := z.1.2.2.2.2.2.1
def h83_p4_o0_r0_0 (z : h83_p4_o0.den) : List UInt8 := z.2.1.1.1
def h83_p4_o0_r0_1 (z : h83_p4_o0.den) : Int := z.2.1.1.2.1
def h83_p4_o0_r1_0 (z : h83_p4_o0.den) : Int := z.2.1.2.1.1
def h83_p4_o0_r1_1 (z : h83_p4_o0.den) : Int := z.2.1.2.1.2.1
def h83_p4_o0_r1_2 (z : h83_p4_o0.den) : List UInt8 := z.2.1.2.1.2.2.1
@[simp] theorem h83_p4_o0_x3_y (x3 : Int) (x4 : Int) (x5 : List UInt8) (r0_0 : List UInt8) (r0_1 : Int) (r1_0 : Int) (r1_1 : Int) (r1_2 : List UInt8) : h83_p4_o0_x3 (h83_p4_o0_y x3 x4 x5 r0_0 r0_1 r1_0 r1_1 r1_2) = x3 := id rfl
@[simp] theorem h83_p4_o0_x4_y (x3 : Int) (x4 : Int) (x5 : List UInt8) (r0_0 : List UInt8) (r0_1 : Int) (r1_0 : Int) (r1_1 : Int) (r1_2 : List UInt8) : h83_p4_o0_x4 (h83_p4_o0_y x3 x4 x5 r0_0 r0_1 r1_0 r1_1 r1_2) = x4 := id rfl
@[simp] theorem h83_p4_o0_x5_y (x3 : Int) (x4 : Int) (x5 : List UInt8) (r0_0 : List UInt8) (r0_1 : Int) (r1_0 : Int) (r1_1 : Int) (r1_2 : List UInt8) : h83_p4_o0_x5 (h83_p4_o0_y x3 x4 x5 r0_0 r0_1 r1_0 r1_1 r1_2) = x5 := id rfl
@[simp] theorem h83_p4_o0_r0_0_y (x3 : Int) (x4 : Int) (x5 : List UInt8) (r0_0 : List UInt8) (r0_1 : Int) (r1_0 : Int) (r1_1 : Int) (r1_2 : List UInt8) : h83_p4_o0_r0_0 (h83_p4_o0_y x3 x4 x5 r0_0 r0_1 r1_0 r1_1 r1_2) = r0_0 := id rfl
@[simp] theorem h83_p4_o0_r0_1_y (x3 : Int) (x4 : Int) (x5 : List UInt8) (r0_0 : List UInt8) (r0_1 : Int) (r1_0 : Int) (r1_1 : Int) (r1_2 : List UInt8) : h83_p4_o0_r0_1 (h83_p4_o0_y x3 x4 x5 r0_0 r0_1 r1_0 r1_1 r1_2) = r0_1 := id rfl
@[simp] theorem h83_p4_o0_r1_0_y (x3 : Int) (x4 : Int) (x5 : List UInt8) (r0_0 : List UInt8) (r0_1 : Int) (r1_0 : Int) (r1_1 : Int) (r1_2 : List UInt8) : h83_p4_o0_r1_0 (h83_p4_o0_y x3 x4 x5 r0_0 r0_1 r1_0 r1_1 r1_2) = r1_0 := id rfl
@[simp] theorem h83_p4_o0_r1_1_y (x3 : Int) (x4 : Int) (x5 : List UInt8) (r0_0 : List UInt8) (r0_1 : Int) (r1_0 : Int) (r1_1 : Int) (r1_2 : List UInt8) : h83_p4_o0_r1_1 (h83_p4_o0_y x3 x4 x5 r0_0 r0_1 r1_0 r1_1 r1_2) = r1_1 := id rfl
@[simp] theorem h83_p4_o0_r1_2_y (x3 : Int) (x4 : Int) (x5 : List UInt8) (r0_0 : List UInt8) (r0_1 : Int) (r1_0 : Int) (r1_1 : Int) (r1_2 : List UInt8) : h83_p4_o0_r1_2 (h83_p4_o0_y x3 x4 x5 r0_0 r0_1 r1_0 r1_1 r1_2) = r1_2 := id rfl
def h83_p4_o1_y (x0_0_0 : Int) : h83_p4_o1.den := ((((x0_0_0, ()), ()), ()), (), ())
def h83_p4_o1_x0_0_0 (z : h83_p4_o1.den) : Int := z.1.1.1.1
@[simp] theorem h83_p4_o1_x0_0_0_y (x0_0_0 : Int) : h83_p4_o1_x0_0_0 (h83_p4_o1_y x0_0_0) = x0_0_0 := id rfl
theorem h83_p4_eq (x3 : Int) (x4 : Int) (x5 : List UInt8) (r0_0 : List UInt8) (r0_1 : Int) (r1_0 : Int) (r1_1 : Int) (r1_2 : List UInt8) : h83_p4_F (h83_p4_y x3 x4 x5 r0_0 r0_1 r1_0 r1_1 r1_2) = (cutLo r0_0 x4 fun s16 => (h83_p2_F (h83_p2_y x3 x4 x5 s16 r0_1 r1_0 r1_1 r1_2)).bind fun o17 => bif (h83_p2_o0_x73 o17) then ((h45_F (h45_y (20 : Int))).bind fun o20 => (match o20 with | .inl z18 => some (.inl (h83_p4_o0_y (h83_p2_o0_x3 o17) (h83_p2_o0_x4 o17) (h83_p2_o0_x5 o17) (h83_p2_o0_r0_0 o17) (h83_p2_o0_r0_1 o17) (h83_p2_o0_r1_0 o17) (h83_p2_o0_r1_1 o17) (h83_p2_o0_r1_2 o17))) | .inr z19 => some (.inr ((h83_p4_o1_y (h45_z_x0_0_0 z19)))))) else (some (.inl (h83_p4_o0_y (h83_p2_o0_x3 o17) (h83_p2_o0_x4 o17) (h83_p2_o0_x5 o17) (h83_p2_o0_r0_0 o17) (h83_p2_o0_r0_1 o17) (h83_p2_o0_r1_0 o17) (h83_p2_o0_r1_1 o17) (h83_p2_o0_r1_2 o17))))) := by kernel_rfl
def h83_p5_y (x3 : Int) (x4 : Int) (r0_0 : List UInt8) (r0_1 : Int) (r1_0 : Int) (r1_1 : Int) (r1_2 : List UInt8) : h83_p5_sh.den := (((), ((), ((), (x3, (x4, ((), ((), ((), ((), ((), ((), ((), ((), ((), ((), ((), ((), ((), ((), ((), ((), ((), ((), ((), ((), ((), ((), ((), ((), ((), ((), ((), ((), ((), ((), ((), ((), ((), ((), ((), ((), ((), ((), ((), ((), ((), ((), ((), ((), ((), ((), ((), ((), ((), ((), ((), ((), ((), ((), ((), ((), ((), ((), ((), ((), ((), ((), ((), ((), ((), ((), ((), ((), ((), ((), ((), ((), ((), ((), ((), ((), ((), ((), ((), ((), ((), ((), ((), ((), ((), ((), ((), ((), ((), ((), ((), ((), ((), ())))))))))))))))))))))))))))))))))))))))))))))))))))))))))))))))))))))))))))))))))))))))))))))))))), ((r0_0, (r0_1, ((), ()))), ((r1_0, (r1_1, (r1_2, ((), ((), ()))))), ())), ())
def h83_p5_o0_y (x3 : Int) (x4 : Int) (r0_0 : List UInt8) (r0_1 : Int) (r1_0 : Int) (r1_1 : Int) (r1_2 : List UInt8) : h83_p5_o0.den := (((), ((), ((), (x3, (x4, ((), ((), ((), ((), ((), ((), ((), ((), ((), ((), ((), ((), ((), ((), ((), ((), ((), ((), ((), ((), ((), ((), ((), ((), ((), ((), ((), ((), ((), ((), ((), ((), ((), ((), ((), ((), ((), ((), ((), ((), ((), ((), ((), ((), ((), ((), ((), ((), ((), ((), ((), ((), ((), ((), ((), ((), ((), ((), ((), ((), ((), ((), ((), ((), ((), ((), ((), ((), ((), ((), ((), ((), ((), ((), ((), ((), ((), ((), ((), ((), ((), ((), ((), ((), ((), ((), ((), ((), ((), ((), ((), ((), ((), ())))))))))))))))))))))))))))))))))))))))))))))))))))))))))))))))))))))))))))))))))))))))))))))))))), ((r0_0, (r0_1, ((), ()))), ((r1_0, (r1_1, (r1_2, ((), ((), ()))))), ())), ())
def h83_p5_o0_x3 (z : h83_p5_o0.den) : Int := z.1.2.2.2.1
def h83_p5_o0_x4 (z : h83_p5_o0.den) : Int := z.1.2.2.2.2.1
def h83_p5_o0_r0_0 (z : h83_p5_o0.den) : List UInt8 := z.2.1.1.1
def h83_p5_o0_r0_1 (z : h83_p5_o0.den) : Int := z.2.1.1.2.1
def h83_p5_o0_r1_0 (z : h83_p5_o0.den) : Int := z.2.1.2.1.1
def h83_p5_o0_r1_1 (z : h83_p5_o0.den) : Int := z.2.1.2.1.2.1
def h83_p5_o0_r1_2 (z : h83_p5_o0.den) : List UInt8 := z.2.1.2.1.2.2.1
@[simp] theorem h83_p5_o0_x3_y (x3 : Int) (x4 : Int) (r0_0 : List UInt8) (r0_1 : Int) (r1_0 : Int) (r1_1 : Int) (r1_2 : List UInt8) : h83_p5_o0_x3 (h83_p5_o0_y x3 x4 r0_0 r0_1 r1_0 r1_1 r1_2) = x3 := id rfl
@[simp] theorem h83_p5_o0_x4_y (x3 : Int) (x4 : Int) (r0_0 : List UInt8) (r0_1 : Int) (r1_0 : Int) (r1_1 : Int) (r1_2 : List UInt8) : h83_p5_o0_x4 (h83_p5_o0_y x3 x4 r0_0 r0_1 r1_0 r1_1 r1_2) = x4 := id rfl
@[simp] theorem h83_p5_o0_r0_0_y (x3 : Int) (x4 : Int) (r0_0 : List UInt8) (r0_1 : Int) (r1_0 : Int) (r1_1 : Int) (r1_2 : List UInt8) : h83_p5_o0_r0_0 (h83_p5_o0_y x3 x4 r0_0 r0_1 r1_0 r1_1 r1_2) = r0_0 := id rfl
@[simp] theorem h83_p5_o0_r0_1_y (x3 : Int) (x4 : Int) (r0_0 : List UInt8) (r0_1 : Int) (r1_0 : Int) (r1_1 : Int) (r1_2 : List UInt8) : h83_p5_o0_r0_1 (h83_p5_o0_y x3 x4 r0_0 r0_1 r1_0 r1_1 r1_2) = r0_1 := id rfl
@[simp] theorem h83_p5_o0_r1_0_y (x3 : Int) (x4 : Int) (r0_0 : List UInt8) (r0_1 : Int) (r1_0 : Int) (r1_1 : Int) (r1_2 : List UInt8) : h83_p5_o0_r1_0 (h83_p5_o0_y x3 x4 r0_0 r0_1 r1_0 r1_1 r1_2) = r1_0 := id rfl
@[simp] theorem h83_p5_o0_r1_1_y (x3 : Int) (x4 : Int) (r0_0 : List UInt8) (r0_1 : Int) (r1_0 : Int) (r1_1 : Int) (r1_2 : List UInt8) : h83_p5_o0_r1_1 (h83_p5_o0_y x3 x4 r0_0 r0_1 r1_0 r1_1 r1_2) = r1_1 := id rfl
@[simp] theorem h83_p5_o0_r1_2_y (x3 : Int) (x4 : Int) (r0_0 : List UInt8) (r0_1 : Int) (r1_0 : Int) (r1_1 : Int) (r1_2 : List UInt8) : h83_p5_o0_r1_2 (h83_p5_o0_y x3 x4 r0_0 r0_1 r1_0 r1_1 r1_2) = r1_2 := id rfl
theorem h83_p5_eq (rec : h83_p5_sh.den → Option (OutDen h83_p5_outs)) (x3 : Int) (x4 : Int) (r0_0 : List UInt8) (r0_1 : Int) (r1_0 : Int) (r1_1 : Int) (r1_2 : List UInt8) : h83_p5_st rec (h83_p5_y x3 x4 r0_0 r0_1 r1_0 r1_1 r1_2) = (bif (decide (x4 < (r0_0.length : Int))) then ((nth r0_0 x4).bind fun c21 => (f82_F ((c21.toNat : Int), ())).bind fun r22 => bif r22.1 then (rec (h83_p5_y x3 (IntKind.i64.wrap (x4 + (1 : Int))) r0_0 r0_1 r1_0 r1_1 r1_2)) else (some ((h83_p5_o0_y x3 x4 r0_0 r0_1 r1_0 r1_1 r1_2)))) else (some ((h83_p5_o0_y x3 x4 r0_0 r0_1 r1_0 r1_1 r1_2)))) := by kernel_rfl
def h83_p6_y (x3 : Int) (r0_0 : List UInt8) (r0_1 : Int) (r1_0 : Int) (r1_1 : Int) (r1_2 : List UInt8) : h83_p6_sh.den := (((), ((), ((), (x3, ((), ((), ((), ((), ((), ((), ((), ((), ((), ((), ((), ((), ((), ((), ((), ((), ((), ((), ((), ((), ((), ((), ((), ((), ((), ((), ((), ((), ((), ((), ((), ((), ((), ((), ((), ((), ((), ((), ((), ((), ((), ((), ((), ((), ((), ((), ((), ((), ((), ((), ((), ((), ((), ((), ((), ((), ((), ((), ((), ((), ((), ((), ((), ((), ((), ((), ((), ((), ((), ((), ((), ((), ((), ((), ((), ((), ((), ((), ((), ((), ((), ((), ((), ((), ((), ((), ((), ((), ((), ((), ((), ((), ((), ((), ())))))))))))))))))))))))))))))))))))))))))))))))))))))))))))))))))))))))))))))))))))))))))))))))))), ((r0_0, (r0_1, ((), ()))), ((r1_0, (r1_1, (r1_2, ((), ((), ()))))), ())), ())
def h83_p6_o0_y (x3 : Int) (r0_0 : List UInt8) (r0_1 : Int) (r1_0 : Int) (r1_1 : Int) (r1_2 : List UInt8) : h83_p6_o0.den := (((), ((), ((), (x3, ((), ((), ((), ((), ((), ((), ((), ((), ((), ((), ((), ((), ((), ((), ((), ((), ((), ((), ((), ((), ((), ((), ((), ((), ((), ((), ((), ((), ((), ((), ((), ((), ((), ((), ((), ((), ((), ((), ((), ((), ((), ((), ((), ((), ((), ((), ((), ((), ((), ((), ((), ((), ((), ((), ((), ((), ((), ((), ((), ((), ((), ((), ((), ((), ((), ((), ((), ((), ((), ((), ((), ((), ((), ((), ((), ((), ((), ((), ((), ((), ((), ((), ((), ((), ((), ((), ((), ((), ((), ((), ((), ((), ((), ((), ())))))))))))))))))))))))))))))))))))))))))))))))))))))))))))))))))))))))))))))))))))))))))))))))))), ((r0_0, (r0_1, ((), ()))), ((r1_0, (r1_1, (r1_2, ((), ((), ()))))), ())), ())
def h83_p6_o0_x3 (z : h83_p6_o0.den) : Int := z.1.2.2.2.1
def h83_p6_o0_r0_0 (z : h83_p6_o0.den) : List UInt8 := z.2.1.1.1
def h83_p6_o0_r0_1 (z : h83_p6_o0.den) : Int := z.2.1.1.2.1
def h83_p6_o0_r1_0 (z : h83_p6_o0.den) : Int := z.2.1.2.1.1
def h83_p6_o0_r1_1 (z : h83_p6_o0.den) : Int := z.2.1.2.1.2.1
def h83_p6_o0_r1_2 (z : h83_p6_o0.den) : List UInt8 := z.2.1.2.1.2.2.1
@[simp] theorem h83_p6_o0_x3_y (x3 : Int) (r0_0 : List UInt8) (r0_1 : Int) (r1_0 : Int) (r1_1 : Int) (r1_2 : List UInt8) : h83_p6_o0_x3 (h83_p6_o0_y x3 r0_0 r0_1 r1_0 r1_1 r1_2) = x3 := id rfl
@[simp] theorem h83_p6_o0_r0_0_y (x3 : Int) (r0_0 : List UInt8) (r0_1 : Int) (r1_0 : Int) (r1_1 : Int) (r1_2 : List UInt8) : h83_p6_o0_r0_0 (h83_p6_o0_y x3 r0_0 r0_1 r1_0 r1_1 r1_2) = r0_0 := id rfl
@[simp] theorem h83_p6_o0_r0_1_y (x3 : Int) (r0_0 : List UInt8) (r0_1 : Int) (r1_0 : Int) (r1_1 : Int) (r1_2 : List UInt8) : h83_p6_o0_r0_1 (h83_p6_o0_y x3 r0_0 r0_1 r1_0 r1_1 r1_2) = r0_1 := id rfl
@[simp] theorem h83_p6_o0_r1_0_y (x3 : Int) (r0_0 : List UInt8) (r0_1 : Int) (r1_0 : Int) (r1_1 : Int) (r1_2 : List UInt8) : h83_p6_o0_r1_0 (h83_p6_o0_y x3 r0_0 r0_1 r1_0 r1_1 r1_2) = r1_0 := id rfl
@[simp] theorem h83_p6_o0_r1_1_y (x3 : Int) (r0_0 : List UInt8) (r0_1 : Int) (r1_0 : Int) (r1_1 : Int) (r1_2 : List UInt8) : h83_p6_o0_r1_1 (h83_p6_o0_y x3 r0_0 r0_1 r1_0 r1_1 r1_2) = r1_1 := id rfl
@[simp] theorem h83_p6_o0_r1_2_y (x3 : Int) (r0_0 : List UInt8) (r0_1 : Int) (r1_0 : Int) (r1_1 : Int) (r1_2 : List UInt8) : h83_p6_o0_r1_2 (h83_p6_o0_y x3 r0_0 r0_1 r1_0 r1_1 r1_2) = r1_2 := id rfl
theorem h83_p6_eq (x3 : Int) (r0_0 : List UInt8) (r0_1 : Int) (r1_0 : Int) (r1_1 : Int) (r1_2 : List UInt8) : h83_p6_F (h83_p6_y x3 r0_0 r0_1 r1_0 r1_1 r1_2) = ((nth r0_0 (0 : Int)).bind fun c23 => bif ((c23.toNat : Int) == (45 : Int)) then (cutLo r0_0 (1 : Int) fun s24 => some ((h83_p6_o0_y (-1 : Int) s24 r0_1 r1_0 r1_1 r1_2))) else (some ((h83_p6_o0_y x3 r0_0 r0_1 r1_0 r1_1 r1_2)))) := by kernel_rfl
theorem h83_eq (r0_0 : List UInt8) (r0_1 : Int) : h83_F (h83_y r0_0 r0_1) = ((h83_p6_F (h83_p6_y (1 : Int) r0_0 r0_1 (0 : Int) (0 : Int) ([] : List UInt8))).bind fun o25 => (go h83_p5_st (h83_p5_y (h83_p6_o0_x3 o25) (0 : Int) (h83_p6_o0_r0_0 o25) (h83_p6_o0_r0_1 o25) (h83_p6_o0_r1_0 o25) (h83_p6_o0_r1_1 o25) (h83_p6_o0_r1_2 o25))).bind fun o26 => cutHi (h83_p5_o0_r0_0 o26) (h83_p5_o0_x4 o26) fun s27 => (h83_p4_F (h83_p4_y (h83_p5_o0_x3 o26) (h83_p5_o0_x4 o26) s27 (h83_p5_o0_r0_0 o26) (h83_p5_o0_r0_1 o26) (h83_p5_o0_r1_0 o26) (h83_p5_o0_r1_1 o26) (h83_p5_o0_r1_2 o26))).bind fun o28 => (match o28 with | .inl z29 => (h83_p3_F (h83_p3_y (h83_p4_o0_x3 z29) (h83_p4_o0_x4 z29) (h83_p4_o0_x5 z29) (0 : Int) (h83_p4_o0_r0_0 z29) (h83_p4_o0_r0_1 z29) (h83_p4_o0_r1_0 z29) (h83_p4_o0_r1_1 z29) (h83_p4_o0_r1_2 z29))).bind fun o31 => (match o31 with | .inl z32 => (go h83_p0_st (h83_p0_y (h83_p3_o0_x3 z32) (h83_p3_o0_x5 z32) (h83_p3_o0_x6 z32) (h83_p3_o0_x4 z32) (0 : Int) (h83_p3_o0_r0_0 z32) (h83_p3_o0_r0_1 z32) (h83_p3_o0_r1_0 z32) (h83_p3_o0_r1_1 z32) (h83_p3_o0_r1_2 z32))).bind fun o34 => (h83_p1_F (h83_p1_y (h83_p0_o0_x3 o34) (h83_p0_o0_x6 o34) (h83_p0_o0_r0_0 o34) (h83_p0_o0_r0_1 o34) (h83_p0_o0_r1_0 o34) (h83_p0_o0_r1_1 o34) (h83_p0_o0_r1_2 o34))).bind fun o35 => (match o35 with | .inl z36 => (f23_F ((IntKind.i64.wrap ((h83_p1_o0_x3 z36) * (h83_p1_o0_x6 z36))), ())).bind fun r38 => some (.inl (h83_o_y r38.1.1 r38.1.2.1 r38.1.2.2.1 r38.1.2.2.2.1 r38.1.2.2.2.2.1 (h83_p1_o0_r0_0 z36) (h83_p1_o0_r0_1 z36))) | .inr o37 => some (.inr (h83_z_y (h83_p1_o1_x0_0_0 o37)))) | .inr o33 => some (.inr (h83_z_y (h83_p3_o1_x0_0_0 o33)))) | .inr o30 => some (.inr (h83_z_y (h83_p4_o1_x0_0_0 o30))))) := by kernel_rfl
def f104_p0_y (x0 : List Int) (x1 : Int) (x7 : Int) (x8 : Int) : f104_p0_sh.den := ((x0, (x1, ((), ((), ((), ((), ((), (x7, (x8, ((), ((), ((), ((), ((), ((), ((), ((), ((), ((), ()))))))))))))))))))), (), ())
def f104_p0_o0_y : f104_p0_o0.den := (((), ((), ((), ((), ((), ((), ((), ((), ((), ((), ((), ((), ((), ((), ((), ((), ((), ((), ((), ()))))))))))))))))))), (), ())
def f104_p0_o1_y (x4 : Int) : f104_p0_o1.den := (((), ((), ((), ((), (x4, ((), ((), ((), ((), ((), ((), ((), ((), ((), ((), ((), ((), ((), ((), ()))))))))))))))))))), (), ())
def f104_p0_o1_x4 (z : f104_p0_o1.den) : Int := z.1.2.2.2.2.1
@[simp] theorem f104_p0_o1_x4_y (x4 : Int) : f104_p0_o1_x4 (f104_p0_o1_y x4) = x4 := id rfl
theorem f104_p0_eq (rec : f104_p0_sh.den → Option (OutDen f104_p0_outs)) (x0 : List Int) (x1 : Int) (x7 : Int) (x8 : Int) : f104_p0_st rec (f104_p0_y x0 x1 x7 x8) = (bif (decide (x8 < x7)) then ((nth x0 x8).bind fun y39 => bif (x1 == y39) then (some (.inr ((f104_p0_o1_y x8)))) else (rec (f104_p0_y x0 x1 x7 (IntKind.i64.wrap (x8 + (1 : Int)))))) else (some (.inl f104_p0_o0_y))) := by kernel_rfl
theorem f104_eq (a0 : List Int) (a1 : Int) : f104_F (a0, (a1, ())) = ((go f104_p0_st (f104_p0_y a0 a1 (a0.length : Int) (0 : Int))).bind fun o40 => (match o40 with | .inl z41 => some ((-1 : Int), ()) | .inr o42 => some ((f104_p0_o1_x4 o42), ()))) := by kernel_rfl
theorem f86_eq (a0 : List Int) (a1 : Int) : f86_F (a0, (a1, ())) = ((f104_F (a0, (a1, ()))).bind fun r43 => some ((decide (r43.1 ≥ (0 : Int))), ())) := by kernel_rfl
def h63_y (x1 : List UInt8) (r0_0 : List UInt8) (r0_1 : Int) : h63_I.den := (((), (x1, ())), ((r0_0, (r0_1, ((), ()))), ()), ())
def h63_o_y (x0 : Int) (r0_0 : List UInt8) (r0_1 : Int) : h63_O.den := ((x0, ()), ((r0_0, (r0_1, ((), ()))), ()), ())
def h63_o_x0 (z : h63_O.den) : Int := z.1.1
def h63_o_r0_0 (z : h63_O.den) : List UInt8 := z.2.1.1.1
def h63_o_r0_1 (z : h63_O.den) : Int := z.2.1.1.2.1
@[simp] theorem h63_o_x0_y (x0 : Int) (r0_0 : List UInt8) (r0_1 : Int) : h63_o_x0 (h63_o_y x0 r0_0 r0_1) = x0 := id rfl
@[simp] theorem h63_o_r0_0_y (x0 : Int) (r0_0 : List UInt8) (r0_1 : Int) : h63_o_r0_0 (h63_o_y x0 r0_0 r0_1) = r0_0 := id rfl
@[simp] theorem h63_o_r0_1_y (x0 : Int) (r0_0 : List UInt8) (r0_1 : Int) : h63_o_r0_1 (h63_o_y x0 r0_0 r0_1) = r0_1 := id rfl
def h63_z_y (x0_0_0 : Int) : h63_Z.den := ((((x0_0_0, ()), ()), ()), (), ())
def h63_z_x0_0_0 (z : h63_Z.den) : Int := z.1.1.1.1
@[simp] theorem h63_z_x0_0_0_y (x0_0_0 : Int) : h63_z_x0_0_0 (h63_z_y x0_0_0) = x0_0_0 := id rfl
def h63_p0_y (x1 : List UInt8) (x5 : Int) (r0_0 : List UInt8) (r0_1 : Int) : h63_p0_sh.den := (((), (x1, ((), ((), ((), (x5, ((), ((), ((), ((), ((), ((), ((), ((), ((), ((), ((), ((), ((), ((), ((), ((), ((), ()))))))))))))))))))))))), ((r0_0, (r0_1, ((), ()))), ()), ())
def h63_p0_o0_y (x5 : Int) (r0_0 : List UInt8) (r0_1 : Int) : h63_p0_o0.den := (((), ((), ((), ((), ((), (x5, ((), ((), ((), ((), ((), ((), ((), ((), ((), ((), ((), ((), ((), ((), ((), ((), ((), ()))))))))))))))))))))))), ((r0_0, (r0_1, ((), ()))), ()), ())
def h63_p0_o0_x5 (z : h63_p0_o0.den) : Int := z.1.2.2.2.2.2.1
def h63_p0_o0_r0_0 (z : h63_p0_o0.den) : List UInt8 := z.2.1.1.1
def h63_p0_o0_r0_1 (z : h63_p0_o0.den) : Int := z.2.1.1.2.1
@[simp] theorem h63_p0_o0_x5_y (x5 : Int) (r0_0 : List UInt8) (r0_1 : Int) : h63_p0_o0_x5 (h63_p0_o0_y x5 r0_0 r0_1) = x5 := id rfl
@[simp] theorem h63_p0_o0_r0_0_y (x5 : Int) (r0_0 : List UInt8) (r0_1 : Int) : h63_p0_o0_r0_0 (h63_p0_o0_y x5 r0_0 r0_1) = r0_0 := id rfl
@[simp] theorem h63_p0_o0_r0_1_y (x5 : Int) (r0_0 : List UInt8) (r0_1 : Int) : h63_p0_o0_r0_1 (h63_p0_o0_y x5 r0_0 r0_1) = r0_1 := id rfl
def h63_p0_o1_y (x0_0_0 : Int) : h63_p0_o1.den := ((((x0_0_0, ()), ()), ()), (), ())
def h63_p0_o1_x0_0_0 (z : h63_p0_o1.den) : Int := z.1.1.1.1
@[simp] theorem h63_p0_o1_x0_0_0_y (x0_0_0 : Int) : h63_p0_o1_x0_0_0 (h63_p0_o1_y x0_0_0) = x0_0_0 := id rfl
theorem h63_p0_eq (x1 : List UInt8) (x5 : Int) (r0_0 : List UInt8) (r0_1 : Int) : h63_p0_F (h63_p0_y x1 x5 r0_0 r0_1) = ((f86_F ((bytesOf x1), (x5, ()))).bind fun r44 => bif (!r44.1) then ((h45_F (h45_y (20 : Int))).bind fun o47 => (match o47 with | .inl z45 => some (.inl (h63_p0_o0_y x5 r0_0 r0_1)) | .inr z46 => some (.inr ((h63_p0_o1_y (h45_z_x0_0_0 z46)))))) else (some (.inl (h63_p0_o0_y x5 r0_0 r0_1)))) := by kernel_rfl
theorem h63_eq (x1 : List UInt8) (r0_0 : List UInt8) (r0_1 : Int) : h63_F (h63_y x1 r0_0 r0_1) = ((h81_F (h81_y r0_0 r0_1)).bind fun o50 => (match o50 with | .inl z48 => (h63_p0_F (h63_p0_y x1 (h81_o_x0 z48) (h81_o_r0_0 z48) (h81_o_r0_1 z48))).bind fun o51 => (match o51 with | .inl z52 => cutLo (h63_p0_o0_r0_0 z52) (1 : Int) fun s54 => some (.inl (h63_o_y (h63_p0_o0_x5 z52) s54 (h63_p0_o0_r0_1 z52))) | .inr o53 => some (.inr (h63_z_y (h63_p0_o1_x0_0_0 o53)))) | .inr z49 => some (.inr (h63_z_y (h81_z_x0_0_0 z49))))) := by kernel_rfl
def h84_y (r0_0 : List UInt8) (r0_1 : Int) : h84_I.den := (((), ()), ((r0_0, (r0_1, ((), ()))), ()), ())
def h84_o_y (x0 : List UInt8) (r0_0 : List UInt8) (r0_1 : Int) : h84_O.den := ((x0, ()), ((r0_0, (r0_1, ((), ()))), ()), ())
def h84_o_x0 (z : h84_O.den) : List UInt8 := z.1.1
def h84_o_r0_0 (z : h84_O.den) : List UInt8 := z.2.1.1.1
def h84_o_r0_1 (z : h84_O.den) : Int := z.2.1.1.2.1
@[simp] theorem h84_o_x0_y (x0 : List UInt8) (r0_0 : List UInt8) (r0_1 : Int) : h84_o_x0 (h84_o_y x0 r0_0 r0_1) = x0 := id rfl
@[simp] theorem h84_o_r0_0_y (x0 : List UInt8) (r0_0 : List UInt8) (r0_1 : Int) : h84_o_r0_0 (h84_o_y x0 r0_0 r0_1) = r0_0 := id rfl
@[simp] theorem h84_o_r0_1_y (x0 : List UInt8) (r0_0 : List UInt8) (r0_1 : Int) : h84_o_r0_1 (h84_o_y x0 r0_0 r0_1) = r0_1 := id rfl
def h84_z_y (x0_0_0 : Int) : h84_Z.den := ((((x0_0_0, ()), ()), ()), (), ())
def h84_z_x0_0_0 (z : h84_Z.den) : Int := z.1.1.1.1
@[simp] theorem h84_z_x0_0_0_y (x0_0_0 : Int) : h84_z_x0_0_0 (h84_z_y x0_0_0) = x0_0_0 := id rfl
def h84_p0_y (x4 : Int) (r0_0 : List UInt8) (r0_1 : Int) (l0 : List Int) : h84_p0_sh.den := (((), ((), ((), ((), (x4, ((), ((), ((), ((), ((), ((), ((), ((), ((), ((), ((), ((), ((), ((), ((), ((), ((), ((), ((), ((), ((), ((), ((), ((), ((), ((), ((), ((), ((), ((), ((), ((), ()))))))))))))))))))))))))))))))))))))), ((r0_0, (r0_1, ((), ()))), ()), (l0, ()))
def h84_p0_o0_y (x4 : Int) (r0_0 : List UInt8) (r0_1 : Int) (l0 : List Int) : h84_p0_o0.den := (((), ((), ((), ((), (x4, ((), ((), ((), ((), ((), ((), ((), ((), ((), ((), ((), ((), ((), ((), ((), ((), ((), ((), ((), ((), ((), ((), ((), ((), ((), ((), ((), ((), ((), ((), ((), ((), ()))))))))))))))))))))))))))))))))))))), ((r0_0, (r0_1, ((), ()))), ()), (l0, ()))
def h84_p0_o0_x4 (z : h84_p0_o0.den) : Int := z.1.2.2.2.2.1
def h84_p0_o0_r0_0 (z : h84_p0_o0.den) : List UInt8 := z.2.1.1.1
def h84_p0_o0_r0_1 (z : h84_p0_o0.den) : Int := z.2.1.1.2.1
def h84_p0_o0_l0 (z : h84_p0_o0.den) : List Int := z.2.2.1
@[simp] theorem h84_p0_o0_x4_y (x4 : Int) (r0_0 : List UInt8) (r0_1 : Int) (l0 : List Int) : h84_p0_o0_x4 (h84_p0_o0_y x4 r0_0 r0_1 l0) = x4 := id rfl
@[simp] theorem h84_p0_o0_r0_0_y (x4 : Int) (r0_0 : List UInt8) (r0_1 : Int) (l0 : List Int) : h84_p0_o0_r0_0 (h84_p0_o0_y x4 r0_0 r0_1 l0) = r0_0 := id rfl
@[simp] theorem h84_p0_o0_r0_1_y (x4 : Int) (r0_0 : List UInt8) (r0_1 : Int) (l0 : List Int) : h84_p0_o0_r0_1 (h84_p0_o0_y x4 r0_0 r0_1 l0) = r0_1 := id rfl
@[simp] theorem h84_p0_o0_l0_y (x4 : Int) (r0_0 : List UInt8) (r0_1 : Int) (l0 : List Int) : h84_p0_o0_l0 (h84_p0_o0_y x4 r0_0 r0_1 l0) = l0 := id rfl
def h84_p0_o1_y (x0_0_0 : Int) : h84_p0_o1.den := ((((x0_0_0, ()), ()), ()), (), ())
def h84_p0_o1_x0_0_0 (z : h84_p0_o1.den) : Int := z.1.1.1.1
@[simp] theorem h84_p0_o1_x0_0_0_y (x0_0_0 : Int) : h84_p0_o1_x0_0_0 (h84_p0_o1_y x0_0_0) = x0_0_0 := id rfl
theorem h84_p0_eq (x4 : Int) (r0_0 : List UInt8) (r0_1 : Int) (l0 : List Int) : h84_p0_F (h84_p0_y x4 r0_0 r0_1 l0) = (bif ((l0.length : Int) == (4000 : Int)) then ((h45_F (h45_y (2 : Int))).bind fun o57 => (match o57 with | .inl z55 => some (.inl (h84_p0_o0_y x4 r0_0 r0_1 l0)) | .inr z56 => some (.inr ((h84_p0_o1_y (h45_z_x0_0_0 z56)))))) else (some (.inl (h84_p0_o0_y x4 r0_0 r0_1 l0)))) := by kernel_rfl
def h84_p1_y (x4 : Int) (r0_0 : List UInt8) (r0_1 : Int) (l0 : List Int) : h84_p1_sh.den := (((), ((), ((), ((), (x4, ((), ((), ((), ((), ((), ((), ((), ((), ((), ((), ((), ((), ((), ((), ((), ((), ((), ((), ((), ((), ((), ((), ((), ((), ((), ((), ((), ((), ((), ((), ((), ((), ()))))))))))))))))))))))))))))))))))))), ((r0_0, (r0_1, ((), ()))), ()), (l0, ()))
def h84_p1_o0_y (x2 : List UInt8) (r0_0 : List UInt8) (r0_1 : Int) : h84_p1_o0.den := (((), ((), (x2, ((), ((), ((), ((), ((), ((), ((), ((), ((), ((), ((), ((), ((), ((), ((), ((), ((), ((), ((), ((), ((), ((), ((), ((), ((), ((), ((), ((), ((), ((), ((), ((), ((), ((), ()))))))))))))))))))))))))))))))))))))), ((r0_0, (r0_1, ((), ()))), ()), ())
def h84_p1_o0_x2 (z : h84_p1_o0.den) : List UInt8 := z.1.2.2.1
def h84_p1_o0_r0_0 (z : h84_p1_o0.den) : List UInt8 := z.2.1.1.1
def h84_p1_o0_r0_1 (z : h84_p1_o0.den) : Int := z.2.1.1.2.1
@[simp] theorem h84_p1_o0_x2_y (x2 : List UInt8) (r0_0 : List UInt8) (r0_1 : Int) : h84_p1_o0_x2 (h84_p1_o0_y x2 r0_0 r0_1) = x2 := id rfl
@[simp] theorem h84_p1_o0_r0_0_y (x2 : List UInt8) (r0_0 : List UInt8) (r0_1 : Int) : h84_p1_o0_r0_0 (h84_p1_o0_y x2 r0_0 r0_1) = r0_0 := id rfl
@[simp] theorem h84_p1_o0_r0_1_y (x2 : List UInt8) (r0_0 : List UInt8) (r0_1 : Int) : h84_p1_o0_r0_1 (h84_p1_o0_y x2 r0_0 r0_1) = r0_1 := id rfl
def h84_p1_o1_y (x4 : Int) (r0_0 : List UInt8) (r0_1 : Int) (l0 : List Int) : h84_p1_o1.den := (((), ((), ((), ((), (x4, ((), ((), ((), ((), ((), ((), ((), ((), ((), ((), ((), ((), ((), ((), ((), ((), ((), ((), ((), ((), ((), ((), ((), ((), ((), ((), ((), ((), ((), ((), ((), ((), ()))))))))))))))))))))))))))))))))))))), ((r0_0, (r0_1, ((), ()))), ()), (l0, ()))
def h84_p1_o1_x4 (z : h84_p1_o1.den) : Int := z.1.2.2.2.2.1
def h84_p1_o1_r0_0 (z : h84_p1_o1.den) : List UInt8 := z.2.1.1.1
def h84_p1_o1_r0_1 (z : h84_p1_o1.den) : Int := z.2.1.1.2.1
def h84_p1_o1_l0 (z : h84_p1_o1.den) : List Int := z.2.2.1
@[simp] theorem h84_p1_o1_x4_y (x4 : Int) (r0_0 : List UInt8) (r0_1 : Int) (l0 : List Int) : h84_p1_o1_x4 (h84_p1_o1_y x4 r0_0 r0_1 l0) = x4 := id rfl
@[simp] theorem h84_p1_o1_r0_0_y (x4 : Int) (r0_0 : List UInt8) (r0_1 : Int) (l0 : List Int) : h84_p1_o1_r0_0 (h84_p1_o1_y x4 r0_0 r0_1 l0) = r0_0 := id rfl
@[simp] theorem h84_p1_o1_r0_1_y (x4 : Int) (r0_0 : List UInt8) (r0_1 : Int) (l0 : List Int) : h84_p1_o1_r0_1 (h84_p1_o1_y x4 r0_0 r0_1 l0) = r0_1 := id rfl
@[simp] theorem h84_p1_o1_l0_y (x4 : Int) (r0_0 : List UInt8) (r0_1 : Int) (l0 : List Int) : h84_p1_o1_l0 (h84_p1_o1_y x4 r0_0 r0_1 l0) = l0 := id rfl
def h84_p1_o2_y (x0_0_0 : Int) : h84_p1_o2.den := ((((x0_0_0, ()), ()), ()), (), ())
def h84_p1_o2_x0_0_0 (z : h84_p1_o2.den) : Int := z.1.1.1.1
@[simp] theorem h84_p1_o2_x0_0_0_y (x0_0_0 : Int) : h84_p1_o2_x0_0_0 (h84_p1_o2_y x0_0_0) = x0_0_0 := id rfl
theorem h84_p1_eq (x4 : Int) (r0_0 : List UInt8) (r0_1 : Int) (l0 : List Int) : h84_p1_F (h84_p1_y x4 r0_0 r0_1 l0) = (bif (x4 == (34 : Int)) then (some (.inl (h84_p1_o0_y (strOf l0) r0_0 r0_1))) else (bif (x4 == (92 : Int)) then ((h63_F (h63_y ([34, 92] : List UInt8) r0_0 r0_1)).bind fun o60 => (match o60 with | .inl z58 => some (.inr (.inl (h84_p1_o1_y (h63_o_x0 z58) (h63_o_r0_0 z58) (h63_o_r0_1 z58) l0))) | .inr z59 => some (.inr (.inr ((h84_p1_o2_y (h63_z_x0_0_0 z59))))))) else (some (.inr (.inl (h84_p1_o1_y x4 r0_0 r0_1 l0)))))) := by kernel_rfl
def h84_p2_y (x4 : Int) (r0_0 : List UInt8) (r0_1 : Int) (l0 : List Int) : h84_p2_sh.den := (((), ((), ((), ((), (x4, ((), ((), ((), ((), ((), ((), ((), ((), ((), ((), ((), ((), ((), ((), ((), ((), ((), ((), ((), ((), ((), ((), ((), ((), ((), ((), ((), ((), ((), ((), ((), ((), ()))))))))))))))))))))))))))))))))))))), ((r0_0, (r0_1, ((), ()))), ()), (l0, ()))
def h84_p2_o0_y (x4 : Int) (r0_0 : List UInt8) (r0_1 : Int) (l0 : List Int) : h84_p2_o0.den := (((), ((), ((), ((), (x4, ((), ((), ((), ((), ((), ((), ((), ((), ((), ((), ((), ((), ((), ((), ((), ((), ((), ((), ((), ((), ((), ((), ((), ((), ((), ((), ((), ((), ((), ((), ((), ((), ()))))))))))))))))))))))))))))))))))))), ((r0_0, (r0_1, ((), ()))), ()), (l0, ()))
def h84_p2_o0_x4 (z : h84_p2_o0.den) : Int := z.1.2.2.2.2.1
def h84_p2_o0_r0_0 (z : h84_p2_o0.den) : List UInt8 := z.2.1.1.1
def h84_p2_o0_r0_1 (z : h84_p2_o0.den) : Int := z.2.1.1.2.1
def h84_p2_o0_l0 (z : h84_p2_o0.den) : List Int := z.2.2.1
@[simp] theorem h84_p2_o0_x4_y (x4 : Int) (r0_0 : List UInt8) (r0_1 : Int) (l0 : List Int) : h84_p2_o0_x4 (h84_p2_o0_y x4 r0_0 r0_1 l0) = x4 := id rfl
@[simp] theorem h84_p2_o0_r0_0_y (x4 : Int) (r0_0 : List UInt8) (r0_1 : Int) (l0 : List Int) : h84_p2_o0_r0_0 (h84_p2_o0_y x4 r0_0 r0_1 l0) = r0_0 := id rfl
@[simp] theorem h84_p2_o0_r0_1_y (x4 : Int) (r0_0 : List UInt8) (r0_1 : Int) (l0 : List Int) : h84_p2_o0_r0_1 (h84_p2_o0_y x4 r0_0 r0_1 l0) = r0_1 := id rfl
@[simp] theorem h84_p2_o0_l0_y (x4 : Int) (r0_0 : List UInt8) (r0_1 : Int) (l0 : List Int) : h84_p2_o0_l0 (h84_p2_o0_y x4 r0_0 r0_1 l0) = l0 := id rfl
def h84_p2_o1_y (x0_0_0 : Int) : h84_p2_o1.den := ((((x0_0_0, ()), ()), ()), (), ())
def h84_p2_o1_x0_0_0 (z : h84_p2_o1.den) : Int := z.1.1.1.1
@[simp] theorem h84_p2_o1_x0_0_0_y (x0_0_0 : Int) : h84_p2_o1_x0_0_0 (h84_p2_o1_y x0_0_0) = x0_0_0 := id rfl
theorem h84_p2_eq (x4 : Int) (r0_0 : List UInt8) (r0_1 : Int) (l0 : List Int) : h84_p2_F (h84_p2_y x4 r0_0 r0_1 l0) = (bif (decide (x4 < (32 : Int))) then ((h45_F (h45_y (20 : Int))).bind fun o63 => (match o63 with | .inl z61 => some (.inl (h84_p2_o0_y x4 r0_0 r0_1 l0)) | .inr z62 => some (.inr ((h84_p2_o1_y (h45_z_x0_0_0 z62)))))) else (some (.inl (h84_p2_o0_y x4 r0_0 r0_1 l0)))) := by kernel_rfl
def h84_p3_y (r0_0 : List UInt8) (r0_1 : Int) (l0 : List Int) : h84_p3_sh.den := (((), ((), ((), ((), ((), ((), ((), ((), ((), ((), ((), ((), ((), ((), ((), ((), ((), ((), ((), ((), ((), ((), ((), ((), ((), ((), ((), ((), ((), ((), ((), ((), ((), ((), ((), ((), ((), ()))))))))))))))))))))))))))))))))))))), ((r0_0, (r0_1, ((), ()))), ()), (l0, ()))
def h84_p3_o0_y (x0_0_0 : Int) : h84_p3_o0.den := ((((x0_0_0, ()), ()), ()), (), ())
def h84_p3_o0_x0_0_0 (z : h84_p3_o0.den) : Int := z.1.1.1.1
@[simp] theorem h84_p3_o0_x0_0_0_y (x0_0_0 : Int) : h84_p3_o0_x0_0_0 (h84_p3_o0_y x0_0_0) = x0_0_0 := id rfl
def h84_p3_o1_y (x2 : List UInt8) (r0_0 : List UInt8) (r0_1 : Int) : h84_p3_o1.den := (((), ((), (x2, ((), ((), ((), ((), ((), ((), ((), ((), ((), ((), ((), ((), ((), ((), ((), ((), ((), ((), ((), ((), ((), ((), ((), ((), ((), ((), ((), ((), ((), ((), ((), ((), ((), ((), ()))))))))))))))))))))))))))))))))))))), ((r0_0, (r0_1, ((), ()))), ()), ())
def h84_p3_o1_x2 (z : h84_p3_o1.den) : List UInt8 := z.1.2.2.1
def h84_p3_o1_r0_0 (z : h84_p3_o1.den) : List UInt8 := z.2.1.1.1
def h84_p3_o1_r0_1 (z : h84_p3_o1.den) : Int := z.2.1.1.2.1
@[simp] theorem h84_p3_o1_x2_y (x2 : List UInt8) (r0_0 : List UInt8) (r0_1 : Int) : h84_p3_o1_x2 (h84_p3_o1_y x2 r0_0 r0_1) = x2 := id rfl
@[simp] theorem h84_p3_o1_r0_0_y (x2 : List UInt8) (r0_0 : List UInt8) (r0_1 : Int) : h84_p3_o1_r0_0 (h84_p3_o1_y x2 r0_0 r0_1) = r0_0 := id rfl
@[simp] theorem h84_p3_o1_r0_1_y (x2 : List UInt8) (r0_0 : List UInt8) (r0_1 : Int) : h84_p3_o1_r0_1 (h84_p3_o1_y x2 r0_0 r0_1) = r0_1 := id rfl
theorem h84_p3_eq (rec : h84_p3_sh.den → Option (OutDen h84_p3_outs)) (r0_0 : List UInt8) (r0_1 : Int) (l0 : List Int) : h84_p3_st rec (h84_p3_y r0_0 r0_1 l0) = ((h81_F (h81_y r0_0 r0_1)).bind fun o66 => (match o66 with | .inl z64 => (h84_p2_F (h84_p2_y (h81_o_x0 z64) (h81_o_r0_0 z64) (h81_o_r0_1 z64) l0)).bind fun o67 => (match o67 with | .inl z68 => cutLo (h84_p2_o0_r0_0 z68) (1 : Int) fun s70 => (h84_p1_F (h84_p1_y (h84_p2_o0_x4 z68) s70 (h84_p2_o0_r0_1 z68) (h84_p2_o0_l0 z68))).bind fun o71 => (match o71 with | .inl z72 => some (.inr ((h84_p3_o1_y (h84_p1_o0_x2 z72) (h84_p1_o0_r0_0 z72) (h84_p1_o0_r0_1 z72)))) | .inr o73 => (match o73 with | .inl z74 => (h84_p0_F (h84_p0_y (h84_p1_o1_x4 z74) (h84_p1_o1_r0_0 z74) (h84_p1_o1_r0_1 z74) (h84_p1_o1_l0 z74))).bind fun o76 => (match o76 with | .inl z77 => appOk ((h84_p0_o0_l0 z77).length + [(h84_p0_o0_x4 z77)].length) (rec (h84_p3_y (h84_p0_o0_r0_0 z77) (h84_p0_o0_r0_1 z77) ((h84_p0_o0_l0 z77) ++ [(h84_p0_o0_x4 z77)]))) | .inr o78 => some (.inl (h84_p3_o0_y (h84_p0_o1_x0_0_0 o78)))) | .inr o75 => some (.inl (h84_p3_o0_y (h84_p1_o2_x0_0_0 o75))))) | .inr o69 => some (.inl (h84_p3_o0_y (h84_p2_o1_x0_0_0 o69)))) | .inr z65 => some (.inl (h84_p3_o0_y (h81_z_x0_0_0 z65))))) := by kernel_rfl
theorem h84_eq (r0_0 : List UInt8) (r0_1 : Int) : h84_F (h84_y r0_0 r0_1) = ((h63_F (h63_y ([34] : List UInt8) r0_0 r0_1)).bind fun o81 => (match o81 with | .inl z79 => (go h84_p3_st (h84_p3_y (h63_o_r0_0 z79) (h63_o_r0_1 z79) ([] : List (Int)))).bind fun o82 => (match o82 with | .inl z83 => some (.inr (h84_z_y (h84_p3_o0_x0_0_0 z83))) | .inr o84 => some (.inl (h84_o_y (h84_p3_o1_x2 o84) (h84_p3_o1_r0_0 o84) (h84_p3_o1_r0_1 o84)))) | .inr z80 => some (.inr (h84_z_y (h63_z_x0_0_0 z80))))) := by kernel_rfl
theorem f64_eq (a0_0 : Int) (a0_1 : Int) (a0_2 : List UInt8) (a0_3 : List V) (a0_4 : List (List UInt8)) : f64_F ((a0_0, (a0_1, (a0_2, (a0_3, (a0_4, ()))))), ()) = (bif (a0_0 == (4 : Int)) then (some ((125 : Int), ())) else (some ((93 : Int), ()))) := by kernel_rfl
def h85_y (x1_0 : Int) (x1_1 : Int) (x1_2 : List UInt8) (r0_0 : List UInt8) (r0_1 : Int) (r0_2 : List V) : h85_I.den := (((), ((x1_0, (x1_1, (x1_2, ((), ((), ()))))), ())), ((r0_0, (r0_1, (r0_2, ()))), ()), ())
def h85_o_y (r0_0 : List UInt8) (r0_1 : Int) (r0_2 : List V) : h85_O.den := ((), ((r0_0, (r0_1, (r0_2, ()))), ()), ())
def h85_o_r0_0 (z : h85_O.den) : List UInt8 := z.2.1.1.1
def h85_o_r0_1 (z : h85_O.den) : Int := z.2.1.1.2.1
def h85_o_r0_2 (z : h85_O.den) : List V := z.2.1.1.2.2.1
@[simp] theorem h85_o_r0_0_y (r0_0 : List UInt8) (r0_1 : Int) (r0_2 : List V) : h85_o_r0_0 (h85_o_y r0_0 r0_1 r0_2) = r0_0 := id rfl
@[simp] theorem h85_o_r0_1_y (r0_0 : List UInt8) (r0_1 : Int) (r0_2 : List V) : h85_o_r0_1 (h85_o_y r0_0 r0_1 r0_2) = r0_1 := id rfl
@[simp] theorem h85_o_r0_2_y (r0_0 : List UInt8) (r0_1 : Int) (r0_2 : List V) : h85_o_r0_2 (h85_o_y r0_0 r0_1 r0_2) = r0_2 := id rfl
theorem h85_eq (x1_0 : Int) (x1_1 : Int) (x1_2 : List UInt8) (r0_0 : List UInt8) (r0_1 : Int) (r0_2 : List V) : h85_F (h85_y x1_0 x1_1 x1_2 r0_0 r0_1 r0_2) = (appOk (r0_2.length + 1) (sameInt (r0_2.length : Int) (r0_2.length : Int) (some (h85_o_y r0_0 r0_1 (r0_2 ++ [(V.mk x1_0 x1_1 x1_2 ([] : List V) ([] : List (List UInt8)))]))))) := by kernel_rfl
def h66_y (r0_0 : List UInt8) (r0_1 : Int) (r0_2 : List V) : h66_I.den := (((), ()), ((r0_0, (r0_1, (r0_2, ()))), ()), ())
def h66_o_y (r0_0 : List UInt8) (r0_1 : Int) (r0_2 : List V) : h66_O.den := ((), ((r0_0, (r0_1, (r0_2, ()))), ()), ())
def h66_o_r0_0 (z : h66_O.den) : List UInt8 := z.2.1.1.1
def h66_o_r0_1 (z : h66_O.den) : Int := z.2.1.1.2.1
def h66_o_r0_2 (z : h66_O.den) : List V := z.2.1.1.2.2.1
@[simp] theorem h66_o_r0_0_y (r0_0 : List UInt8) (r0_1 : Int) (r0_2 : List V) : h66_o_r0_0 (h66_o_y r0_0 r0_1 r0_2) = r0_0 := id rfl
@[simp] theorem h66_o_r0_1_y (r0_0 : List UInt8) (r0_1 : Int) (r0_2 : List V) : h66_o_r0_1 (h66_o_y r0_0 r0_1 r0_2) = r0_1 := id rfl
@[simp] theorem h66_o_r0_2_y (r0_0 : List UInt8) (r0_1 : Int) (r0_2 : List V) : h66_o_r0_2 (h66_o_y r0_0 r0_1 r0_2) = r0_2 := id rfl
def h66_z_y (x0_0_0 : Int) : h66_Z.den := ((((x0_0_0, ()), ()), ()), (), ())
def h66_z_x0_0_0 (z : h66_Z.den) : Int := z.1.1.1.1
@[simp] theorem h66_z_x0_0_0_y (x0_0_0 : Int) : h66_z_x0_0_0 (h66_z_y x0_0_0) = x0_0_0 := id rfl
theorem h66_eq (r0_0 : List UInt8) (r0_1 : Int) (r0_2 : List V) : h66_F (h66_y r0_0 r0_1 r0_2) = ((h84_F (h84_y r0_0 r0_1)).bind fun o87 => (match o87 with | .inl z85 => (lastOf r0_2).bind fun p88 => appOk (p88.1.length + 1) (bif (decide ((p88.2.keys.length : Int) > (0 : Int))) then (within (IntKind.i64.wrap ((p88.2.keys.length : Int) - (1 : Int))) p88.2.keys.length ((p88.2.keys[(Int.toNat (IntKind.i64.wrap ((p88.2.keys.length : Int) - (1 : Int))))]?).bind fun e89 => bif (!(Op.bytesLess e89 (h84_o_x0 z85))) then ((h45_F (h45_y (23 : Int))).bind fun o92 => (match o92 with | .inl z90 => appOk (p88.2.keys.length + [(h84_o_x0 z85)].length) ((h63_F (h63_y ([58] : List UInt8) (h84_o_r0_0 z85) (h84_o_r0_1 z85))).bind fun o95 => (match o95 with | .inl z93 => some (.inl (h66_o_y (h63_o_r0_0 z93) (h63_o_r0_1 z93) (p88.1 ++ [(V.mk p88.2.kind p88.2.n p88.2.s p88.2.items (p88.2.keys ++ [(h84_o_x0 z85)]))]))) | .inr z94 => some (.inr (h66_z_y (h63_z_x0_0_0 z94))))) | .inr z91 => some (.inr (h66_z_y (h45_z_x0_0_0 z91))))) else (appOk (p88.2.keys.length + [(h84_o_x0 z85)].length) ((h63_F (h63_y ([58] : List UInt8) (h84_o_r0_0 z85) (h84_o_r0_1 z85))).bind fun o98 => (match o98 with | .inl z96 => some (.inl (h66_o_y (h63_o_r0_0 z96) (h63_o_r0_1 z96) (p88.1 ++ [(V.mk p88.2.kind p88.2.n p88.2.s p88.2.items (p88.2.keys ++ [(h84_o_x0 z85)]))]))) | .inr z97 => some (.inr (h66_z_y (h63_z_x0_0_0 z97)))))))) else (appOk (p88.2.keys.length + [(h84_o_x0 z85)].length) ((h63_F (h63_y ([58] : List UInt8) (h84_o_r0_0 z85) (h84_o_r0_1 z85))).bind fun o101 => (match o101 with | .inl z99 => some (.inl (h66_o_y (h63_o_r0_0 z99) (h63_o_r0_1 z99) (p88.1 ++ [(V.mk p88.2.kind p88.2.n p88.2.s p88.2.items (p88.2.keys ++ [(h84_o_x0 z85)]))]))) | .inr z100 => some (.inr (h66_z_y (h63_z_x0_0_0 z100))))))) | .inr z86 => some (.inr (h66_z_y (h84_z_x0_0_0 z86))))) := by kernel_rfl
def h61_y (r0_0 : List UInt8) (r0_1 : Int) (r0_2 : List V) : h61_I.den := (((), ()), ((r0_0, (r0_1, (r0_2, ()))), ()), ())
def h61_o_y (x0_0 : Int) (x0_1 : Int) (x0_2 : List UInt8) (x0_3 : List V) (x0_4 : List (List UInt8)) (x1 : Bool) (r0_0 : List UInt8) (r0_1 : Int) (r0_2 : List V) : h61_O.den := (((x0_0, (x0_1, (x0_2, (x0_3, (x0_4, ()))))), (x1, ())), ((r0_0, (r0_1, (r0_2, ()))), ()), ())
def h61_o_x0_0 (z : h61_O.den) : Int := z.1.1.1
def h61_o_x0_1 (z : h61_O.den) : Int := z.1.1.2.1
def h61_o_x0_2 (z : h61_O.den) : List UInt8 := z.1.1.2.2.1
def h61_o_x0_3 (z : h61_O.den) : List V := z.1.1.2.2.2.1
def h61_o_x0_4 (z : h61_O.den) : List (List UInt8) := z.1.1.2.2.2.2.1
def h61_o_x1 (z : h61_O.den) : Bool := z.1.2.1
def h61_o_r0_0 (z : h61_O.den) : List UInt8 := z.2.1.1.1
def h61_o_r0_1 (z : h61_O.den) : Int := z.2.1.1.2.1
def h61_o_r0_2 (z : h61_O.den) : List V := z.2.1.1.2.2.1
@[simp] theorem h61_o_x0_0_y (x0_0 : Int) (x0_1 : Int) (x0_2 : List UInt8) (x0_3 : List V) (x0_4 : List (List UInt8)) (x1 : Bool) (r0_0 : List UInt8) (r0_1 : Int) (r0_2 : List V) : h61_o_x0_0 (h61_o_y x0_0 x0_1 x0_2 x0_3 x0_4 x1 r0_0 r0_1 r0_2) = x0_0 := id rfl
@[simp] theorem h61_o_x0_1_y (x0_0 : Int) (x0_1 : Int) (x0_2 : List UInt8) (x0_3 : List V) (x0_4 : List (List UInt8)) (x1 : Bool) (r0_0 : List UInt8) (r0_1 : Int) (r0_2 : List V) : h61_o_x0_1 (h61_o_y x0_0 x0_1 x0_2 x0_3 x0_4 x1 r0_0 r0_1 r0_2) = x0_1 := id rfl
@[simp] theorem h61_o_x0_2_y (x0_0 : Int) (x0_1 : Int) (x0_2 : List UInt8) (x0_3 : List V) (x0_4 : List (List UInt8)) (x1 : Bool) (r0_0 : List UInt8) (r0_1 : Int) (r0_2 : List V) : h61_o_x0_2 (h61_o_y x0_0 x0_1 x0_2 x0_3 x0_4 x1 r0_0 r0_1 r0_2) = x0_2 := id rfl
@[simp] theorem h61_o_x0_3_y (x0_0 : Int) (x0_1 : Int) (x0_2 : List UInt8) (x0_3 : List V) (x0_4 : List (List UInt8)) (x1 : Bool) (r0_0 : List UInt8) (r0_1 : Int) (r0_2 : List V) : h61_o_x0_3 (h61_o_y x0_0 x0_1 x0_2 x0_3 x0_4 x1 r0_0 r0_1 r0_2) = x0_3 := id rfl
@[simp] theorem h61_o_x0_4_y (x0_0 : Int) (x0_1 : Int) (x0_2 : List UInt8) (x0_3 : List V) (x0_4 : List (List UInt8)) (x1 : Bool) (r0_0 : List UInt8) (r0_1 : Int) (r0_2 : List V) : h61_o_x0_4 (h61_o_y x0_0 x0_1 x0_2 x0_3 x0_4 x1 r0_0 r0_1 r0_2) = x0_4 := id rfl
@[simp] theorem h61_o_x1_y (x0_0 : Int) (x0_1 : Int) (x0_2 : List UInt8) (x0_3 : List V) (x0_4 : List (List UInt8)) (x1 : Bool) (r0_0 : List UInt8) (r0_1 : Int) (r0_2 : List V) : h61_o_x1 (h61_o_y x0_0 x0_1 x0_2 x0_3 x0_4 x1 r0_0 r0_1 r0_2) = x1 := id rfl
@[simp] theorem h61_o_r0_0_y (x0_0 : Int) (x0_1 : Int) (x0_2 : List UInt8) (x0_3 : List V) (x0_4 : List (List UInt8)) (x1 : Bool) (r0_0 : List UInt8) (r0_1 : Int) (r0_2 : List V) : h61_o_r0_0 (h61_o_y x0_0 x0_1 x0_2 x0_3 x0_4 x1 r0_0 r0_1 r0_2) = r0_0 := id rfl
@[simp] theorem h61_o_r0_1_y (x0_0 : Int) (x0_1 : Int) (x0_2 : List UInt8) (x0_3 : List V) (x0_4 : List (List UInt8)) (x1 : Bool) (r0_0 : List UInt8) (r0_1 : Int) (r0_2 : List V) : h61_o_r0_1 (h61_o_y x0_0 x0_1 x0_2 x0_3 x0_4 x1 r0_0 r0_1 r0_2) = r0_1 := id rfl
@[simp] theorem h61_o_r0_2_y (x0_0 : Int) (x0_1 : Int) (x0_2 : List UInt8) (x0_3 : List V) (x0_4 : List (List UInt8)) (x1 : Bool) (r0_0 : List UInt8) (r0_1 : Int) (r0_2 : List V) : h61_o_r0_2 (h61_o_y x0_0 x0_1 x0_2 x0_3 x0_4 x1 r0_0 r0_1 r0_2) = r0_2 := id rfl
def h61_z_y (x0_0_0 : Int) : h61_Z.den := ((((x0_0_0, ()), ()), ()), (), ())
def h61_z_x0_0_0 (z : h61_Z.den) : Int := z.1.1.1.1
@[simp] theorem h61_z_x0_0_0_y (x0_0_0 : Int) : h61_z_x0_0_0 (h61_z_y x0_0_0) = x0_0_0 := id rfl
def h61_p0_y (r0_0 : List UInt8) (r0_1 : Int) (r0_2 : List V) (r1_0 : Int) (r1_1 : Int) (r1_2 : List UInt8) (r2_0 : Int) (r2_1 : Int) (r2_2 : List UInt8) : h61_p0_sh.den := (((), ((), ((), ((), ((), ((), ((), ((), ((), ((), ((), ((), ((), ((), ((), ((), ((), ((), ((), ((), ((), ((), ((), ((), ((), ((), ((), ((), ((), ((), ((), ((), ((), ((), ((), ((), ((), ((), ((), ((), ((), ((), ((), ((), ((), ((), ((), ((), ((), ((), ((), ((), ((), ((), ((), ((), ((), ((), ((), ((), ((), ((), ((), ((), ((), ((), ((), ((), ((), ((), ((), ((), ((), ((), ((), ((), ((), ((), ((), ((), ((), ((), ((), ((), ((), ((), ())))))))))))))))))))))))))))))))))))))))))))))))))))))))))))))))))))))))))))))))))))))), ((r0_0, (r0_1, (r0_2, ()))), ((r1_0, (r1_1, (r1_2, ((), ((), ()))))), ((r2_0, (r2_1, (r2_2, ((), ((), ()))))), ()))), ())
def h61_p0_o0_y (x65 : Bool) (r0_0 : List UInt8) (r0_1 : Int) (r0_2 : List V) (r1_0 : Int) (r1_1 : Int) (r1_2 : List UInt8) (r2_0 : Int) (r2_1 : Int) (r2_2 : List UInt8) : h61_p0_o0.den := (((), ((), ((), ((), ((), ((), ((), ((), ((), ((), ((), ((), ((), ((), ((), ((), ((), ((), ((), ((), ((), ((), ((), ((), ((), ((), ((), ((), ((), ((), ((), ((), ((), ((), ((), ((), ((), ((), ((), ((), ((), ((), ((), ((), ((), ((), ((), ((), ((), ((), ((), ((), ((), ((), ((), ((), ((), ((), ((), ((), ((), ((), ((), ((), ((), (x65, ((), ((), ((), ((), ((), ((), ((), ((), ((), ((), ((), ((), ((), ((), ((), ((), ((), ((), ((), ((), ())))))))))))))))))))))))))))))))))))))))))))))))))))))))))))))))))))))))))))))))))))))), ((r0_0, (r0_1, (r0_2, ()))), ((r1_0, (r1_1, (r1_2, ((), ((), ()))))), ((r2_0, (r2_1, (r2_2, ((), ((), ()))))), ()))), ())
def h61_p0_o0_x65 (z : h61_p0_o0.den) : Bool := z.1.2.2.2.2.2.2.2.2.2.2.2.2.2.2.2.2.2.2.2.2.2.2.2.2.2.2.2.2.2.2.2.2.2.2.2.2.2.2.2.2.2.2.2.2.2.2.2.2.2.2.2.2.2.2.2.2.2.2.2.2.2.2.2.2.2.1
def h61_p0_o0_r0_0 (z : h61_p0_o0.den) : List UInt8 := z.2.1.1.1
def h61_p0_o0_r0_1 (z : h61_p0_o0.den) : Int := z.2.1.1.2.1
def h61_p0_o0_r0_2 (z : h61_p0_o0.den) : List V := z.2.1.1.2.2.1
def h61_p0_o0_r1_0 (z : h61_p0_o0.den) : Int := z.2.1.2.1.1
def h61_p0_o0_r1_1 (z : h61_p0_o0.den) : Int := z.2.1.2.1.2.1
def h61_p0_o0_r1_2 (z : h61_p0_o0.den) : List UInt8 := z.2.1.2.1.2.2.1
def h61_p0_o0_r2_0 (z : h61_p0_o0.den) : Int := z.2.1.2.2.1.1
def h61_p0_o0_r2_1 (z : h61_p0_o0.den) : Int := z.2.1.2.2.1.2.1
def h61_p0_o0_r2_2 (z : h61_p0_o0.den) : List UInt8 := z.2.1.2.2.1.2.2.1
@[simp] theorem h61_p0_o0_x65_y (x65 : Bool) (r0_0 : List UInt8) (r0_1 : Int) (r0_2 : List V) (r1_0 : Int) (r1_1 : Int) (r1_2 : List UInt8) (r2_0 : Int) (r2_1 : Int) (r2_2 : List UInt8) : h61_p0_o0_x65 (h61_p0_o0_y x65 r0_0 r0_1 r0_2 r1_0 r1_1 r1_2 r2_0 r2_1 r2_2) = x65 := id rfl
@[simp] theorem h61_p0_o0_r0_0_y (x65 : Bool) (r0_0 : List UInt8) (r0_1 : Int) (r0_2 : List V) (r1_0 : Int) (r1_1 : Int) (r1_2 : List UInt8) (r2_0 : Int) (r2_1 : Int) (r2_2 : List UInt8) : h61_p0_o0_r0_0 (h61_p0_o0_y x65 r0_0 r0_1 r0_2 r1_0 r1_1 r1_2 r2_0 r2_1 r2_2) = r0_0 := id rfl
@[simp] theorem h61_p0_o0_r0_1_y (x65 : Bool) (r0_0 : List UInt8) (r0_1 : Int) (r0_2 : List V) (r1_0 : Int) (r1_1 : Int) (r1_2 : List UInt8) (r2_0 : Int) (r2_1 : Int) (r2_2 : List UInt8) : h61_p0_o0_r0_1 (h61_p0_o0_y x65 r0_0 r0_1 r0_2 r1_0 r1_1 r1_2 r2_0 r2_1 r2_2) = r0_1 := id rfl
@[simp] theorem h61_p0_o0_r0_2_y (x65 : Bool) (r0_0 : List UInt8) (r0_1 : Int) (r0_2 : List V) (r1_0 : Int) (r1_1 : Int) (r1_2 : List UInt8) (r2_0 : Int) (r2_1 : Int) (r2_2 : List UInt8) : h61_p0_o0_r0_2 (h61_p0_o0_y x65 r0_0 r0_1 r0_2 r1_0 r1_1 r1_2 r2_0 r2_1 r2_2) = r0_2 := id rfl
@[simp] theorem h61_p0_o0_r1_0_y (x65 : Bool) (r0_0 : List UInt8) (r0_1 : Int) (r0_2 : List V) (r1_0 : Int) (r1_1 : Int) (r1_2 : List UInt8) (r2_0 : Int) (r2_1 : Int) (r2_2 : List UInt8) : h61_p0_o0_r1_0 (h61_p0_o0_y x65 r0_0 r0_1 r0_2 r1_0 r1_1 r1_2 r2_0 r2_1 r2_2) = r1_0 := id rfl
@[simp] theorem h61_p0_o0_r1_1_y (x65 : Bool) (r0_0 : List UInt8) (r0_1 : Int) (r0_2 : List V) (r1_0 : Int) (r1_1 : Int) (r1_2 : List UInt8) (r2_0 : Int) (r2_1 : Int) (r2_2 : List UInt8) : h61_p0_o0_r1_1 (h61_p0_o0_y x65 r0_0 r0_1 r0_2 r1_0 r1_1 r1_2 r2_0 r2_1 r2_2) = r1_1 := id rfl
@[simp] theorem h61_p0_o0_r1_2_y (x65 : Bool) (r0_0 : List UInt8) (r0_1 : Int) (r0_2 : List V) (r1_0 : Int) (r1_1 : Int) (r1_2 : List UInt8) (r2_0 : Int) (r2_1 : Int) (r2_2 : List UInt8) : h61_p0_o0_r1_2 (h61_p0_o0_y x65 r0_0 r0_1 r0_2 r1_0 r1_1 r1_2 r2_0 r2_1 r2_2) = r1_2 := id rfl
@[simp] theorem h61_p0_o0_r2_0_y (x65 : Bool) (r0_0 : List UInt8) (r0_1 : Int) (r0_2 : List V) (r1_0 : Int) (r1_1 : Int) (r1_2 : List UInt8) (r2_0 : Int) (r2_1 : Int) (r2_2 : List UInt8) : h61_p0_o0_r2_0 (h61_p0_o0_y x65 r0_0 r0_1 r0_2 r1_0 r1_1 r1_2 r2_0 r2_1 r2_2) = r2_0 := id rfl
@[simp] theorem h61_p0_o0_r2_1_y (x65 : Bool) (r0_0 : List UInt8) (r0_1 : Int) (r0_2 : List V) (r1_0 : Int) (r1_1 : Int) (r1_2 : List UInt8) (r2_0 : Int) (r2_1 : Int) (r2_2 : List UInt8) : h61_p0_o0_r2_1 (h61_p0_o0_y x65 r0_0 r0_1 r0_2 r1_0 r1_1 r1_2 r2_0 r2_1 r2_2) = r2_1 := id rfl
@[simp] theorem h61_p0_o0_r2_2_y (x65 : Bool) (r0_0 : List UInt8) (r0_1 : Int) (r0_2 : List V) (r1_0 : Int) (r1_1 : Int) (r1_2 : List UInt8) (r2_0 : Int) (r2_1 : Int) (r2_2 : List UInt8) : h61_p0_o0_r2_2 (h61_p0_o0_y x65 r0_0 r0_1 r0_2 r1_0 r1_1 r1_2 r2_0 r2_1 r2_2) = r2_2 := id rfl
theorem h61_p0_eq (r0_0 : List UInt8) (r0_1 : Int) (r0_2 : List V) (r1_0 : Int) (r1_1 : Int) (r1_2 : List UInt8) (r2_0 : Int) (r2_1 : Int) (r2_2 : List UInt8) : h61_p0_F (h61_p0_y r0_0 r0_1 r0_2 r1_0 r1_1 r1_2 r2_0 r2_1 r2_2) = (bif (r0_0 != ([] : List UInt8)) then ((nth r0_0 (0 : Int)).bind fun c102 => (f64_F ((r2_0, (r2_1, (r2_2, (([] : List V), (([] : List (List UInt8)), ()))))), ())).bind fun r103 => some ((h61_p0_o0_y ((c102.toNat : Int) == r103.1) r0_0 r0_1 r0_2 r1_0 r1_1 r1_2 r2_0 r2_1 r2_2))) else (some ((h61_p0_o0_y false r0_0 r0_1 r0_2 r1_0 r1_1 r1_2 r2_0 r2_1 r2_2)))) := by kernel_rfl
def h61_p1_y (r0_0 : List UInt8) (r0_1 : Int) (r0_2 : List V) (r1_0 : Int) (r1_1 : Int) (r1_2 : List UInt8) (r2_0 : Int) (r2_1 : Int) (r2_2 : List UInt8) : h61_p1_sh.den := (((), ((), ((), ((), ((), ((), ((), ((), ((), ((), ((), ((), ((), ((), ((), ((), ((), ((), ((), ((), ((), ((), ((), ((), ((), ((), ((), ((), ((), ((), ((), ((), ((), ((), ((), ((), ((), ((), ((), ((), ((), ((), ((), ((), ((), ((), ((), ((), ((), ((), ((), ((), ((), ((), ((), ((), ((), ((), ((), ((), ((), ((), ((), ((), ((), ((), ((), ((), ((), ((), ((), ((), ((), ((), ((), ((), ((), ((), ((), ((), ((), ((), ((), ((), ((), ((), ())))))))))))))))))))))))))))))))))))))))))))))))))))))))))))))))))))))))))))))))))))))), ((r0_0, (r0_1, (r0_2, ()))), ((r1_0, (r1_1, (r1_2, ((), ((), ()))))), ((r2_0, (r2_1, (r2_2, ((), ((), ()))))), ()))), ())
def h61_p1_o0_y (r0_0 : List UInt8) (r0_1 : Int) (r0_2 : List V) (r1_0 : Int) (r1_1 : Int) (r1_2 : List UInt8) : h61_p1_o0.den := (((), ((), ((), ((), ((), ((), ((), ((), ((), ((), ((), ((), ((), ((), ((), ((), ((), ((), ((), ((), ((), ((), ((), ((), ((), ((), ((), ((), ((), ((), ((), ((), ((), ((), ((), ((), ((), ((), ((), ((), ((), ((), ((), ((), ((), ((), ((), ((), ((), ((), ((), ((), ((), ((), ((), ((), ((), ((), ((), ((), ((), ((), ((), ((), ((), ((), ((), ((), ((), ((), ((), ((), ((), ((), ((), ((), ((), ((), ((), ((), ((), ((), ((), ((), ((), ((), ())))))))))))))))))))))))))))))))))))))))))))))))))))))))))))))))))))))))))))))))))))))), ((r0_0, (r0_1, (r0_2, ()))), ((r1_0, (r1_1, (r1_2, ((), ((), ()))))), ())), ())
def h61_p1_o0_r0_0 (z : h61_p1_o0.den) : List UInt8 := z.2.1.1.1
def h61_p1_o0_r0_1 (z : h61_p1_o0.den) : Int := z.2.1.1.2.1
def h61_p1_o0_r0_2 (z : h61_p1_o0.den) : List V := z.2.1.1.2.2.1
@[simp] theorem h61_p1_o0_r0_0_y (r0_0 : List UInt8) (r0_1 : Int) (r0_2 : List V) (r1_0 : Int) (r1_1 : Int) (r1_2 : List UInt8) : h61_p1_o0_r0_0 (h61_p1_o0_y r0_0 r0_1 r0_2 r1_0 r1_1 r1_2) = r0_0 := id rfl
@[simp] theorem h61_p1_o0_r0_1_y (r0_0 : List UInt8) (r0_1 : Int) (r0_2 : List V) (r1_0 : Int) (r1_1 : Int) (r1_2 : List UInt8) : h61_p1_o0_r0_1 (h61_p1_o0_y r0_0 r0_1 r0_2 r1_0 r1_1 r1_2) = r0_1 := id rfl
@[simp] theorem h61_p1_o0_r0_2_y (r0_0 : List UInt8) (r0_1 : Int) (r0_2 : List V) (r1_0 : Int) (r1_1 : Int) (r1_2 : List UInt8) : h61_p1_o0_r0_2 (h61_p1_o0_y r0_0 r0_1 r0_2 r1_0 r1_1 r1_2) = r0_2 := id rfl
def h61_p1_o1_y (x0_0_0 : Int) : h61_p1_o1.den := ((((x0_0_0, ()), ()), ()), (), ())
def h61_p1_o1_x0_0_0 (z : h61_p1_o1.den) : Int := z.1.1.1.1
@[simp] theorem h61_p1_o1_x0_0_0_y (x0_0_0 : Int) : h61_p1_o1_x0_0_0 (h61_p1_o1_y x0_0_0) = x0_0_0 := id rfl
theorem h61_p1_eq (r0_0 : List UInt8) (r0_1 : Int) (r0_2 : List V) (r1_0 : Int) (r1_1 : Int) (r1_2 : List UInt8) (r2_0 : Int) (r2_1 : Int) (r2_2 : List UInt8) : h61_p1_F (h61_p1_y r0_0 r0_1 r0_2 r1_0 r1_1 r1_2 r2_0 r2_1 r2_2) = ((h85_F (h85_y r2_0 r2_1 r2_2 r0_0 r0_1 r0_2)).bind fun z104 => bif (r2_0 == (4 : Int)) then ((h66_F (h66_y (h85_o_r0_0 z104) (h85_o_r0_1 z104) (h85_o_r0_2 z104))).bind fun o107 => (match o107 with | .inl z105 => some (.inl (h61_p1_o0_y (h66_o_r0_0 z105) (h66_o_r0_1 z105) (h66_o_r0_2 z105) r1_0 r1_1 r1_2)) | .inr z106 => some (.inr ((h61_p1_o1_y (h66_z_x0_0_0 z106)))))) else (some (.inl (h61_p1_o0_y (h85_o_r0_0 z104) (h85_o_r0_1 z104) (h85_o_r0_2 z104) r1_0 r1_1 r1_2)))) := by kernel_rfl
def h61_p2_y (x4 : Int) (r0_0 : List UInt8) (r0_1 : Int) (r0_2 : List V) (r1_0 : Int) (r1_1 : Int) (r1_2 : List UInt8) : h61_p2_sh.den := (((), ((), ((), ((), (x4, ((), ((), ((), ((), ((), ((), ((), ((), ((), ((), ((), ((), ((), ((), ((), ((), ((), ((), ((), ((), ((), ((), ((), ((), ((), ((), ((), ((), ((), ((), ((), ((), ((), ((), ((), ((), ((), ((), ((), ((), ((), ((), ((), ((), ((), ((), ((), ((), ((), ((), ((), ((), ((), ((), ((), ((), ((), ((), ((), ((), ((), ((), ((), ((), ((), ((), ((), ((), ((), ((), ((), ((), ((), ((), ((), ((), ((), ((), ((), ((), ((), ())))))))))))))))))))))))))))))))))))))))))))))))))))))))))))))))))))))))))))))))))))))), ((r0_0, (r0_1, (r0_2, ()))), ((r1_0, (r1_1, (r1_2, ((), ((), ()))))), ())), ())
def h61_p2_o0_y (x4 : Int) (x31 : Bool) (r0_0 : List UInt8) (r0_1 : Int) (r0_2 : List V) (r1_0 : Int) (r1_1 : Int) (r1_2 : List UInt8) : h61_p2_o0.den := (((), ((), ((), ((), (x4, ((), ((), ((), ((), ((), ((), ((), ((), ((), ((), ((), ((), ((), ((), ((), ((), ((), ((), ((), ((), ((), ((), ((), ((), ((), ((), (x31, ((), ((), ((), ((), ((), ((), ((), ((), ((), ((), ((), ((), ((), ((), ((), ((), ((), ((), ((), ((), ((), ((), ((), ((), ((), ((), ((), ((), ((), ((), ((), ((), ((), ((), ((), ((), ((), ((), ((), ((), ((), ((), ((), ((), ((), ((), ((), ((), ((), ((), ((), ((), ((), ((), ())))))))))))))))))))))))))))))))))))))))))))))))))))))))))))))))))))))))))))))))))))))), ((r0_0, (r0_1, (r0_2, ()))), ((r1_0, (r1_1, (r1_2, ((), ((), ()))))), ())), ())
def h61_p2_o0_x4 (z : h61_p2_o0.den) : Int := z.1.2.2.2.2.1
def h61_p2_o0_x31 (z : h61_p2_o0.den) : Bool := z.1.2.2.2.2.2.2.2.2.2.2.2.2.2.2.2.2.2.2.2.2.2.2.2.2.2.2.2.2.2.2.2.1
def h61_p2_o0_r0_0 (z : h61_p2_o0.den) : List UInt8 := z.2.1.1.1
def h61_p2_o0_r0_1 (z : h61_p2_o0.den) : Int := z.2.1.1.2.1
def h61_p2_o0_r0_2 (z : h61_p2_o0.den) : List V := z.2.1.1.2.2.1
def h61_p2_o0_r1_0 (z : h61_p2_o0.den) : Int := z.2.1.2.1.1
def h61_p2_o0_r1_1 (z : h61_p2_o0.den) : Int := z.2.1.2.1.2.1
def h61_p2_o0_r1_2 (z : h61_p2_o0.den) : List UInt8 := z.2.1.2.1.2.2.1
@[simp] theorem h61_p2_o0_x4_y (x4 : Int) (x31 : Bool) (r0_0 : List UInt8) (r0_1 : Int) (r0_2 : List V) (r1_0 : Int) (r1_1 : Int) (r1_2 : List UInt8) : h61_p2_o0_x4 (h61_p2_o0_y x4 x31 r0_0 r0_1 r0_2 r1_0 r1_1 r1_2) = x4 := id rfl
@[simp] theorem h61_p2_o0_x31_y (x4 : Int) (x31 : Bool) (r0_0 : List UInt8) (r0_1 : Int) (r0_2 : List V) (r1_0 : Int) (r1_1 : Int) (r1_2 : List UInt8) : h61_p2_o0_x31 (h61_p2_o0_y x4 x31 r0_0 r0_1 r0_2 r1_0 r1_1 r1_2) = x31 := id rfl
@[simp] theorem h61_p2_o0_r0_0_y (x4 : Int) (x31 : Bool) (r0_0 : List UInt8) (r0_1 : Int) (r0_2 : List V) (r1_0 : Int) (r1_1 : Int) (r1_2 : List UInt8) : h61_p2_o0_r0_0 (h61_p2_o0_y x4 x31 r0_0 r0_1 r0_2 r1_0 r1_1 r1_2) = r0_0 := id rfl
@[simp] theorem h61_p2_o0_r0_1_y (x4 : Int) (x31 : Bool) (r0_0 : List UInt8) (r0_1 : Int) (r0_2 : List V) (r1_0 : Int) (r1_1 : Int) (r1_2 : List UInt8) : h61_p2_o0_r0_1 (h61_p2_o0_y x4 x31 r0_0 r0_1 r0_2 r1_0 r1_1 r1_2) = r0_1 := id rfl
@[simp] theorem h61_p2_o0_r0_2_y (x4 : Int) (x31 : Bool) (r0_0 : List UInt8) (r0_1 : Int) (r0_2 : List V) (r1_0 : Int) (r1_1 : Int) (r1_2 : List UInt8) : h61_p2_o0_r0_2 (h61_p2_o0_y x4 x31 r0_0 r0_1 r0_2 r1_0 r1_1 r1_2) = r0_2 := id rfl
@[simp] theorem h61_p2_o0_r1_0_y (x4 : Int) (x31 : Bool) (r0_0 : List UInt8) (r0_1 : Int) (r0_2 : List V) (r1_0 : Int) (r1_1 : Int) (r1_2 : List UInt8) : h61_p2_o0_r1_0 (h61_p2_o0_y x4 x31 r0_0 r0_1 r0_2 r1_0 r1_1 r1_2) = r1_0 := id rfl
@[simp] theorem h61_p2_o0_r1_1_y (x4 : Int) (x31 : Bool) (r0_0 : List UInt8) (r0_1 : Int) (r0_2 : List V) (r1_0 : Int) (r1_1 : Int) (r1_2 : List UInt8) : h61_p2_o0_r1_1 (h61_p2_o0_y x4 x31 r0_0 r0_1 r0_2 r1_0 r1_1 r1_2) = r1_1 := id rfl
@[simp] theorem h61_p2_o0_r1_2_y (x4 : Int) (x31 : Bool) (r0_0 : List UInt8) (r0_1 : Int) (r0_2 : List V) (r1_0 : Int) (r1_1 : Int) (r1_2 : List UInt8) : h61_p2_o0_r1_2 (h61_p2_o0_y x4 x31 r0_0 r0_1 r0_2 r1_0 r1_1 r1_2) = r1_2 := id rfl
theorem h61_p2_eq (x4 : Int) (r0_0 : List UInt8) (r0_1 : Int) (r0_2 : List V) (r1_0 : Int) (r1_1 : Int) (r1_2 : List UInt8) : h61_p2_F (h61_p2_y x4 r0_0 r0_1 r0_2 r1_0 r1_1 r1_2) = (bif (x4 == (45 : Int)) then (some ((h61_p2_o0_y x4 true r0_0 r0_1 r0_2 r1_0 r1_1 r1_2))) else ((f82_F (x4, ())).bind fun r108 => some ((h61_p2_o0_y x4 r108.1 r0_0 r0_1 r0_2 r1_0 r1_1 r1_2)))) := by kernel_rfl
def h61_p3_y (r0_0 : List UInt8) (r0_1 : Int) (r0_2 : List V) (r1_0 : Int) (r1_1 : Int) (r1_2 : List UInt8) (r2_0 : Int) (r2_1 : Int) (r2_2 : List UInt8) : h61_p3_sh.den := (((), ((), ((), ((), ((), ((), ((), ((), ((), ((), ((), ((), ((), ((), ((), ((), ((), ((), ((), ((), ((), ((), ((), ((), ((), ((), ((), ((), ((), ((), ((), ((), ((), ((), ((), ((), ((), ((), ((), ((), ((), ((), ((), ((), ((), ((), ((), ((), ((), ((), ((), ((), ((), ((), ((), ((), ((), ((), ((), ((), ((), ((), ((), ((), ((), ((), ((), ((), ((), ((), ((), ((), ((), ((), ((), ((), ((), ((), ((), ((), ((), ((), ((), ((), ((), ((), ())))))))))))))))))))))))))))))))))))))))))))))))))))))))))))))))))))))))))))))))))))))), ((r0_0, (r0_1, (r0_2, ()))), ((r1_0, (r1_1, (r1_2, ((), ((), ()))))), ((r2_0, (r2_1, (r2_2, ((), ((), ()))))), ()))), ())
def h61_p3_o0_y (x0_0_0 : Int) : h61_p3_o0.den := ((((x0_0_0, ()), ()), ()), (), ())
def h61_p3_o0_x0_0_0 (z : h61_p3_o0.den) : Int := z.1.1.1.1
@[simp] theorem h61_p3_o0_x0_0_0_y (x0_0_0 : Int) : h61_p3_o0_x0_0_0 (h61_p3_o0_y x0_0_0) = x0_0_0 := id rfl
def h61_p3_o1_y (r0_0 : List UInt8) (r0_1 : Int) (r0_2 : List V) (r1_0 : Int) (r1_1 : Int) (r1_2 : List UInt8) (r2_0 : Int) (r2_1 : Int) (r2_2 : List UInt8) : h61_p3_o1.den := (((), ((), ((), ((), ((), ((), ((), ((), ((), ((), ((), ((), ((), ((), ((), ((), ((), ((), ((), ((), ((), ((), ((), ((), ((), ((), ((), ((), ((), ((), ((), ((), ((), ((), ((), ((), ((), ((), ((), ((), ((), ((), ((), ((), ((), ((), ((), ((), ((), ((), ((), ((), ((), ((), ((), ((), ((), ((), ((), ((), ((), ((), ((), ((), ((), ((), ((), ((), ((), ((), ((), ((), ((), ((), ((), ((), ((), ((), ((), ((), ((), ((), ((), ((), ((), ((), ())))))))))))))))))))))))))))))))))))))))))))))))))))))))))))))))))))))))))))))))))))))), ((r0_0, (r0_1, (r0_2, ()))), ((r1_0, (r1_1, (r1_2, ((), ((), ()))))), ((r2_0, (r2_1, (r2_2, ((), ((), ()))))), ()))), ())
def h61_p3_o1_r0_0 (z : h61_p3_o1.den) : List UInt8 := z.2.1.1.1
def h61_p3_o1_r0_1 (z : h61_p3_o1.den) : Int := z.2.1.1.2.1
def h61_p3_o1_r0_2 (z : h61_p3_o1.den) : List V := z.2.1.1.2.2.1
def h61_p3_o1_r1_0 (z : h61_p3_o1.den) : Int := z.2.1.2.1.1
def h61_p3_o1_r1_1 (z : h61_p3_o1.den) : Int := z.2.1.2.1.2.1
def h61_p3_o1_r1_2 (z : h61_p3_o1.den) : List UInt8 := z.2.1.2.1.2.2.1
def h61_p3_o1_r2_0 (z : h61_p3_o1.den) : Int := z.2.1.2.2.1.1
def h61_p3_o1_r2_1 (z : h61_p3_o1.den) : Int := z.2.1.2.2.1.2.1
def h61_p3_o1_r2_2 (z : h61_p3_o1.den) : List UInt8 := z.2.1.2.2.1.2.2.1
@[simp] theorem h61_p3_o1_r0_0_y (r0_0 : List UInt8) (r0_1 : Int) (r0_2 : List V) (r1_0 : Int) (r1_1 : Int) (r1_2 : List UInt8) (r2_0 : Int) (r2_1 : Int) (r2_2 : List UInt8) : h61_p3_o1_r0_0 (h61_p3_o1_y r0_0 r0_1 r0_2 r1_0 r1_1 r1_2 r2_0 r2_1 r2_2) = r0_0 := id rfl
@[simp] theorem h61_p3_o1_r0_1_y (r0_0 : List UInt8) (r0_1 : Int) (r0_2 : List V) (r1_0 : Int) (r1_1 : Int) (r1_2 : List UInt8) (r2_0 : Int) (r2_1 : Int) (r2_2 : List UInt8) : h61_p3_o1_r0_1 (h61_p3_o1_y r0_0 r0_1 r0_2 r1_0 r1_1 r1_2 r2_0 r2_1 r2_2) = r0_1 := id rfl
@[simp] theorem h61_p3_o1_r0_2_y (r0_0 : List UInt8) (r0_1 : Int) (r0_2 : List V) (r1_0 : Int) (r1_1 : Int) (r1_2 : List UInt8) (r2_0 : Int) (r2_1 : Int) (r2_2 : List UInt8) : h61_p3_o1_r0_2 (h61_p3_o1_y r0_0 r0_1 r0_2 r1_0 r1_1 r1_2 r2_0 r2_1 r2_2) = r0_2 := id rfl
@[simp] theorem h61_p3_o1_r1_0_y (r0_0 : List UInt8) (r0_1 : Int) (r0_2 : List V) (r1_0 : Int) (r1_1 : Int) (r1_2 : List UInt8) (r2_0 : Int) (r2_1 : Int) (r2_2 : List UInt8) : h61_p3_o1_r1_0 (h61_p3_o1_y r0_0 r0_1 r0_2 r1_0 r1_1 r1_2 r2_0 r2_1 r2_2) = r1_0 := id rfl
@[simp] theorem h61_p3_o1_r1_1_y (r0_0 : List UInt8) (r0_1 : Int) (r0_2 : List V) (r1_0 : Int) (r1_1 : Int) (r1_2 : List UInt8) (r2_0 : Int) (r2_1 : Int) (r2_2 : List UInt8) : h61_p3_o1_r1_1 (h61_p3_o1_y r0_0 r0_1 r0_2 r1_0 r1_1 r1_2 r2_0 r2_1 r2_2) = r1_1 := id rfl
@[simp] theorem h61_p3_o1_r1_2_y (r0_0 : List UInt8) (r0_1 : Int) (r0_2 : List V) (r1_0 : Int) (r1_1 : Int) (r1_2 : List UInt8) (r2_0 : Int) (r2_1 : Int) (r2_2 : List UInt8) : h61_p3_o1_r1_2 (h61_p3_o1_y r0_0 r0_1 r0_2 r1_0 r1_1 r1_2 r2_0 r2_1 r2_2) = r1_2 := id rfl
@[simp] theorem h61_p3_o1_r2_0_y (r0_0 : List UInt8) (r0_1 : Int) (r0_2 : List V) (r1_0 : Int) (r1_1 : Int) (r1_2 : List UInt8) (r2_0 : Int) (r2_1 : Int) (r2_2 : List UInt8) : h61_p3_o1_r2_0 (h61_p3_o1_y r0_0 r0_1 r0_2 r1_0 r1_1 r1_2 r2_0 r2_1 r2_2) = r2_0 := id rfl
@[simp] theorem h61_p3_o1_r2_1_y (r0_0 : List UInt8) (r0_1 : Int) (r0_2 : List V) (r1_0 : Int) (r1_1 : Int) (r1_2 : List UInt8) (r2_0 : Int) (r2_1 : Int) (r2_2 : List UInt8) : h61_p3_o1_r2_1 (h61_p3_o1_y r0_0 r0_1 r0_2 r1_0 r1_1 r1_2 r2_0 r2_1 r2_2) = r2_1 := id rfl
@[simp] theorem h61_p3_o1_r2_2_y (r0_0 : List UInt8) (r0_1 : Int) (r0_2 : List V) (r1_0 : Int) (r1_1 : Int) (r1_2 : List UInt8) (r2_0 : Int) (r2_1 : Int) (r2_2 : List UInt8) : h61_p3_o1_r2_2 (h61_p3_o1_y r0_0 r0_1 r0_2 r1_0 r1_1 r1_2 r2_0 r2_1 r2_2) = r2_2 := id rfl
theorem h61_p3_eq (r0_0 : List UInt8) (r0_1 : Int) (r0_2 : List V) (r1_0 : Int) (r1_1 : Int) (r1_2 : List UInt8) (r2_0 : Int) (r2_1 : Int) (r2_2 : List UInt8) : h61_p3_F (h61_p3_y r0_0 r0_1 r0_2 r1_0 r1_1 r1_2 r2_0 r2_1 r2_2) = ((h63_F (h63_y ([91, 123] : List UInt8) r0_0 r0_1)).bind fun o111 => (match o111 with | .inl z109 => bif ((h63_o_x0 z109) == (123 : Int)) then (some (.inr ((h61_p3_o1_y (h63_o_r0_0 z109) (h63_o_r0_1 z109) r0_2 r1_0 r1_1 r1_2 (4 : Int) r2_1 r2_2)))) else (some (.inr ((h61_p3_o1_y (h63_o_r0_0 z109) (h63_o_r0_1 z109) r0_2 r1_0 r1_1 r1_2 r2_0 r2_1 r2_2)))) | .inr z110 => some (.inl (h61_p3_o0_y (h63_z_x0_0_0 z110))))) := by kernel_rfl
def h61_p4_y (r0_0 : List UInt8) (r0_1 : Int) (r0_2 : List V) (r1_0 : Int) (r1_1 : Int) (r1_2 : List UInt8) : h61_p4_sh.den := (((), ((), ((), ((), ((), ((), ((), ((), ((), ((), ((), ((), ((), ((), ((), ((), ((), ((), ((), ((), ((), ((), ((), ((), ((), ((), ((), ((), ((), ((), ((), ((), ((), ((), ((), ((), ((), ((), ((), ((), ((), ((), ((), ((), ((), ((), ((), ((), ((), ((), ((), ((), ((), ((), ((), ((), ((), ((), ((), ((), ((), ((), ((), ((), ((), ((), ((), ((), ((), ((), ((), ((), ((), ((), ((), ((), ((), ((), ((), ((), ((), ((), ((), ((), ((), ((), ())))))))))))))))))))))))))))))))))))))))))))))))))))))))))))))))))))))))))))))))))))))), ((r0_0, (r0_1, (r0_2, ()))), ((r1_0, (r1_1, (r1_2, ((), ((), ()))))), ())), ())
def h61_p4_o0_y (r0_0 : List UInt8) (r0_1 : Int) (r0_2 : List V) (r1_0 : Int) (r1_1 : Int) (r1_2 : List UInt8) : h61_p4_o0.den := (((), ((), ((), ((), ((), ((), ((), ((), ((), ((), ((), ((), ((), ((), ((), ((), ((), ((), ((), ((), ((), ((), ((), ((), ((), ((), ((), ((), ((), ((), ((), ((), ((), ((), ((), ((), ((), ((), ((), ((), ((), ((), ((), ((), ((), ((), ((), ((), ((), ((), ((), ((), ((), ((), ((), ((), ((), ((), ((), ((), ((), ((), ((), ((), ((), ((), ((), ((), ((), ((), ((), ((), ((), ((), ((), ((), ((), ((), ((), ((), ((), ((), ((), ((), ((), ((), ())))))))))))))))))))))))))))))))))))))))))))))))))))))))))))))))))))))))))))))))))))))), ((r0_0, (r0_1, (r0_2, ()))), ((r1_0, (r1_1, (r1_2, ((), ((), ()))))), ())), ())
def h61_p4_o0_r0_0 (z : h61_p4_o0.den) : List UInt8 := z.2.1.1.1
def h61_p4_o0_r0_1 (z : h61_p4_o0.den) : Int := z.2.1.1.2.1
def h61_p4_o0_r0_2 (z : h61_p4_o0.den) : List V := z.2.1.1.2.2.1
def h61_p4_o0_r1_0 (z : h61_p4_o0.den) : Int := z.2.1.2.1.1
def h61_p4_o0_r1_1 (z : h61_p4_o0.den) : Int := z.2.1.2.1.2.1
def h61_p4_o0_r1_2 (z : h61_p4_o0.den) : List UInt8 := z.2.1.2.1.2.2.1
@[simp] theorem h61_p4_o0_r0_0_y (r0_0 : List UInt8) (r0_1 : Int) (r0_2 : List V) (r1_0 : Int) (r1_1 : Int) (r1_2 : List UInt8) : h61_p4_o0_r0_0 (h61_p4_o0_y r0_0 r0_1 r0_2 r1_0 r1_1 r1_2) = r0_0 := id rfl
@[simp] theorem h61_p4_o0_r0_1_y (r0_0 : List UInt8) (r0_1 : Int) (r0_2 : List V) (r1_0 : Int) (r1_1 : Int) (r1_2 : List UInt8) : h61_p4_o0_r0_1 (h61_p4_o0_y r0_0 r0_1 r0_2 r1_0 r1_1 r1_2) = r0_1 := id rfl
@[simp] theorem h61_p4_o0_r0_2_y (r0_0 : List UInt8) (r0_1 : Int) (r0_2 : List V) (r1_0 : Int) (r1_1 : Int) (r1_2 : List UInt8) : h61_p4_o0_r0_2 (h61_p4_o0_y r0_0 r0_1 r0_2 r1_0 r1_1 r1_2) = r0_2 := id rfl
@[simp] theorem h61_p4_o0_r1_0_y (r0_0 : List UInt8) (r0_1 : Int) (r0_2 : List V) (r1_0 : Int) (r1_1 : Int) (r1_2 : List UInt8) : h61_p4_o0_r1_0 (h61_p4_o0_y r0_0 r0_1 r0_2 r1_0 r1_1 r1_2) = r1_0 := id rfl
@[simp] theorem h61_p4_o0_r1_1_y (r0_0 : List UInt8) (r0_1 : Int) (r0_2 : List V) (r1_0 : Int) (r1_1 : Int) (r1_2 : List UInt8) : h61_p4_o0_r1_1 (h61_p4_o0_y r0_0 r0_1 r0_2 r1_0 r1_1 r1_2) = r1_1 := id rfl
@[simp] theorem h61_p4_o0_r1_2_y (r0_0 : List UInt8) (r0_1 : Int) (r0_2 : List V) (r1_0 : Int) (r1_1 : Int) (r1_2 : List UInt8) : h61_p4_o0_r1_2 (h61_p4_o0_y r0_0 r0_1 r0_2 r1_0 r1_1 r1_2) = r1_2 := id rfl
def h61_p4_o1_y (x0_0_0 : Int) : h61_p4_o1.den := ((((x0_0_0, ()), ()), ()), (), ())
def h61_p4_o1_x0_0_0 (z : h61_p4_o1.den) : Int := z.1.1.1.1
@[simp] theorem h61_p4_o1_x0_0_0_y (x0_0_0 : Int) : h61_p4_o1_x0_0_0 (h61_p4_o1_y x0_0_0) = x0_0_0 := id rfl
theorem h61_p4_eq (r0_0 : List UInt8) (r0_1 : Int) (r0_2 : List V) (r1_0 : Int) (r1_1 : Int) (r1_2 : List UInt8) : h61_p4_F (h61_p4_y r0_0 r0_1 r0_2 r1_0 r1_1 r1_2) = (bif ((r0_2.length : Int) == (12 : Int)) then ((h45_F (h45_y (21 : Int))).bind fun o114 => (match o114 with | .inl z112 => some (.inl (h61_p4_o0_y r0_0 r0_1 r0_2 r1_0 r1_1 r1_2)) | .inr z113 => some (.inr ((h61_p4_o1_y (h45_z_x0_0_0 z113)))))) else (bif (r0_1 == (2000 : Int)) then ((h45_F (h45_y (22 : Int))).bind fun o117 => (match o117 with | .inl z115 => some (.inl (h61_p4_o0_y r0_0 r0_1 r0_2 r1_0 r1_1 r1_2)) | .inr z116 => some (.inr ((h61_p4_o1_y (h45_z_x0_0_0 z116)))))) else (some (.inl (h61_p4_o0_y r0_0 r0_1 r0_2 r1_0 r1_1 r1_2))))) := by kernel_rfl
theorem h61_eq (r0_0 : List UInt8) (r0_1 : Int) (r0_2 : List V) : h61_F (h61_y r0_0 r0_1 r0_2) = ((h61_p4_F (h61_p4_y r0_0 r0_1 r0_2 (0 : Int) (0 : Int) ([] : List UInt8))).bind fun o118 => (match o118 with | .inl z119 => (h81_F (h81_y (h61_p4_o0_r0_0 z119) (IntKind.i64.wrap ((h61_p4_o0_r0_1 z119) + (1 : Int))))).bind fun o123 => (match o123 with | .inl z121 => (h61_p2_F (h61_p2_y (h81_o_x0 z121) (h81_o_r0_0 z121) (h81_o_r0_1 z121) (h61_p4_o0_r0_2 z119) (h61_p4_o0_r1_0 z119) (h61_p4_o0_r1_1 z119) (h61_p4_o0_r1_2 z119))).bind fun o124 => bif (h61_p2_o0_x31 o124) then ((h83_F (h83_y (h61_p2_o0_r0_0 o124) (h61_p2_o0_r0_1 o124))).bind fun o127 => (match o127 with | .inl z125 => some (.inl (h61_o_y (h83_o_x0_0 z125) (h83_o_x0_1 z125) (h83_o_x0_2 z125) (h83_o_x0_3 z125) (h83_o_x0_4 z125) true (h83_o_r0_0 z125) (h83_o_r0_1 z125) (h61_p2_o0_r0_2 o124))) | .inr z126 => some (.inr (h61_z_y (h83_z_x0_0_0 z126))))) else (bif ((h61_p2_o0_x4 o124) == (34 : Int)) then ((h84_F (h84_y (h61_p2_o0_r0_0 o124) (h61_p2_o0_r0_1 o124))).bind fun o130 => (match o130 with | .inl z128 => (f22_F ((h84_o_x0 z128), ())).bind fun r131 => some (.inl (h61_o_y r131.1.1 r131.1.2.1 r131.1.2.2.1 r131.1.2.2.2.1 r131.1.2.2.2.2.1 true (h84_o_r0_0 z128) (h84_o_r0_1 z128) (h61_p2_o0_r0_2 o124))) | .inr z129 => some (.inr (h61_z_y (h84_z_x0_0_0 z129))))) else ((h61_p3_F (h61_p3_y (h61_p2_o0_r0_0 o124) (h61_p2_o0_r0_1 o124) (h61_p2_o0_r0_2 o124) (h61_p2_o0_r1_0 o124) (h61_p2_o0_r1_1 o124) (h61_p2_o0_r1_2 o124) (3 : Int) (0 : Int) ([] : List UInt8))).bind fun o132 => (match o132 with | .inl z133 => some (.inr (h61_z_y (h61_p3_o0_x0_0_0 z133))) | .inr o134 => (h61_p0_F (h61_p0_y (h61_p3_o1_r0_0 o134) (h61_p3_o1_r0_1 o134) (h61_p3_o1_r0_2 o134) (h61_p3_o1_r1_0 o134) (h61_p3_o1_r1_1 o134) (h61_p3_o1_r1_2 o134) (h61_p3_o1_r2_0 o134) (h61_p3_o1_r2_1 o134) (h61_p3_o1_r2_2 o134))).bind fun o135 => bif (h61_p0_o0_x65 o135) then (cutLo (h61_p0_o0_r0_0 o135) (1 : Int) fun s136 => some (.inl (h61_o_y (h61_p0_o0_r2_0 o135) (h61_p0_o0_r2_1 o135) (h61_p0_o0_r2_2 o135) ([] : List V) ([] : List (List UInt8)) true s136 (h61_p0_o0_r0_1 o135) (h61_p0_o0_r0_2 o135)))) else ((h61_p1_F (h61_p1_y (h61_p0_o0_r0_0 o135) (h61_p0_o0_r0_1 o135) (h61_p0_o0_r0_2 o135) (h61_p0_o0_r1_0 o135) (h61_p0_o0_r1_1 o135) (h61_p0_o0_r1_2 o135) (h61_p0_o0_r2_0 o135) (h61_p0_o0_r2_1 o135) (h61_p0_o0_r2_2 o135))).bind fun o137 => (match o137 with | .inl z138 => some (.inl (h61_o_y (0 : Int) (0 : Int) ([] : List UInt8) ([] : List V) ([] : List (List UInt8)) false (h61_p1_o0_r0_0 z138) (h61_p1_o0_r0_1 z138) (h61_p1_o0_r0_2 z138))) | .inr o139 => some (.inr (h61_z_y (h61_p1_o1_x0_0_0 o139)))))))) | .inr z122 => some (.inr (h61_z_y (h81_z_x0_0_0 z122)))) | .inr o120 => some (.inr (h61_z_y (h61_p4_o1_x0_0_0 o120))))) := by kernel_rfl
def h65_y (r0_0 : List UInt8) (r0_1 : Int) (r0_2 : List V) : h65_I.den := (((), ()), ((r0_0, (r0_1, (r0_2, ()))), ()), ())
def h65_o_y (x0_0 : Int) (x0_1 : Int) (x0_2 : List UInt8) (r0_0 : List UInt8) (r0_1 : Int) (r0_2 : List V) (l0 : List V) (l1 : List (List UInt8)) : h65_O.den := (((x0_0, (x0_1, (x0_2, ((), ((), ()))))), ()), ((r0_0, (r0_1, (r0_2, ()))), ()), (l0, (l1, ())))
def h65_o_x0_0 (z : h65_O.den) : Int := z.1.1.1
def h65_o_x0_1 (z : h65_O.den) : Int := z.1.1.2.1
def h65_o_x0_2 (z : h65_O.den) : List UInt8 := z.1.1.2.2.1
def h65_o_r0_0 (z : h65_O.den) : List UInt8 := z.2.1.1.1
def h65_o_r0_1 (z : h65_O.den) : Int := z.2.1.1.2.1
def h65_o_r0_2 (z : h65_O.den) : List V := z.2.1.1.2.2.1
def h65_o_l0 (z : h65_O.den) : List V := z.2.2.1
def h65_o_l1 (z : h65_O.den) : List (List UInt8) := z.2.2.2.1
@[simp] theorem h65_o_x0_0_y (x0_0 : Int) (x0_1 : Int) (x0_2 : List UInt8) (r0_0 : List UInt8) (r0_1 : Int) (r0_2 : List V) (l0 : List V) (l1 : List (List UInt8)) : h65_o_x0_0 (h65_o_y x0_0 x0_1 x0_2 r0_0 r0_1 r0_2 l0 l1) = x0_0 := id rfl
@[simp] theorem h65_o_x0_1_y (x0_0 : Int) (x0_1 : Int) (x0_2 : List UInt8) (r0_0 : List UInt8) (r0_1 : Int) (r0_2 : List V) (l0 : List V) (l1 : List (List UInt8)) : h65_o_x0_1 (h65_o_y x0_0 x0_1 x0_2 r0_0 r0_1 r0_2 l0 l1) = x0_1 := id rfl
@[simp] theorem h65_o_x0_2_y (x0_0 : Int) (x0_1 : Int) (x0_2 : List UInt8) (r0_0 : List UInt8) (r0_1 : Int) (r0_2 : List V) (l0 : List V) (l1 : List (List UInt8)) : h65_o_x0_2 (h65_o_y x0_0 x0_1 x0_2 r0_0 r0_1 r0_2 l0 l1) = x0_2 := id rfl
@[simp] theorem h65_o_r0_0_y (x0_0 : Int) (x0_1 : Int) (x0_2 : List UInt8) (r0_0 : List UInt8) (r0_1 : Int) (r0_2 : List V) (l0 : List V) (l1 : List (List UInt8)) : h65_o_r0_0 (h65_o_y x0_0 x0_1 x0_2 r0_0 r0_1 r0_2 l0 l1) = r0_0 := id rfl
@[simp] theorem h65_o_r0_1_y (x0_0 : Int) (x0_1 : Int) (x0_2 : List UInt8) (r0_0 : List UInt8) (r0_1 : Int) (r0_2 : List V) (l0 : List V) (l1 : List (List UInt8)) : h65_o_r0_1 (h65_o_y x0_0 x0_1 x0_2 r0_0 r0_1 r0_2 l0 l1) = r0_1 := id rfl
@[simp] theorem h65_o_r0_2_y (x0_0 : Int) (x0_1 : Int) (x0_2 : List UInt8) (r0_0 : List UInt8) (r0_1 : Int) (r0_2 : List V) (l0 : List V) (l1 : List (List UInt8)) : h65_o_r0_2 (h65_o_y x0_0 x0_1 x0_2 r0_0 r0_1 r0_2 l0 l1) = r0_2 := id rfl
@[simp] theorem h65_o_l0_y (x0_0 : Int) (x0_1 : Int) (x0_2 : List UInt8) (r0_0 : List UInt8) (r0_1 : Int) (r0_2 : List V) (l0 : List V) (l1 : List (List UInt8)) : h65_o_l0 (h65_o_y x0_0 x0_1 x0_2 r0_0 r0_1 r0_2 l0 l1) = l0 := id rfl
@[simp] theorem h65_o_l1_y (x0_0 : Int) (x0_1 : Int) (x0_2 : List UInt8) (r0_0 : List UInt8) (r0_1 : Int) (r0_2 : List V) (l0 : List V) (l1 : List (List UInt8)) : h65_o_l1 (h65_o_y x0_0 x0_1 x0_2 r0_0 r0_1 r0_2 l0 l1) = l1 := id rfl
theorem h65_eq (r0_0 : List UInt8) (r0_1 : Int) (r0_2 : List V) : h65_F (h65_y r0_0 r0_1 r0_2) = ((lastOf r0_2).bind fun p140 => appOk (p140.1.length + 1) (sameInt (IntKind.i64.wrap (((p140.1.length : Int) + 1) - (1 : Int))) (p140.1.length : Int) (some (h65_o_y p140.2.kind p140.2.n p140.2.s r0_0 r0_1 p140.1 p140.2.items p140.2.keys)))) := by kernel_rfl
def h44_y (r0_0 : List UInt8) (r0_1 : Int) (r0_2 : List V) : h44_I.den := (((), ()), ((r0_0, (r0_1, (r0_2, ()))), ()), ())
def h44_o_y (x0_0 : Int) (x0_1 : Int) (x0_2 : List UInt8) (x0_3 : List V) (x0_4 : List (List UInt8)) (r0_0 : List UInt8) (r0_1 : Int) (r0_2 : List V) : h44_O.den := (((x0_0, (x0_1, (x0_2, (x0_3, (x0_4, ()))))), ()), ((r0_0, (r0_1, (r0_2, ()))), ()), ())
def h44_o_x0_0 (z : h44_O.den) : Int := z.1.1.1
def h44_o_x0_1 (z : h44_O.den) : Int := z.1.1.2.1
def h44_o_x0_2 (z : h44_O.den) : List UInt8 := z.1.1.2.2.1
def h44_o_x0_3 (z : h44_O.den) : List V := z.1.1.2.2.2.1
def h44_o_x0_4 (z : h44_O.den) : List (List UInt8) := z.1.1.2.2.2.2.1
def h44_o_r0_0 (z : h44_O.den) : List UInt8 := z.2.1.1.1
@[simp] theorem h44_o_x0_0_y (x0_0 : Int) (x0_1 : Int) (x0_2 : List UInt8) (x0_3 : List V) (x0_4 : List (List UInt8)) (r0_0 : List UInt8) (r0_1 : Int) (r0_2 : List V) : h44_o_x0_0 (h44_o_y x0_0 x0_1 x0_2 x0_3 x0_4 r0_0 r0_1 r0_2) = x0_0 := id rfl
@[simp] theorem h44_o_x0_1_y (x0_0 : Int) (x0_1 : Int) (x0_2 : List UInt8) (x0_3 : List V) (x0_4 : List (List UInt8)) (r0_0 : List UInt8) (r0_1 : Int) (r0_2 : List V) : h44_o_x0_1 (h44_o_y x0_0 x0_1 x0_2 x0_3 x0_4 r0_0 r0_1 r0_2) = x0_1 := id rfl
@[simp] theorem h44_o_x0_2_y (x0_0 : Int) (x0_1 : Int) (x0_2 : List UInt8) (x0_3 : List V) (x0_4 : List (List UInt8)) (r0_0 : List UInt8) (r0_1 : Int) (r0_2 : List V) : h44_o_x0_2 (h44_o_y x0_0 x0_1 x0_2 x0_3 x0_4 r0_0 r0_1 r0_2) = x0_2 := id rfl
@[simp] theorem h44_o_x0_3_y (x0_0 : Int) (x0_1 : Int) (x0_2 : List UInt8) (x0_3 : List V) (x0_4 : List (List UInt8)) (r0_0 : List UInt8) (r0_1 : Int) (r0_2 : List V) : h44_o_x0_3 (h44_o_y x0_0 x0_1 x0_2 x0_3 x0_4 r0_0 r0_1 r0_2) = x0_3 := id rfl
@[simp] theorem h44_o_x0_4_y (x0_0 : Int) (x0_1 : Int) (x0_2 : List UInt8) (x0_3 : List V) (x0_4 : List (List UInt8)) (r0_0 : List UInt8) (r0_1 : Int) (r0_2 : List V) : h44_o_x0_4 (h44_o_y x0_0 x0_1 x0_2 x0_3 x0_4 r0_0 r0_1 r0_2) = x0_4 := id rfl
@[simp] theorem h44_o_r0_0_y (x0_0 : Int) (x0_1 : Int) (x0_2 : List UInt8) (x0_3 : List V) (x0_4 : List (List UInt8)) (r0_0 : List UInt8) (r0_1 : Int) (r0_2 : List V) : h44_o_r0_0 (h44_o_y x0_0 x0_1 x0_2 x0_3 x0_4 r0_0 r0_1 r0_2) = r0_0 := id rfl
def h44_z_y (x0_0_0 : Int) : h44_Z.den := ((((x0_0_0, ()), ()), ()), (), ())
def h44_z_x0_0_0 (z : h44_Z.den) : Int := z.1.1.1.1
@[simp] theorem h44_z_x0_0_0_y (x0_0_0 : Int) : h44_z_x0_0_0 (h44_z_y x0_0_0) = x0_0_0 := id rfl
def h44_p0_y (x4 : Bool) (r0_0 : List UInt8) (r0_1 : Int) (r0_2 : List V) (r1_0 : Int) (r1_1 : Int) (r1_2 : List UInt8) (r2_0 : Int) (r2_1 : Int) (r2_2 : List UInt8) (r2_3 : List V) (r2_4 : List (List UInt8)) : h44_p0_sh.den := (((), ((), ((), ((), (x4, ((), ((), ((), ((), ((), ((), ((), ((), ((), ((), ((), ((), ((), ((), ((), ((), ((), ((), ((), ((), ((), ((), ((), ((), ((), ((), ((), ((), ((), ((), ((), ((), ((), ((), ((), ((), ((), ((), ((), ((), ((), ((), ((), ((), ((), ((), ((), ((), ((), ((), ((), ())))))))))))))))))))))))))))))))))))))))))))))))))))))))), ((r0_0, (r0_1, (r0_2, ()))), ((r1_0, (r1_1, (r1_2, ((), ((), ()))))), ((r2_0, (r2_1, (r2_2, (r2_3, (r2_4, ()))))), ()))), ())
def h44_p0_o0_y (r0_0 : List UInt8) (r0_1 : Int) (r0_2 : List V) (r1_0 : Int) (r1_1 : Int) (r1_2 : List UInt8) : h44_p0_o0.den := (((), ((), ((), ((), ((), ((), ((), ((), ((), ((), ((), ((), ((), ((), ((), ((), ((), ((), ((), ((), ((), ((), ((), ((), ((), ((), ((), ((), ((), ((), ((), ((), ((), ((), ((), ((), ((), ((), ((), ((), ((), ((), ((), ((), ((), ((), ((), ((), ((), ((), ((), ((), ((), ((), ((), ((), ())))))))))))))))))))))))))))))))))))))))))))))))))))))))), ((r0_0, (r0_1, (r0_2, ()))), ((r1_0, (r1_1, (r1_2, ((), ((), ()))))), ())), ())
def h44_p0_o0_r0_0 (z : h44_p0_o0.den) : List UInt8 := z.2.1.1.1
def h44_p0_o0_r0_1 (z : h44_p0_o0.den) : Int := z.2.1.1.2.1
def h44_p0_o0_r0_2 (z : h44_p0_o0.den) : List V := z.2.1.1.2.2.1
def h44_p0_o0_r1_0 (z : h44_p0_o0.den) : Int := z.2.1.2.1.1
def h44_p0_o0_r1_1 (z : h44_p0_o0.den) : Int := z.2.1.2.1.2.1
def h44_p0_o0_r1_2 (z : h44_p0_o0.den) : List UInt8 := z.2.1.2.1.2.2.1
@[simp] theorem h44_p0_o0_r0_0_y (r0_0 : List UInt8) (r0_1 : Int) (r0_2 : List V) (r1_0 : Int) (r1_1 : Int) (r1_2 : List UInt8) : h44_p0_o0_r0_0 (h44_p0_o0_y r0_0 r0_1 r0_2 r1_0 r1_1 r1_2) = r0_0 := id rfl
@[simp] theorem h44_p0_o0_r0_1_y (r0_0 : List UInt8) (r0_1 : Int) (r0_2 : List V) (r1_0 : Int) (r1_1 : Int) (r1_2 : List UInt8) : h44_p0_o0_r0_1 (h44_p0_o0_y r0_0 r0_1 r0_2 r1_0 r1_1 r1_2) = r0_1 := id rfl
@[simp] theorem h44_p0_o0_r0_2_y (r0_0 : List UInt8) (r0_1 : Int) (r0_2 : List V) (r1_0 : Int) (r1_1 : Int) (r1_2 : List UInt8) : h44_p0_o0_r0_2 (h44_p0_o0_y r0_0 r0_1 r0_2 r1_0 r1_1 r1_2) = r0_2 := id rfl
@[simp] theorem h44_p0_o0_r1_0_y (r0_0 : List UInt8) (r0_1 : Int) (r0_2 : List V) (r1_0 : Int) (r1_1 : Int) (r1_2 : List UInt8) : h44_p0_o0_r1_0 (h44_p0_o0_y r0_0 r0_1 r0_2 r1_0 r1_1 r1_2) = r1_0 := id rfl
@[simp] theorem h44_p0_o0_r1_1_y (r0_0 : List UInt8) (r0_1 : Int) (r0_2 : List V) (r1_0 : Int) (r1_1 : Int) (r1_2 : List UInt8) : h44_p0_o0_r1_1 (h44_p0_o0_y r0_0 r0_1 r0_2 r1_0 r1_1 r1_2) = r1_1 := id rfl
@[simp] theorem h44_p0_o0_r1_2_y (r0_0 : List UInt8) (r0_1 : Int) (r0_2 : List V) (r1_0 : Int) (r1_1 : Int) (r1_2 : List UInt8) : h44_p0_o0_r1_2 (h44_p0_o0_y r0_0 r0_1 r0_2 r1_0 r1_1 r1_2) = r1_2 := id rfl
def h44_p0_o1_y (r0_0 : List UInt8) (r0_1 : Int) (r0_2 : List V) (r1_0 : Int) (r1_1 : Int) (r1_2 : List UInt8) (r1_3 : List V) (r1_4 : List (List UInt8)) : h44_p0_o1.den := (((), ((), ((), ((), ((), ((), ((), ((), ((), ((), ((), ((), ((), ((), ((), ((), ((), ((), ((), ((), ((), ((), ((), ((), ((), ((), ((), ((), ((), ((), ((), ((), ((), ((), ((), ((), ((), ((), ((), ((), ((), ((), ((), ((), ((), ((), ((), ((), ((), ((), ((), ((), ((), ((), ((), ((), ())))))))))))))))))))))))))))))))))))))))))))))))))))))))), ((r0_0, (r0_1, (r0_2, ()))), ((r1_0, (r1_1, (r1_2, (r1_3, (r1_4, ()))))), ())), ())
def h44_p0_o1_r0_0 (z : h44_p0_o1.den) : List UInt8 := z.2.1.1.1
def h44_p0_o1_r0_1 (z : h44_p0_o1.den) : Int := z.2.1.1.2.1
def h44_p0_o1_r0_2 (z : h44_p0_o1.den) : List V := z.2.1.1.2.2.1
def h44_p0_o1_r1_0 (z : h44_p0_o1.den) : Int := z.2.1.2.1.1
def h44_p0_o1_r1_1 (z : h44_p0_o1.den) : Int := z.2.1.2.1.2.1
def h44_p0_o1_r1_2 (z : h44_p0_o1.den) : List UInt8 := z.2.1.2.1.2.2.1
def h44_p0_o1_r1_3 (z : h44_p0_o1.den) : List V := z.2.1.2.1.2.2.2.1
def h44_p0_o1_r1_4 (z : h44_p0_o1.den) : List (List UInt8) := z.2.1.2.1.2.2.2.2.1
@[simp] theorem h44_p0_o1_r0_0_y (r0_0 : List UInt8) (r0_1 : Int) (r0_2 : List V) (r1_0 : Int) (r1_1 : Int) (r1_2 : List UInt8) (r1_3 : List V) (r1_4 : List (List UInt8)) : h44_p0_o1_r0_0 (h44_p0_o1_y r0_0 r0_1 r0_2 r1_0 r1_1 r1_2 r1_3 r1_4) = r0_0 := id rfl
@[simp] theorem h44_p0_o1_r0_1_y (r0_0 : List UInt8) (r0_1 : Int) (r0_2 : List V) (r1_0 : Int) (r1_1 : Int) (r1_2 : List UInt8) (r1_3 : List V) (r1_4 : List (List UInt8)) : h44_p0_o1_r0_1 (h44_p0_o1_y r0_0 r0_1 r0_2 r1_0 r1_1 r1_2 r1_3 r1_4) = r0_1 := id rfl
@[simp] theorem h44_p0_o1_r0_2_y (r0_0 : List UInt8) (r0_1 : Int) (r0_2 : List V) (r1_0 : Int) (r1_1 : Int) (r1_2 : List UInt8) (r1_3 : List V) (r1_4 : List (List UInt8)) : h44_p0_o1_r0_2 (h44_p0_o1_y r0_0 r0_1 r0_2 r1_0 r1_1 r1_2 r1_3 r1_4) = r0_2 := id rfl
@[simp] theorem h44_p0_o1_r1_0_y (r0_0 : List UInt8) (r0_1 : Int) (r0_2 : List V) (r1_0 : Int) (r1_1 : Int) (r1_2 : List UInt8) (r1_3 : List V) (r1_4 : List (List UInt8)) : h44_p0_o1_r1_0 (h44_p0_o1_y r0_0 r0_1 r0_2 r1_0 r1_1 r1_2 r1_3 r1_4) = r1_0 := id rfl
@[simp] theorem h44_p0_o1_r1_1_y (r0_0 : List UInt8) (r0_1 : Int) (r0_2 : List V) (r1_0 : Int) (r1_1 : Int) (r1_2 : List UInt8) (r1_3 : List V) (r1_4 : List (List UInt8)) : h44_p0_o1_r1_1 (h44_p0_o1_y r0_0 r0_1 r0_2 r1_0 r1_1 r1_2 r1_3 r1_4) = r1_1 := id rfl
@[simp] theorem h44_p0_o1_r1_2_y (r0_0 : List UInt8) (r0_1 : Int) (r0_2 : List V) (r1_0 : Int) (r1_1 : Int) (r1_2 : List UInt8) (r1_3 : List V) (r1_4 : List (List UInt8)) : h44_p0_o1_r1_2 (h44_p0_o1_y r0_0 r0_1 r0_2 r1_0 r1_1 r1_2 r1_3 r1_4) = r1_2 := id rfl
@[simp] theorem h44_p0_o1_r1_3_y (r0_0 : List UInt8) (r0_1 : Int) (r0_2 : List V) (r1_0 : Int) (r1_1 : Int) (r1_2 : List UInt8) (r1_3 : List V) (r1_4 : List (List UInt8)) : h44_p0_o1_r1_3 (h44_p0_o1_y r0_0 r0_1 r0_2 r1_0 r1_1 r1_2 r1_3 r1_4) = r1_3 := id rfl
@[simp] theorem h44_p0_o1_r1_4_y (r0_0 : List UInt8) (r0_1 : Int) (r0_2 : List V) (r1_0 : Int) (r1_1 : Int) (r1_2 : List UInt8) (r1_3 : List V) (r1_4 : List (List UInt8)) : h44_p0_o1_r1_4 (h44_p0_o1_y r0_0 r0_1 r0_2 r1_0 r1_1 r1_2 r1_3 r1_4) = r1_4 := id rfl
def h44_p0_o2_y (x0_0_0 : Int) : h44_p0_o2.den := ((((x0_0_0, ()), ()), ()), (), ())
def h44_p0_o2_x0_0_0 (z : h44_p0_o2.den) : Int := z.1.1.1.1
@[simp] theorem h44_p0_o2_x0_0_0_y (x0_0_0 : Int) : h44_p0_o2_x0_0_0 (h44_p0_o2_y x0_0_0) = x0_0_0 := id rfl
theorem h44_p0_eq (rec : h44_p0_sh.den → Option (OutDen h44_p0_outs)) (x4 : Bool) (r0_0 : List UInt8) (r0_1 : Int) (r0_2 : List V) (r1_0 : Int) (r1_1 : Int) (r1_2 : List UInt8) (r2_0 : Int) (r2_1 : Int) (r2_2 : List UInt8) (r2_3 : List V) (r2_4 : List (List UInt8)) : h44_p0_st rec (h44_p0_y x4 r0_0 r0_1 r0_2 r1_0 r1_1 r1_2 r2_0 r2_1 r2_2 r2_3 r2_4) = (bif x4 then (bif ((r0_2.length : Int) == (0 : Int)) then (some (.inr (.inl (h44_p0_o1_y r0_0 r0_1 r0_2 r2_0 r2_1 r2_2 r2_3 r2_4)))) else ((lastOf r0_2).bind fun p141 => appOk (p141.1.length + 1) (appOk (p141.2.items.length + [(V.mk (0 : Int) (0 : Int) ([] : List UInt8) ([] : List V) ([] : List (List UInt8)))].length) (within (p141.2.items.length : Int) (p141.2.items ++ [(V.mk (0 : Int) (0 : Int) ([] : List UInt8) ([] : List V) ([] : List (List UInt8)))]).length (((p141.2.items ++ [(V.mk (0 : Int) (0 : Int) ([] : List UInt8) ([] : List V) ([] : List (List UInt8)))])[(Int.toNat (p141.2.items.length : Int))]?).bind fun e142 => (f64_F ((p141.2.kind, (p141.2.n, (p141.2.s, (((p141.2.items ++ [(V.mk (0 : Int) (0 : Int) ([] : List UInt8) ([] : List V) ([] : List (List UInt8)))]).set (Int.toNat (p141.2.items.length : Int)) (V.mk r2_0 r2_1 r2_2 r2_3 r2_4)), (p141.2.keys, ()))))), ())).bind fun r143 => if ([44] : List UInt8).length + (strOf [r143.1]).length ≤ 4611686018427387904 then ((h63_F (h63_y (([44] : List UInt8) ++ (strOf [r143.1])) r0_0 r0_1)).bind fun o146 => (match o146 with | .inl z144 => bif ((h63_o_x0 z144) != (44 : Int)) then ((h65_F (h65_y (h63_o_r0_0 z144) (h63_o_r0_1 z144) (p141.1 ++ [(V.mk p141.2.kind p141.2.n p141.2.s ((p141.2.items ++ [(V.mk (0 : Int) (0 : Int) ([] : List UInt8) ([] : List V) ([] : List (List UInt8)))]).set (Int.toNat (p141.2.items.length : Int)) (V.mk r2_0 r2_1 r2_2 r2_3 r2_4)) p141.2.keys)]))).bind fun z147 => rec (h44_p0_y x4 (h65_o_r0_0 z147) (h65_o_r0_1 z147) (h65_o_r0_2 z147) r1_0 r1_1 r1_2 (h65_o_x0_0 z147) (h65_o_x0_1 z147) (h65_o_x0_2 z147) (h65_o_l0 z147) (h65_o_l1 z147))) else (bif (p141.2.kind == (4 : Int)) then ((h66_F (h66_y (h63_o_r0_0 z144) (h63_o_r0_1 z144) (p141.1 ++ [(V.mk p141.2.kind p141.2.n p141.2.s ((p141.2.items ++ [(V.mk (0 : Int) (0 : Int) ([] : List UInt8) ([] : List V) ([] : List (List UInt8)))]).set (Int.toNat (p141.2.items.length : Int)) (V.mk r2_0 r2_1 r2_2 r2_3 r2_4)) p141.2.keys)]))).bind fun o150 => (match o150 with | .inl z148 => rec (h44_p0_y false (h66_o_r0_0 z148) (h66_o_r0_1 z148) (h66_o_r0_2 z148) r1_0 r1_1 r1_2 r2_0 r2_1 r2_2 r2_3 r2_4) | .inr z149 => some (.inr (.inr ((h44_p0_o2_y (h66_z_x0_0_0 z149))))))) else (rec (h44_p0_y false (h63_o_r0_0 z144) (h63_o_r0_1 z144) (p141.1 ++ [(V.mk p141.2.kind p141.2.n p141.2.s ((p141.2.items ++ [(V.mk (0 : Int) (0 : Int) ([] : List UInt8) ([] : List V) ([] : List (List UInt8)))]).set (Int.toNat (p141.2.items.length : Int)) (V.mk r2_0 r2_1 r2_2 r2_3 r2_4)) p141.2.keys)]) r1_0 r1_1 r1_2 r2_0 r2_1 r2_2 r2_3 r2_4))) | .inr z145 => some (.inr (.inr ((h44_p0_o2_y (h63_z_x0_0_0 z145))))))) else none))))) else (some (.inl (h44_p0_o0_y r0_0 r0_1 r0_2 r1_0 r1_1 r1_2)))) := by kernel_rfl
def h44_p1_y (r0_0 : List UInt8) (r0_1 : Int) (r0_2 : List V) (r1_0 : Int) (r1_1 : Int) (r1_2 : List UInt8) : h44_p1_sh.den := (((), ((), ((), ((), ((), ((), ((), ((), ((), ((), ((), ((), ((), ((), ((), ((), ((), ((), ((), ((), ((), ((), ((), ((), ((), ((), ((), ((), ((), ((), ((), ((), ((), ((), ((), ((), ((), ((), ((), ((), ((), ((), ((), ((), ((), ((), ((), ((), ((), ((), ((), ((), ((), ((), ((), ((), ())))))))))))))))))))))))))))))))))))))))))))))))))))))))), ((r0_0, (r0_1, (r0_2, ()))), ((r1_0, (r1_1, (r1_2, ((), ((), ()))))), ())), ())
def h44_p1_o0_y (x0_0_0 : Int) : h44_p1_o0.den := ((((x0_0_0, ()), ()), ()), (), ())
def h44_p1_o0_x0_0_0 (z : h44_p1_o0.den) : Int := z.1.1.1.1
@[simp] theorem h44_p1_o0_x0_0_0_y (x0_0_0 : Int) : h44_p1_o0_x0_0_0 (h44_p1_o0_y x0_0_0) = x0_0_0 := id rfl
def h44_p1_o1_y (r0_0 : List UInt8) (r0_1 : Int) (r0_2 : List V) (r1_0 : Int) (r1_1 : Int) (r1_2 : List UInt8) (r1_3 : List V) (r1_4 : List (List UInt8)) : h44_p1_o1.den := (((), ((), ((), ((), ((), ((), ((), ((), ((), ((), ((), ((), ((), ((), ((), ((), ((), ((), ((), ((), ((), ((), ((), ((), ((), ((), ((), ((), ((), ((), ((), ((), ((), ((), ((), ((), ((), ((), ((), ((), ((), ((), ((), ((), ((), ((), ((), ((), ((), ((), ((), ((), ((), ((), ((), ((), ())))))))))))))))))))))))))))))))))))))))))))))))))))))))), ((r0_0, (r0_1, (r0_2, ()))), ((r1_0, (r1_1, (r1_2, (r1_3, (r1_4, ()))))), ())), ())
def h44_p1_o1_r0_0 (z : h44_p1_o1.den) : List UInt8 := z.2.1.1.1
def h44_p1_o1_r0_1 (z : h44_p1_o1.den) : Int := z.2.1.1.2.1
def h44_p1_o1_r0_2 (z : h44_p1_o1.den) : List V := z.2.1.1.2.2.1
def h44_p1_o1_r1_0 (z : h44_p1_o1.den) : Int := z.2.1.2.1.1
def h44_p1_o1_r1_1 (z : h44_p1_o1.den) : Int := z.2.1.2.1.2.1
def h44_p1_o1_r1_2 (z : h44_p1_o1.den) : List UInt8 := z.2.1.2.1.2.2.1
def h44_p1_o1_r1_3 (z : h44_p1_o1.den) : List V := z.2.1.2.1.2.2.2.1
def h44_p1_o1_r1_4 (z : h44_p1_o1.den) : List (List UInt8) := z.2.1.2.1.2.2.2.2.1
@[simp] theorem h44_p1_o1_r0_0_y (r0_0 : List UInt8) (r0_1 : Int) (r0_2 : List V) (r1_0 : Int) (r1_1 : Int) (r1_2 : List UInt8) (r1_3 : List V) (r1_4 : List (List UInt8)) : h44_p1_o1_r0_0 (h44_p1_o1_y r0_0 r0_1 r0_2 r1_0 r1_1 r1_2 r1_3 r1_4) = r0_0 := id rfl
@[simp] theorem h44_p1_o1_r0_1_y (r0_0 : List UInt8) (r0_1 : Int) (r0_2 : List V) (r1_0 : Int) (r1_1 : Int) (r1_2 : List UInt8) (r1_3 : List V) (r1_4 : List (List UInt8)) : h44_p1_o1_r0_1 (h44_p1_o1_y r0_0 r0_1 r0_2 r1_0 r1_1 r1_2 r1_3 r1_4) = r0_1 := id rfl
@[simp] theorem h44_p1_o1_r0_2_y (r0_0 : List UInt8) (r0_1 : Int) (r0_2 : List V) (r1_0 : Int) (r1_1 : Int) (r1_2 : List UInt8) (r1_3 : List V) (r1_4 : List (List UInt8)) : h44_p1_o1_r0_2 (h44_p1_o1_y r0_0 r0_1 r0_2 r1_0 r1_1 r1_2 r1_3 r1_4) = r0_2 := id rfl
@[simp] theorem h44_p1_o1_r1_0_y (r0_0 : List UInt8) (r0_1 : Int) (r0_2 : List V) (r1_0 : Int) (r1_1 : Int) (r1_2 : List UInt8) (r1_3 : List V) (r1_4 : List (List UInt8)) : h44_p1_o1_r1_0 (h44_p1_o1_y r0_0 r0_1 r0_2 r1_0 r1_1 r1_2 r1_3 r1_4) = r1_0 := id rfl
@[simp] theorem h44_p1_o1_r1_1_y (r0_0 : List UInt8) (r0_1 : Int) (r0_2 : List V) (r1_0 : Int) (r1_1 : Int) (r1_2 : List UInt8) (r1_3 : List V) (r1_4 : List (List UInt8)) : h44_p1_o1_r1_1 (h44_p1_o1_y r0_0 r0_1 r0_2 r1_0 r1_1 r1_2 r1_3 r1_4) = r1_1 := id rfl
@[simp] theorem h44_p1_o1_r1_2_y (r0_0 : List UInt8) (r0_1 : Int) (r0_2 : List V) (r1_0 : Int) (r1_1 : Int) (r1_2 : List UInt8) (r1_3 : List V) (r1_4 : List (List UInt8)) : h44_p1_o1_r1_2 (h44_p1_o1_y r0_0 r0_1 r0_2 r1_0 r1_1 r1_2 r1_3 r1_4) = r1_2 := id rfl
@[simp] theorem h44_p1_o1_r1_3_y (r0_0 : List UInt8) (r0_1 : Int) (r0_2 : List V) (r1_0 : Int) (r1_1 : Int) (r1_2 : List UInt8) (r1_3 : List V) (r1_4 : List (List UInt8)) : h44_p1_o1_r1_3 (h44_p1_o1_y r0_0 r0_1 r0_2 r1_0 r1_1 r1_2 r1_3 r1_4) = r1_3 := id rfl
@[simp] theorem h44_p1_o1_r1_4_y (r0_0 : List UInt8) (r0_1 : Int) (r0_2 : List V) (r1_0 : Int) (r1_1 : Int) (r1_2 : List UInt8) (r1_3 : List V) (r1_4 : List (List UInt8)) : h44_p1_o1_r1_4 (h44_p1_o1_y r0_0 r0_1 r0_2 r1_0 r1_1 r1_2 r1_3 r1_4) = r1_4 := id rfl
theorem h44_p1_eq (rec : h44_p1_sh.den → Option (OutDen h44_p1_outs)) (r0_0 : List UInt8) (r0_1 : Int) (r0_2 : List V) (r1_0 : Int) (r1_1 : Int) (r1_2 : List UInt8) : h44_p1_st rec (h44_p1_y r0_0 r0_1 r0_2 r1_0 r1_1 r1_2) = ((h61_F (h61_y r0_0 r0_1 r0_2)).bind fun o153 => (match o153 with | .inl z151 => (go h44_p0_st (h44_p0_y (h61_o_x1 z151) (h61_o_r0_0 z151) (h61_o_r0_1 z151) (h61_o_r0_2 z151) r1_0 r1_1 r1_2 (h61_o_x0_0 z151) (h61_o_x0_1 z151) (h61_o_x0_2 z151) (h61_o_x0_3 z151) (h61_o_x0_4 z151))).bind fun o154 => (match o154 with | .inl z155 => rec (h44_p1_y (h44_p0_o0_r0_0 z155) (h44_p0_o0_r0_1 z155) (h44_p0_o0_r0_2 z155) (h44_p0_o0_r1_0 z155) (h44_p0_o0_r1_1 z155) (h44_p0_o0_r1_2 z155)) | .inr o156 => (match o156 with | .inl z157 => some (.inr ((h44_p1_o1_y (h44_p0_o1_r0_0 z157) (h44_p0_o1_r0_1 z157) (h44_p0_o1_r0_2 z157) (h44_p0_o1_r1_0 z157) (h44_p0_o1_r1_1 z157) (h44_p0_o1_r1_2 z157) (h44_p0_o1_r1_3 z157) (h44_p0_o1_r1_4 z157)))) | .inr o158 => some (.inl (h44_p1_o0_y (h44_p0_o2_x0_0_0 o158))))) | .inr z152 => some (.inl (h44_p1_o0_y (h61_z_x0_0_0 z152))))) := by kernel_rfl
theorem h44_eq (r0_0 : List UInt8) (r0_1 : Int) (r0_2 : List V) : h44_F (h44_y r0_0 r0_1 r0_2) = ((go h44_p1_st (h44_p1_y r0_0 r0_1 r0_2 (0 : Int) (0 : Int) ([] : List UInt8))).bind fun o159 => (match o159 with | .inl z160 => some (.inr (h44_z_y (h44_p1_o0_x0_0_0 z160))) | .inr o161 => some (.inl (h44_o_y (h44_p1_o1_r1_0 o161) (h44_p1_o1_r1_1 o161) (h44_p1_o1_r1_2 o161) (h44_p1_o1_r1_3 o161) (h44_p1_o1_r1_4 o161) (h44_p1_o1_r0_0 o161) (h44_p1_o1_r0_1 o161) (h44_p1_o1_r0_2 o161))))) := by kernel_rfl
end Go.Pe.Tryd
end
section
set_option linter.unusedSectionVars false
set_option linter.unusedVariables false
set_option linter.unusedSimpArgs false
namespace Go.Pe.Tryd
open Go.Proofs Go.RowKit
theorem stepS {P : Program} {ops : Array Oper} {Q : Exit → Act → List Frame → World → Prop} {i : Nat} {rest : List Nat} {a : Act} {cs : List Frame} {w : World} (o : Oper) (v : Value) (w' : World) (a' : Act)
    (ho : ops[i]? = some o) (hg : o.guard = none) (hr : (execOp a.eval o).run P w = .ok (.value v) w') (ha : a.put o.dst v = a') (h : wpOpsS P ops Q rest a' cs w') : wpOpsS P ops Q (i :: rest) a cs w := by
  have hw : Region.wanted o (yielded ops a.tmps) = true := by simp [Region.wanted, hg]
  simp only [wpOpsS, ho, hw, if_true, hr, Oper.upon]; rw [ha]; exact h
theorem stepS_skip {P : Program} {ops : Array Oper} {Q : Exit → Act → List Frame → World → Prop} {i : Nat} {rest : List Nat} {a : Act} {cs : List Frame} {w : World} (o : Oper) (w' : World)
    (ho : ops[i]? = some o) (hg : o.guard = none) (hr : (execOp a.eval o).run P w = .ok .skip w') (ha : a.put o.dst undef = a) (h : wpOpsS P ops Q rest a cs w') : wpOpsS P ops Q (i :: rest) a cs w := by
  have hw : Region.wanted o (yielded ops a.tmps) = true := by simp [Region.wanted, hg]
  simp only [wpOpsS, ho, hw, if_true, hr, Oper.upon]; rw [ha]; exact h
theorem stepS_rec {P : Program} {ops : Array Oper} {Q : Exit → Act → List Frame → World → Prop} {i : Nat} {rest : List Nat} {a : Act} {cs : List Frame} {w : World} (o : Oper) (v : Value) (cs' : List Frame) (a' : Act)
    (ho : ops[i]? = some o) (hg : o.guard = none) (hr : (execOp a.eval o).run P w = .ok .recover w) (hc : recoverD cs = some (v, cs')) (ha : a.put o.dst v = a') (h : wpOpsS P ops Q rest a' cs' w) : wpOpsS P ops Q (i :: rest) a cs w := by
  have hw : Region.wanted o (yielded ops a.tmps) = true := by simp [Region.wanted, hg]
  simp only [wpOpsS, ho, hw, if_true, hr, hc]; rw [ha]; exact h
theorem stepS_nil {P : Program} {ops : Array Oper} {Q : Exit → Act → List Frame → World → Prop} {i : Nat} {rest : List Nat} {a : Act} {cs : List Frame} {w : World} (o : Oper) (a' : Act)
    (ho : ops[i]? = some o) (hg : o.guard = none) (hr : (execOp a.eval o).run P w = .ok .recover w) (hc : recoverD cs = none) (ha : a.put o.dst .nilIface = a') (h : wpOpsS P ops Q rest a' cs w) : wpOpsS P ops Q (i :: rest) a cs w := by
  have hw : Region.wanted o (yielded ops a.tmps) = true := by simp [Region.wanted, hg]
  simp only [wpOpsS, ho, hw, if_true, hr, hc]; rw [ha]; exact h
theorem stepS_end {P : Program} {ops : Array Oper} {Q : Exit → Act → List Frame → World → Prop} {a : Act} {cs : List Frame} {w : World} (h : Q .normal a cs w) : wpOpsS P ops Q [] a cs w := h
attribute [local irreducible] wpOpsS
theorem rep_dead {c : Cx} : ∀ (vs : List Value) (l : List AV), l = List.replicate vs.length .dead → RepAVs c l vs
  | [], l, h => by subst h; simp [RepAVs]
  | v :: vs, l, h => by subst h; exact RepAVs.cons (by simp only [RepAV]) (rep_dead vs _ rfl)
theorem rep_ptr {c : Cx} {r off b : Nat} (h1 : r < c.recs.length) (h2 : c.μ.at_ (.r r) = some b) : RepAV c (.ptr r off) (.pointer (some ⟨b, off, none⟩)) := by
  simp only [RepAV]; exact ⟨h1, rfl, fun _ => ⟨b, h2, rfl⟩⟩
noncomputable def regO (c : Code) : Array Oper := match c with | .region _ ops _ => ops | _ => #[]
noncomputable def p0 : Array Oper := regO (codeOf Tryd.f43).cl
noncomputable def p1 : Array Oper := regO (codeOf Tryd.f43).cr.cl
noncomputable def p2 : Array Oper := regO (codeOf Tryd.f43).cr.cr.ct
theorem p_body : Tryd.f43.body = some (.seq (.region 0 p0 false) (.seq (.region 1 p1 false) (.cond (.tmp 9) (.region 2 p2 true) .skip))) := by kernel_rfl
noncomputable def p0_0 : Oper := (p0[0]?).getD ⟨none, .move (.tmp 0), 0, "", #[], none⟩
noncomputable def p0_1 : Oper := (p0[1]?).getD ⟨none, .move (.tmp 0), 0, "", #[], none⟩
noncomputable def p0_2 : Oper := (p0[2]?).getD ⟨none, .move (.tmp 0), 0, "", #[], none⟩
noncomputable def p0_3 : Oper := (p0[3]?).getD ⟨none, .move (.tmp 0), 0, "", #[], none⟩
noncomputable def p0_4 : Oper := (p0[4]?).getD ⟨none, .move (.tmp 0), 0, "", #[], none⟩
noncomputable def p0_5 : Oper := (p0[5]?).getD ⟨none, .move (.tmp 0), 0, "", #[], none⟩
noncomputable def p0_6 : Oper := (p0[6]?).getD ⟨none, .move (.tmp 0), 0, "", #[], none⟩
noncomputable def p0_7 : Oper := (p0[7]?).getD ⟨none, .move (.tmp 0), 0, "", #[], none⟩
noncomputable def p1_0 : Oper := (p1[0]?).getD ⟨none, .move (.tmp 0), 0, "", #[], none⟩
set_option maxRecDepth 100000 in
set_option maxHeartbeats 1000000 in
theorem catch_idle (b1 b2 : Nat) (w : World) :
    CallsD Tryd.prog 43 #[.pointer (some ⟨b1, 0, none⟩), .pointer (some ⟨b2, 0, none⟩)] .returning w fun e u' w' => e = .returned (.tuple #[]) ∧ u' = .returning ∧ w' = w.alloc (.cells #[.int .i64 0] 68) := by
  refine callsD_of_wpS Tryd.func43 p_body fun c₀ cs hu => ?_
  rw [show (#[Value.pointer (some ⟨b1, 0, none⟩), .pointer (some ⟨b2, 0, none⟩)] ++ Array.replicate (Tryd.f43.ntmps - (#[Value.pointer (some ⟨b1, 0, none⟩), .pointer (some ⟨b2, 0, none⟩)] : Array Value).size) undef) = #[.pointer (some ⟨b1, 0, none⟩), .pointer (some ⟨b2, 0, none⟩), undef, undef, undef, undef, undef, undef, undef, undef, undef, undef, undef] by kernel_rfl]
  refine wpS_seq (wpS_region ?_)
  rw [show List.range p0.size = [0, 1, 2, 3, 4, 5, 6, 7] by kernel_rfl]
  refine stepS_nil p0_0 ({ tmps := #[.pointer (some ⟨b1, 0, none⟩), .pointer (some ⟨b2, 0, none⟩), undef, undef, undef, .nilIface, undef, undef, undef, undef, undef, undef, undef], defers := [] }) (by kernel_rfl) (by kernel_rfl) (by kernel_rfl) (by simp [recoverD, hu]) (by kernel_rfl) ?_
  refine stepS p0_1 (.tuple #[.agg #[.int .i64 0], .bool false]) (w) ({ tmps := #[.pointer (some ⟨b1, 0, none⟩), .pointer (some ⟨b2, 0, none⟩), undef, undef, undef, .nilIface, .tuple #[.agg #[.int .i64 0], .bool false], undef, undef, undef, undef, undef, undef], defers := [] }) (by kernel_rfl) (by kernel_rfl) (by kernel_rfl) (by kernel_rfl) ?_
  refine stepS p0_2 (.tuple #[.agg #[.int .i64 0], .bool false]) (w) ({ tmps := #[.pointer (some ⟨b1, 0, none⟩), .pointer (some ⟨b2, 0, none⟩), undef, undef, .tuple #[.agg #[.int .i64 0], .bool false], .nilIface, .tuple #[.agg #[.int .i64 0], .bool false], undef, undef, undef, undef, undef, undef], defers := [] }) (by kernel_rfl) (by kernel_rfl) (by kernel_rfl) (by kernel_rfl) ?_
  refine stepS p0_3 (.agg #[.int .i64 0]) (w) ({ tmps := #[.pointer (some ⟨b1, 0, none⟩), .pointer (some ⟨b2, 0, none⟩), undef, undef, .tuple #[.agg #[.int .i64 0], .bool false], .nilIface, .tuple #[.agg #[.int .i64 0], .bool false], .agg #[.int .i64 0], undef, undef, undef, undef, undef], defers := [] }) (by kernel_rfl) (by kernel_rfl) (by kernel_rfl) (by kernel_rfl) ?_
  refine stepS p0_4 (.bool false) (w) ({ tmps := #[.pointer (some ⟨b1, 0, none⟩), .pointer (some ⟨b2, 0, none⟩), undef, undef, .tuple #[.agg #[.int .i64 0], .bool false], .nilIface, .tuple #[.agg #[.int .i64 0], .bool false], .agg #[.int .i64 0], .bool false, undef, undef, undef, undef], defers := [] }) (by kernel_rfl) (by kernel_rfl) (by kernel_rfl) (by kernel_rfl) ?_
  refine stepS p0_5 (.pointer (some ⟨w.heap.size, 0, none⟩)) (w.alloc (.cells #[.int .i64 0] 68)) ({ tmps := #[.pointer (some ⟨b1, 0, none⟩), .pointer (some ⟨b2, 0, none⟩), .pointer (some ⟨w.heap.size, 0, none⟩), undef, .tuple #[.agg #[.int .i64 0], .bool false], .nilIface, .tuple #[.agg #[.int .i64 0], .bool false], .agg #[.int .i64 0], .bool false, undef, undef, undef, undef], defers := [] }) (by kernel_rfl) (by kernel_rfl) (by kernel_rfl) (by kernel_rfl) ?_
  refine stepS_skip p0_6 (w.alloc (.cells #[.int .i64 0] 68)) (by kernel_rfl) (by kernel_rfl) (by rw [show p0_6 = ⟨none, .store 68 (.tmp 2) (.tmp 7), 0, p0_6.pos, p0_6.after, none⟩ by kernel_rfl]; simp [execOp, go_sem]) (by kernel_rfl) ?_
  refine stepS p0_7 (.bool false) ((w.alloc (.cells #[.int .i64 0] 68))) ({ tmps := #[.pointer (some ⟨b1, 0, none⟩), .pointer (some ⟨b2, 0, none⟩), .pointer (some ⟨w.heap.size, 0, none⟩), .bool false, .tuple #[.agg #[.int .i64 0], .bool false], .nilIface, .tuple #[.agg #[.int .i64 0], .bool false], .agg #[.int .i64 0], .bool false, undef, undef, undef, undef], defers := [] }) (by kernel_rfl) (by kernel_rfl) (by kernel_rfl) (by kernel_rfl) ?_
  refine stepS_end ?_
  show Code.wpS _ _ _ _ _ _
  refine wpS_seq (wpS_region ?_)
  rw [show List.range p1.size = [0] by kernel_rfl]
  refine stepS p1_0 (.bool false) ((w.alloc (.cells #[.int .i64 0] 68))) ({ tmps := #[.pointer (some ⟨b1, 0, none⟩), .pointer (some ⟨b2, 0, none⟩), .pointer (some ⟨w.heap.size, 0, none⟩), .bool false, .tuple #[.agg #[.int .i64 0], .bool false], .nilIface, .tuple #[.agg #[.int .i64 0], .bool false], .agg #[.int .i64 0], .bool false, .bool false, undef, undef, undef], defers := [] }) (by kernel_rfl) (by kernel_rfl) (by kernel_rfl) (by kernel_rfl) ?_
  refine stepS_end ?_
  show Code.wpS _ _ _ _ _ _
  refine wpS_cond (t := false) (by kernel_rfl) ?_
  refine wpS_of_wp (wp_skip ?_)
  cases c₀
  simp_all [bodyPostS, results, Tryd.results43]
set_option maxRecDepth 100000 in
set_option maxHeartbeats 1000000 in
theorem catch_fault (b1 b2 : Nat) (w : World) (n : Int) (T1 T2 : TypeId) (vs : Array Value) (x : Int) (hb1 : w.heap[b1]? = some (.cells vs T1 (0, 0))) (hv : vs.size = 5) (hb2 : w.heap[b2]? = some (.cells #[.int .i64 x] T2 (0, 0))) (hne : b1 ≠ b2) (w0 : World) (h0 : Below w0.heap.size w0 w) (hB1 : w0.heap.size ≤ b1) (hB2 : w0.heap.size ≤ b2) (hgi : GI.inv w0) :
    CallsD Tryd.prog 43 #[.pointer (some ⟨b1, 0, none⟩), .pointer (some ⟨b2, 0, none⟩)] (.panicking [{ v := .iface 68 (.agg #[.int .i64 n]), recovered := false }]) w fun e u' w' => e = .returned (.tuple #[]) ∧ u' = .panicking [{ v := .iface 68 (.agg #[.int .i64 n]), recovered := true }] ∧ (∃ T, w'.heap[b1]? = some (.cells #[.int .i64 0, .int .i64 0, .string ⟨#[]⟩, .slice none 0 0, .slice none 0 0] T (0, 0))) ∧ (∃ T, w'.heap[b2]? = some (.cells #[.int .i64 n] T (0, 0))) ∧ Below w0.heap.size w0 w' := by
  refine callsD_of_wpS Tryd.func43 p_body fun c₀ cs hu => ?_
  rw [show (#[Value.pointer (some ⟨b1, 0, none⟩), .pointer (some ⟨b2, 0, none⟩)] ++ Array.replicate (Tryd.f43.ntmps - (#[Value.pointer (some ⟨b1, 0, none⟩), .pointer (some ⟨b2, 0, none⟩)] : Array Value).size) undef) = #[.pointer (some ⟨b1, 0, none⟩), .pointer (some ⟨b2, 0, none⟩), undef, undef, undef, undef, undef, undef, undef, undef, undef, undef, undef] by kernel_rfl]
  refine wpS_seq (wpS_region ?_)
  rw [show List.range p0.size = [0, 1, 2, 3, 4, 5, 6, 7] by kernel_rfl]
  refine stepS_rec p0_0 (.iface 68 (.agg #[.int .i64 n])) ({ c₀ with mode := .panicking [{ v := .iface 68 (.agg #[.int .i64 n]), recovered := true }] } :: cs) ({ tmps := #[.pointer (some ⟨b1, 0, none⟩), .pointer (some ⟨b2, 0, none⟩), undef, undef, undef, .iface 68 (.agg #[.int .i64 n]), undef, undef, undef, undef, undef, undef, undef], defers := [] }) (by kernel_rfl) (by kernel_rfl) (by kernel_rfl) (by simp [recoverD, hu]) (by kernel_rfl) ?_
  refine stepS p0_1 (.tuple #[.agg #[.int .i64 n], .bool true]) (w) ({ tmps := #[.pointer (some ⟨b1, 0, none⟩), .pointer (some ⟨b2, 0, none⟩), undef, undef, undef, .iface 68 (.agg #[.int .i64 n]), .tuple #[.agg #[.int .i64 n], .bool true], undef, undef, undef, undef, undef, undef], defers := [] }) (by kernel_rfl) (by kernel_rfl) (by kernel_rfl) (by kernel_rfl) ?_
  refine stepS p0_2 (.tuple #[.agg #[.int .i64 n], .bool true]) (w) ({ tmps := #[.pointer (some ⟨b1, 0, none⟩), .pointer (some ⟨b2, 0, none⟩), undef, undef, .tuple #[.agg #[.int .i64 n], .bool true], .iface 68 (.agg #[.int .i64 n]), .tuple #[.agg #[.int .i64 n], .bool true], undef, undef, undef, undef, undef, undef], defers := [] }) (by kernel_rfl) (by kernel_rfl) (by kernel_rfl) (by kernel_rfl) ?_
  refine stepS p0_3 (.agg #[.int .i64 n]) (w) ({ tmps := #[.pointer (some ⟨b1, 0, none⟩), .pointer (some ⟨b2, 0, none⟩), undef, undef, .tuple #[.agg #[.int .i64 n], .bool true], .iface 68 (.agg #[.int .i64 n]), .tuple #[.agg #[.int .i64 n], .bool true], .agg #[.int .i64 n], undef, undef, undef, undef, undef], defers := [] }) (by kernel_rfl) (by kernel_rfl) (by kernel_rfl) (by kernel_rfl) ?_
  refine stepS p0_4 (.bool true) (w) ({ tmps := #[.pointer (some ⟨b1, 0, none⟩), .pointer (some ⟨b2, 0, none⟩), undef, undef, .tuple #[.agg #[.int .i64 n], .bool true], .iface 68 (.agg #[.int .i64 n]), .tuple #[.agg #[.int .i64 n], .bool true], .agg #[.int .i64 n], .bool true, undef, undef, undef, undef], defers := [] }) (by kernel_rfl) (by kernel_rfl) (by kernel_rfl) (by kernel_rfl) ?_
  refine stepS p0_5 (.pointer (some ⟨w.heap.size, 0, none⟩)) (w.alloc (.cells #[.int .i64 0] 68)) ({ tmps := #[.pointer (some ⟨b1, 0, none⟩), .pointer (some ⟨b2, 0, none⟩), .pointer (some ⟨w.heap.size, 0, none⟩), undef, .tuple #[.agg #[.int .i64 n], .bool true], .iface 68 (.agg #[.int .i64 n]), .tuple #[.agg #[.int .i64 n], .bool true], .agg #[.int .i64 n], .bool true, undef, undef, undef, undef], defers := [] }) (by kernel_rfl) (by kernel_rfl) (by kernel_rfl) (by kernel_rfl) ?_
  refine stepS_skip p0_6 (w.alloc (.cells #[.int .i64 n] 68)) (by kernel_rfl) (by kernel_rfl) (by rw [show p0_6 = ⟨none, .store 68 (.tmp 2) (.tmp 7), 0, p0_6.pos, p0_6.after, none⟩ by kernel_rfl]; simp [execOp, go_sem]) (by kernel_rfl) ?_
  refine stepS p0_7 (.bool true) ((w.alloc (.cells #[.int .i64 n] 68))) ({ tmps := #[.pointer (some ⟨b1, 0, none⟩), .pointer (some ⟨b2, 0, none⟩), .pointer (some ⟨w.heap.size, 0, none⟩), .bool true, .tuple #[.agg #[.int .i64 n], .bool true], .iface 68 (.agg #[.int .i64 n]), .tuple #[.agg #[.int .i64 n], .bool true], .agg #[.int .i64 n], .bool true, undef, undef, undef, undef], defers := [] }) (by kernel_rfl) (by kernel_rfl) (by kernel_rfl) (by kernel_rfl) ?_
  refine stepS_end ?_
  show Code.wpS _ _ _ _ _ _
  refine wpS_seq (wpS_region ?_)
  rw [show List.range p1.size = [0] by kernel_rfl]
  refine stepS p1_0 (.bool true) ((w.alloc (.cells #[.int .i64 n] 68))) ({ tmps := #[.pointer (some ⟨b1, 0, none⟩), .pointer (some ⟨b2, 0, none⟩), .pointer (some ⟨w.heap.size, 0, none⟩), .bool true, .tuple #[.agg #[.int .i64 n], .bool true], .iface 68 (.agg #[.int .i64 n]), .tuple #[.agg #[.int .i64 n], .bool true], .agg #[.int .i64 n], .bool true, .bool true, undef, undef, undef], defers := [] }) (by kernel_rfl) (by kernel_rfl) (by kernel_rfl) (by kernel_rfl) ?_
  refine stepS_end ?_
  show Code.wpS _ _ _ _ _ _
  refine wpS_cond (t := true) (by kernel_rfl) ?_
  simp only [if_true]
  obtain ⟨hlt1, _⟩ := Array.getElem?_eq_some_iff.1 hb1
  obtain ⟨hlt2, _⟩ := Array.getElem?_eq_some_iff.1 hb2
  have g1 : (w.alloc (.cells #[.int .i64 n] 68)).heap[b1]? = some (.cells vs T1 (0, 0)) := by rw [Below.heap_alloc _ _ _ hlt1]; exact hb1
  have g2 : (w.alloc (.cells #[.int .i64 n] 68)).heap[b2]? = some (.cells #[.int .i64 x] T2 (0, 0)) := by rw [Below.heap_alloc _ _ _ hlt2]; exact hb2
  have g3 : (w.alloc (.cells #[.int .i64 n] 68)).heap[w.heap.size]? = some (.cells #[.int .i64 n] 68 (0, 0)) := by show (w.heap.push _)[w.heap.size]? = _; exact Array.getElem?_push_size
  have hsz : (w.alloc (.cells #[.int .i64 n] 68)).heap.size = w.heap.size + 1 := by show (w.heap.push _).size = _; exact Array.size_push _
  have hbel : Below w0.heap.size w0 (w.alloc (.cells #[.int .i64 n] 68)) := h0.alloc h0.size _
  generalize w.alloc (.cells #[.int .i64 n] 68) = W at *
  refine wpS_of_wp ((wpIn_wide (n := 0)).1 ?_)
  let μ0 : Mu := ⟨fun x => match x with | .r 0 => some b1 | .r 1 => some b2 | .r 2 => some w.heap.size | _ => none, fun _ => 0, none⟩
  let A0 : Dom := ⟨fun _ => False, fun _ => False, fun _ => False, w, fun r => match r with | 0 => some b1 | 1 => some b2 | _ => none, 2, .bool false⟩
  let st0 : St := ⟨[.ptr 0 0, .ptr 1 0, .ptr 2 0, .dead, .dead, .dead, .dead, .dead, .dead, .dead, .dead, .dead, .dead], [some [.dead, .dead, .dead, .dead, .dead], some [.dead], some [.d (.int .i64) n]], []⟩
  let st1 : St := ⟨[.ptr 0 0, .ptr 1 0, .ptr 2 0, .dead, .dead, .dead, .dead, .dead, .dead, .dead, .agg [.d (.int .i64) (0 : Int), .d (.int .i64) (0 : Int), .d .str ([] : List UInt8), .nilS, .nilS], .ptr 2 0, .d (.int .i64) n], [some [.d (.int .i64) (0 : Int), .d (.int .i64) (0 : Int), .d .str ([] : List UInt8), .nilS, .nilS], some [.d (.int .i64) n], some [.d (.int .i64) n]], []⟩
  have hat : ∀ x b, μ0.at_ x = some b → (x = .r 0 ∧ b = b1) ∨ (x = .r 1 ∧ b = b2) ∨ (x = .r 2 ∧ b = w.heap.size) := by
    intro x b h
    simp only [μ0] at h
    split at h <;> simp_all
  have hsim : Sim A0 w0 st0 #[.pointer (some ⟨b1, 0, none⟩), .pointer (some ⟨b2, 0, none⟩), .pointer (some ⟨w.heap.size, 0, none⟩), .bool true, .tuple #[.agg #[.int .i64 n], .bool true], .iface 68 (.agg #[.int .i64 n]), .tuple #[.agg #[.int .i64 n], .bool true], .agg #[.int .i64 n], .bool true, .bool true, undef, undef, undef] W μ0 := by
    refine ⟨?_, ?_, ?_, ?_, ?_, hbel, ?_, ?_, ?_, ?_, hgi, ?_, ?_, ?_⟩
    · exact RepAVs.cons (rep_ptr (by simp [cx, st0]) rfl) (RepAVs.cons (rep_ptr (by simp [cx, st0]) rfl) (RepAVs.cons (rep_ptr (by simp [cx, st0]) rfl) (rep_dead _ _ rfl)))
    · intro r cells h hk
      rcases r with _ | _ | _ | r <;> simp only [getL, st0] at h <;> simp at h <;> subst h
      · exact ⟨b1, vs, rfl, ⟨T1, g1⟩, rep_dead _ _ (by rw [Array.length_toList, hv]; rfl)⟩
      · exact ⟨b2, _, rfl, ⟨T2, g2⟩, rep_dead _ _ rfl⟩
      · exact ⟨w.heap.size, _, rfl, ⟨68, g3⟩, RepAVs.one (by simp only [RepAV, Rep])⟩
    · intro t o h; simp [getL, st0] at h
    · intro y b h
      rcases hat y b h with ⟨rfl, rfl⟩ | ⟨rfl, rfl⟩ | ⟨rfl, rfl⟩
      · exact ⟨hB1, by omega, by simp [getL, st0]⟩
      · exact ⟨hB2, by omega, by simp [getL, st0]⟩
      · exact ⟨h0.size, by omega, by simp [getL, st0]⟩
    · intro y z b h1 h2
      rcases hat y b h1 with ⟨rfl, rfl⟩ | ⟨rfl, rfl⟩ | ⟨rfl, rfl⟩ <;> rcases hat z _ h2 with ⟨rfl, e⟩ | ⟨rfl, e⟩ | ⟨rfl, e⟩ <;> first | rfl | (exfalso; omega)
    · intro b h; cases h
    · intro b h; cases h
    · simp [A0, st0]
    · intro r b h
      rcases r with _ | _ | r <;> simp only [A0] at h <;> cases h <;> exact ⟨by simp [A0], fun _ => rfl⟩
    · refine ⟨fun r c h1 h2 => ?_, fun t o h => by simp [getL, st0] at h⟩
      rcases r with _ | _ | _ | r <;> simp only [getL, st0] at h1 <;> simp at h1 <;> subst h1 <;> simp [isBld] at h2
    · intro r c h
      rcases r with _ | _ | _ | r <;> simp only [getL, st0] at h <;> simp at h
    · intro d h; cases h
  refine evC_sound (ρ := none) h45_E_okE (Dk := fun l => l = []) (A0 := A0) (w0 := w0) (S := St) (r := st1) (.region 2 p2 true) (fun ex st => match ex with | .normal => some st | _ => none) ?_ st0 _ W μ0 (by kernel_rfl) hsim rfl
  intro ex st' tm E a' w' μ' hK hs hl hd
  cases ex <;> simp only at hK <;> cases hK
  obtain ⟨rfl, rfl⟩ := hl
  have hm := hs.mem
  have hdf : a'.defers = [] := hd
  obtain ⟨c1, v1, e1, ⟨t1, o1⟩, r1⟩ := hm.hrec 0 _ rfl rfl
  obtain ⟨c2, v2, e2, ⟨t2, o2⟩, r2⟩ := hm.hrec 1 _ rfl rfl
  have k1 := (hm.pins 0 b1 rfl).2 rfl
  have k2 := (hm.pins 1 b2 rfl).2 rfl
  rw [k1] at e1; cases e1
  rw [k2] at e2; cases e2
  obtain ⟨l1, rfl⟩ : ∃ l : List Value, v1 = l.toArray := ⟨v1.toList, by simp⟩
  obtain ⟨l2, rfl⟩ : ∃ l : List Value, v2 = l.toArray := ⟨v2.toList, by simp⟩
  simp only [RepAVs, RepAV, Rep] at r1 r2
  simp at r1 r2
  subst r1; subst r2
  refine ⟨hdf, _, rfl, .tuple #[], by simp [results, Tryd.results43], rfl, rfl, ⟨t1, o1⟩, ⟨t2, o2⟩, hm.below⟩
end Go.Pe.Tryd
end
section
namespace Go.Pe
open Go.RowKit
set_option linter.unusedSectionVars false
variable [GI]
set_option linter.unusedSimpArgs false
set_option linter.unusedVariables false
theorem RepAVs.setAt {c : Cx} {x : AV} : ∀ {l : List AV} {vs : List Value} {j : Nat} {y : AV} {v : Value}, RepAVs c l vs → vs[j]? = some v → RepAV c x v → RepAVs c (l.set j x) vs
  | [], vs, j, y, v, h, _, _ => by simpa using h
  | a :: l, vs, 0, y, v, h, hv, hx => by
    obtain ⟨u, us, rfl, h1, h2⟩ := h.cons'
    simp at hv; subst hv
    exact RepAVs.cons hx h2
  | a :: l, vs, j + 1, y, v, h, hv, hx => by
    obtain ⟨u, us, rfl, h1, h2⟩ := h.cons'
    simp at hv
    exact RepAVs.cons h1 (RepAVs.setAt (y := y) h2 hv hx)
theorem start_sound {A0 : Dom} {w0 w : World} {st : St} {tmps : Array Value} {μ : Mu} (hs : Sim A0 w0 st tmps w μ) {q j : Nat} {c : List AV} (hq : getL st.recs q = some c) (hmk : isMark c = false) (hj : c[j]? = some .nilS) (hnb : isBld c = false) (hj0 : j ≠ 0) :
    ∃ μ', Sim A0 w0 ⟨mapSL (fun _ => .dead) st.slots, (mapSR (fun _ => .dead) st.recs).set q (some ((mapSL (fun _ => .dead) c).set j (.sx (.stk [])))), st.lsts⟩ tmps w μ' := by
  have hm := hs.mem
  obtain ⟨c1, hc1⟩ : ∃ c1, c1 = (mapSL (fun _ => AV.dead) c).set j (.sx (.stk [])) := ⟨_, rfl⟩
  obtain ⟨recs', hrecs'⟩ : ∃ x, x = (mapSR (fun _ => AV.dead) st.recs).set q (some c1) := ⟨_, rfl⟩
  obtain ⟨μ', hμ'⟩ : ∃ μ' : Mu, μ' = ⟨fun x => match x with | .n _ => none | x => μ.at_ x, μ.cap, some ⟨none, 0, []⟩⟩ := ⟨_, rfl⟩
  have hatr : ∀ r, μ'.at_ (.r r) = μ.at_ (.r r) := fun r => by rw [hμ']
  have hatl : ∀ r, μ'.at_ (.l r) = μ.at_ (.l r) := fun r => by rw [hμ']
  have hatn : ∀ r, μ'.at_ (.n r) = none := fun r => by rw [hμ']
  have hsub : ∀ x b, μ'.at_ x = some b → μ.at_ x = some b := fun x b h => by
    cases x with
    | r r => rw [hatr] at h; exact h
    | l r => rw [hatl] at h; exact h
    | n r => rw [hatn] at h; cases h
  have hcp : μ'.cap = μ.cap := by rw [hμ']
  have hdp : μ'.dp = some ⟨none, 0, []⟩ := by rw [hμ']
  clear hμ'
  have hql : q < st.recs.length := getL_lt hq
  have hrl : recs'.length = st.recs.length := by rw [hrecs', List.length_set, mapSR_length]
  have hgq : getL recs' q = some c1 := by rw [hrecs']; unfold getL; rw [List.getElem?_set_self (by rw [mapSR_length]; exact hql)]
  have hgo : ∀ {r}, r ≠ q → getL recs' r = getL (mapSR (fun _ => AV.dead) st.recs) r := fun h => by rw [hrecs']; unfold getL; rw [List.getElem?_set_ne (Ne.symm h)]
  have hgr : ∀ {r c'}, getL recs' r = some c' → (r = q ∧ c' = c1) ∨ (r ≠ q ∧ ∃ c0, getL st.recs r = some c0 ∧ isMark c0 = false ∧ c' = mapSL (fun _ => .dead) c0) := by
    intro r c' h
    by_cases e : r = q
    · subst e; rw [hgq] at h; cases h; exact .inl ⟨rfl, rfl⟩
    · rw [hgo e] at h; exact .inr ⟨e, mapSR_some h⟩
  have hsrc : ∀ {r}, (getL recs' r).isSome = true → (getL st.recs r).isSome = true := by
    intro r h
    obtain ⟨c', hc'⟩ := Option.isSome_iff_exists.1 h
    rcases hgr hc' with ⟨rfl, _⟩ | ⟨_, c0, g, _⟩
    · rw [hq]; rfl
    · rw [g]; rfl
  have hc1m : isMark c1 = false := by
    rw [hc1]
    cases c with
    | nil => rfl
    | cons a l =>
      cases j with
      | zero => exact absurd rfl hj0
      | succ j =>
        simp only [mapSL, List.set_cons_succ]
        cases a <;> simp only [AV.mapS] <;> rfl
  have hc1b : isBld c1 = false := by
    rw [hc1]
    cases c with
    | nil => rfl
    | cons a l =>
      cases j with
      | zero => exact absurd rfl hj0
      | succ j =>
        simp only [mapSL, List.set_cons_succ]
        cases a <;> simp only [AV.mapS] <;> first | rfl | (simp [isBld] at hnb)
  refine ⟨μ', ?_⟩
  rw [← hc1, ← hrecs']
  have hImm : ∀ k, Imm A0 w0 μ w k → Imm A0 w0 μ' w k := fun k hk => ⟨hk.1, hk.2.1, fun x hx => hk.2.2 x (hsub _ _ hx)⟩
  have hle : (cx A0 w0 st.recs st.lsts w μ).LeS (cx A0 w0 recs' st.lsts w μ') :=
    ⟨hImm, fun _ _ => rfl, by simp only [cx, hrl]; exact Nat.le_refl _, Nat.le_refl _,
     fun r hr hsome => ⟨hsrc hsome, by simp only [cx, hatr]⟩,
     fun t o' ht ho => ⟨o', ho, rfl, rfl, by simp only [cx, hatl], by simp only [cx, hcp]⟩⟩
  have hfx : ∀ x v, RepSX (cx A0 w0 st.recs st.lsts w μ).μ (cx A0 w0 st.recs st.lsts w μ).keep x v → RepAV (cx A0 w0 recs' st.lsts w μ') ((fun _ => AV.dead) x) v := fun x v _ => by simp only [RepAV]
  refine ⟨hs.slots.mapS hle hfx, ?_⟩
  constructor
  · intro r cells hr hk
    rcases hgr hr with ⟨rfl, rfl⟩ | ⟨_, c0, g1, g2, rfl⟩
    · obtain ⟨b', vs', hb', ho, hv⟩ := hm.hrec r c hq hmk
      obtain ⟨u, hu, hur⟩ := hv.get j _ hj
      simp only [RepAV] at hur
      refine ⟨b', vs', by rw [hatr]; exact hb', ho, ?_⟩
      rw [hc1]
      refine RepAVs.setAt (y := .dead) (hv.mapS hle hfx) hu ?_
      simp only [RepAV, RepSX, cx]
      exact ⟨0, hdp, by unfold hdrV; rw [hatn, hur], fun _ => by first | rfl | trivial⟩
    · obtain ⟨b', vs', hb', ho, hv⟩ := hm.hrec r c0 g1 g2
      exact ⟨b', vs', by rw [hatr]; exact hb', ho, hv.mapS hle hfx⟩
  · intro t o ho
    rcases hm.hlst t o ho with ⟨g1, g2⟩ | ⟨b', vs', hb', ho', hsz, hc, us, rest, e, hr'⟩
    · exact .inl ⟨by simp only [cx, hatl]; exact g1, g2⟩
    · exact .inr ⟨b', vs', by simp only [cx, hatl]; exact hb', ho', by simp only [cx, hcp]; exact hsz, by simp only [cx, hcp]; exact hc, us, rest, e, hr'.imp fun x u hx => hx.mono hImm fun _ _ => rfl⟩
  · intro x b' hx
    obtain ⟨g1, g2, g3⟩ := hm.live x b' (hsub _ _ hx)
    refine ⟨g1, g2, ?_⟩
    cases x with
    | n k => rw [hatn] at hx; cases hx
    | l t => exact g3
    | r r =>
      obtain ⟨c0, hc0⟩ := Option.isSome_iff_exists.1 g3
      simp only
      by_cases e : r = q
      · subst e; rw [hgq]; rfl
      · rw [hgo e, getL_mapSR, hc0, Option.bind_some, hm.plain hc0 (hsub _ _ hx)]; rfl
  · intro x y b' hx hy; exact hm.inj _ _ _ (hsub _ _ hx) (hsub _ _ hy)
  · exact hm.below
  · intro k hk
    obtain ⟨g1, g2, g3⟩ := hm.fr k hk
    exact ⟨g1, g2, fun x hx => g3 x (hsub _ _ hx)⟩
  · intro k hk
    obtain ⟨g1, g3⟩ := hm.xo k hk
    exact ⟨g1, fun x hx => g3 x (hsub _ _ hx)⟩
  · have := hm.np; rw [hrl]; exact this
  · intro r k hk
    obtain ⟨g1, g2⟩ := hm.pins r k hk
    exact ⟨g1, fun hsome => by rw [hatr]; exact g2 (hsrc hsome)⟩
  · exact hm.gi
  · refine ⟨fun r' c' g1 g2 b' hb' => ?_, fun t' o' g1 g2 b' hb' => ?_⟩
    · rcases hgr g1 with ⟨rfl, rfl⟩ | ⟨_, c0, k1, k2, rfl⟩
      · rw [hc1b] at g2; cases g2
      · rw [hatr] at hb'
        exact hm.bty.r r' c0 k1 (mapSL_bld (fun x q => by simp) g2) b' hb'
    · rw [hatl] at hb'
      exact hm.bty.l t' o' g1 g2 b' hb'
  · intro r c' hc
    rcases hgr hc with ⟨rfl, e⟩ | ⟨_, c0, k1, k2, k3⟩
    · rw [← e] at hc1m; simp [isMark] at hc1m
    · exact absurd k3.symm (mapSL_mark (fun x => by simp))
  · intro d' hd'
    rw [hdp] at hd'; cases hd'
    exact ⟨fun q hq => (by cases hq), fun k b' hk => (by simp only [cx, hatn] at hk; cases hk), .inl ⟨by simp only [cx, hatn], rfl, rfl⟩⟩
end Go.Pe
end
section
set_option linter.unusedSectionVars false
set_option linter.unusedVariables false
set_option linter.unusedSimpArgs false
namespace Go.Pe.Tryd
open Go.Proofs Go.RowKit
set_option maxRecDepth 100000
@[reducible] noncomputable def f27_ps : List KD := [.one .str]
@[reducible] noncomputable def f27_rs : List KD := [.agg [(.int .i64), (.int .i64), .str, (.list .value), (.list .str)], .one (.int .i64)]
noncomputable def zeroR (e : Int) : argsDen f27_rs := ((0, (0, ([], ([], ([], ()))))), (e, ()))
noncomputable def valR (z : h44_O.den) : argsDen f27_rs := ((h44_o_x0_0 z, (h44_o_x0_1 z, (h44_o_x0_2 z, (h44_o_x0_3 z, (h44_o_x0_4 z, ()))))), (0, ()))
noncomputable def f27_F (y : argsDen f27_ps) : Option (argsDen f27_rs) :=
  if 65536 < y.1.length then some (zeroR 2) else (h44_F (h44_y y.1 0 [])).bind fun o => match o with
    | .inl z => if h44_o_r0_0 z = [] then some (valR z) else some (zeroR 20)
    | .inr z => some (zeroR (h44_z_x0_0_0 z))
@[reducible] noncomputable def E27 : Env := envOfT Tryd.prog 25 [] [] [⟨44, _, h44_ok⟩, ⟨45, _, h45_ok⟩] 62
theorem E27_ok : EnvOk Tryd.prog E27 := envOfT_ok _ _ _ _ top_ok mixed
noncomputable def q_c : Code := codeOf Tryd.f27
noncomputable def q0 : Array Oper := regO q_c.cl
noncomputable def q1 : Array Oper := regO q_c.cr.cl.cl
noncomputable def q2 : Array Oper := regO q_c.cr.cl.cr.ct.cl
noncomputable def q3 : Array Oper := regO q_c.cr.cr.cl
noncomputable def q4 : Array Oper := regO q_c.cr.cr.cr.cl
noncomputable def q5 : Array Oper := regO q_c.cr.cr.cr.cr.cl
noncomputable def q6 : Array Oper := regO q_c.cr.cr.cr.cr.cr.cl.cl
noncomputable def q7 : Array Oper := regO q_c.cr.cr.cr.cr.cr.cl.cr.ct
noncomputable def q8 : Array Oper := regO q_c.cr.cr.cr.cr.cr.cr.cl
theorem q_body : Tryd.f27.body = some (.seq (.region 0 q0 false) (.seq (.seq (.region 1 q1 false) (.cond (.tmp 7) (.seq (.region 2 q2 false) .ret) .skip)) (.seq (.region 3 q3 false) (.seq (.region 4 q4 false) (.seq (.region 5 q5 false) (.seq (.seq (.region 6 q6 false) (.cond (.tmp 19) (.region 7 q7 false) .skip)) (.seq (.region 8 q8 false) .ret))))))) := by kernel_rfl
/-- What a function hands back, read. -/
theorem fin_of {P : Program} {ε : Env} (hε : EnvOk P ε) {A : Nat → Prop} {A0 : Dom} (hA0 : ∀ b, A0.A b → A b) {w0 w : World} {st : St} {a : Act} {μ : Mu} (hs : Sim A0 w0 st a.tmps w μ) {fn : Func} {rs : List KD} {z : argsDen rs}
    (h : ((evRes ε st fn.results.toList).bind fun l => decRes rs (resVal l)) = some z) : ∃ v, (results fn a.tmps).run P w = .ok v w ∧ RepAV (c0 (News w0 w A) w) (encRes rs z) v := by
  simp only [Option.bind_eq_some_iff] at h
  obtain ⟨l, hl, hdec⟩ := h
  obtain ⟨us, g1, g2, g3⟩ := evRes_sound (a := a) hε hs _ l hl
  refine ⟨_, results_run g1, ?_⟩
  have hval : RepAV (c0 (Far A0 w0 w) w) (resVal l) (if h : us.toArray.size = 1 then us.toArray[0] else .tuple us.toArray) := by
    have hl2 := g3.length
    unfold resVal
    split
    · obtain ⟨v, rfl, hv⟩ := g3.one'
      simpa using hv
    · rename_i hne
      have : ¬ us.toArray.size = 1 := by
        intro e
        simp at e
        rw [hl2] at e
        match l, e with
        | [v], _ => exact hne v rfl
      rw [dif_neg this]
      simp only [RepAV]
      exact ⟨_, rfl, by simpa using g3⟩
  have hrr := decRes_rep hdec hval
  refine RepAV.closed (c := c0 (Far A0 w0 w) w) (c' := c0 (News w0 w A) w) ⟨fun b hb => ?_, fun _ _ => rfl⟩ (encRes_closed rs z) hrr
  rcases hb.1 with h5 | h5
  · exact .inl (hA0 b h5)
  · exact .inr ⟨h5, hb.2⟩
/-- Two records alone. -/
theorem sim_two {w0 w : World} (hgi : GI.inv w0) (h0 : Below w0.heap.size w0 w) {b1 b2 : Nat} (hne : b1 ≠ b2) (hB1 : w0.heap.size ≤ b1) (hB2 : w0.heap.size ≤ b2) {cs1 cs2 sl : List AV} {v1 v2 : Array Value} {T1 T2 : TypeId} {tmps : Array Value}
    (h1 : w.heap[b1]? = some (.cells v1 T1 (0, 0))) (h2 : w.heap[b2]? = some (.cells v2 T2 (0, 0))) (hm1 : isMark cs1 = false) (hm2 : isMark cs2 = false) (hk1 : isBld cs1 = false) (hk2 : isBld cs2 = false)
    (μ : Mu) (hμ : μ = ⟨fun x => match x with | .r 0 => some b1 | .r 1 => some b2 | _ => none, fun _ => 0, none⟩) (A0 : Dom) (hA0 : A0 = ⟨fun _ => False, fun _ => False, fun _ => False, w0, fun r => match r with | 0 => some b1 | 1 => some b2 | _ => none, 2, .bool false⟩)
    (hc1 : RepAVs (cx A0 w0 [some cs1, some cs2] [] w μ) cs1 v1.toList) (hc2 : RepAVs (cx A0 w0 [some cs1, some cs2] [] w μ) cs2 v2.toList) (hsl : RepAVs (cx A0 w0 [some cs1, some cs2] [] w μ) sl tmps.toList) : Sim A0 w0 ⟨sl, [some cs1, some cs2], []⟩ tmps w μ := by
  have hat : ∀ x b, μ.at_ x = some b → (x = .r 0 ∧ b = b1) ∨ (x = .r 1 ∧ b = b2) := by
    intro x b h
    rw [hμ] at h
    simp only at h
    split at h <;> simp_all
  have hlt1 := (Array.getElem?_eq_some_iff.1 h1).1
  have hlt2 := (Array.getElem?_eq_some_iff.1 h2).1
  have a1 : μ.at_ (.r 0) = some b1 := by subst hμ; rfl
  have a2 : μ.at_ (.r 1) = some b2 := by subst hμ; rfl
  have g0 : getL [some cs1, some cs2] 0 = some cs1 := rfl
  have g1 : getL [some cs1, some cs2] 1 = some cs2 := rfl
  have hget : ∀ r c, getL [some cs1, some cs2] r = some c → (r = 0 ∧ c = cs1) ∨ (r = 1 ∧ c = cs2) := by
    intro r c h
    rcases r with _ | _ | r <;> simp [getL] at h <;> simp [h]
  refine ⟨hsl, ?_, ?_, ?_, ?_, h0, ?_, ?_, ?_, ?_, hgi, ?_, ?_, ?_⟩
  · intro r cells h hk
    rcases hget r cells h with ⟨rfl, rfl⟩ | ⟨rfl, rfl⟩
    · exact ⟨b1, v1, a1, ⟨T1, h1⟩, hc1⟩
    · exact ⟨b2, v2, a2, ⟨T2, h2⟩, hc2⟩
  · intro t o h; simp [getL] at h
  · intro y b h
    rcases hat y b h with ⟨rfl, rfl⟩ | ⟨rfl, rfl⟩
    · exact ⟨hB1, hlt1, rfl⟩
    · exact ⟨hB2, hlt2, rfl⟩
  · intro y z b k1 k2
    rcases hat y b k1 with ⟨rfl, rfl⟩ | ⟨rfl, rfl⟩ <;> rcases hat z _ k2 with ⟨rfl, e⟩ | ⟨rfl, e⟩ <;> first | rfl | (exfalso; omega)
  · intro b h; rw [hA0] at h; cases h
  · intro b h; rw [hA0] at h; cases h
  · rw [hA0]; simp
  · intro r b h
    rw [hA0] at h
    rcases r with _ | _ | r <;> simp only at h <;> cases h
    · exact ⟨by rw [hA0]; simp, fun _ => a1⟩
    · exact ⟨by rw [hA0]; simp, fun _ => a2⟩
  · refine ⟨fun r c g1 g2 => ?_, fun t o h => by simp [getL] at h⟩
    rcases hget r c g1 with ⟨rfl, rfl⟩ | ⟨rfl, rfl⟩
    · rw [hk1] at g2; cases g2
    · rw [hk2] at g2; cases g2
  · intro r c h
    rcases hget r _ h with ⟨rfl, e⟩ | ⟨rfl, e⟩
    · rw [← e] at hm1; simp [isMark] at hm1
    · rw [← e] at hm2; simp [isMark] at hm2
  · intro d h; rw [hμ] at h; cases h
@[reducible] noncomputable def q_sA : Shape := ⟨[.hole .str, .dead, .ptr 0 0, .ptr 1 0, .dead, .dead, .dead, .dead, .dead, .dead, .dead, .dead, .dead, .dead, .dead, .dead, .dead, .dead, .dead, .dead, .dead, .dead], [some [.hole (.int .i64), .hole (.int .i64), .hole .str, .nilS, .nilS], some [.hole (.int .i64)]], []⟩
@[reducible] noncomputable def q_sB : Shape := ⟨[.hole .str, .dead, .ptr 0 0, .ptr 1 0, .ptr 2 0, .dead, .dead, .dead, .dead, .dead, .dead, .dead, .dead, .dead, .dead, .dead, .dead, .dead, .dead, .dead, .dead, .dead], [some [.hole (.int .i64), .hole (.int .i64), .hole .str, .nilS, .nilS], some [.hole (.int .i64)], some [.hole .str, .hole (.int .i64), .nilS]], []⟩
@[reducible] noncomputable def q_sC : Shape := ⟨[.dead, .dead, .ptr 0 0, .ptr 1 0, .ptr 2 0, .dead, .dead, .dead, .dead, .dead, .dead, .dead, .dead, .dead, .dead, .dead, .dead, .dead, .dead, .dead, .dead, .dead], [some [.hole (.int .i64), .hole (.int .i64), .hole .str, .hole (.list .value), .hole (.list .str)], some [.hole (.int .i64)], some [.hole .str, .dead, .dead]], []⟩
@[reducible] noncomputable def q_sD : Shape := ⟨[.dead, .dead, .ptr 0 0, .ptr 1 0, .dead, .dead, .dead, .dead, .dead, .dead, .dead, .dead, .dead, .dead, .dead, .dead, .dead, .dead, .dead, .hole .bool, .dead, .dead], [some [.hole (.int .i64), .hole (.int .i64), .hole .str, .hole (.list .value), .hole (.list .str)], some [.hole (.int .i64)]], []⟩
@[reducible] noncomputable def q_sP : Shape := ⟨[.dead, .dead, .ptr 0 0, .ptr 1 0, .dead, .dead, .dead, .dead, .dead, .dead, .dead, .dead, .dead, .dead, .dead, .dead, .dead, .dead, .dead, .dead, .dead, .dead], [some [.dead, .dead, .dead, .dead, .dead], some [.hole (.int .i64)]], []⟩
noncomputable def q_a (s : List UInt8) (e : Int) : q_sA.den := ((s, ((), ((), ((), (((), ((), ((), ((), ((), ((), ((), ((), ((), ((), ((), ((), ((), ((), ((), ((), ((), ((), ()))))))))))))))))))))))), ((0, (0, ([], ((), ((), ()))))), ((e, ()), ())), ())
noncomputable def q_b (s : List UInt8) : q_sB.den := ((s, ((), ((), ((), ((), (((), ((), ((), ((), ((), ((), ((), ((), ((), ((), ((), ((), ((), ((), ((), ((), ((), ()))))))))))))))))))))))), ((0, (0, ([], ((), ((), ()))))), ((0, ()), ((s, (0, ((), ()))), ()))), ())
noncomputable def q_cz (z : h44_O.den) : q_sC.den := (((), ((), ((), ((), ((), (((), ((), ((), ((), ((), ((), ((), ((), ((), ((), ((), ((), ((), ((), ((), ((), ((), ()))))))))))))))))))))))), ((h44_o_x0_0 z, (h44_o_x0_1 z, (h44_o_x0_2 z, (h44_o_x0_3 z, (h44_o_x0_4 z, ()))))), ((0, ()), ((h44_o_r0_0 z, ((), ((), ()))), ()))), ())
noncomputable def q_dz (z : h44_O.den) (b : Bool) : q_sD.den := (((), ((), ((), ((), ((), (((), ((), ((), ((), ((), ((), ((), ((), ((), ((), ((), ((), ((), ((), (b, ((), ((), ()))))))))))))))))))))))), ((h44_o_x0_0 z, (h44_o_x0_1 z, (h44_o_x0_2 z, (h44_o_x0_3 z, (h44_o_x0_4 z, ()))))), ((0, ()), ())), ())
noncomputable def q_p : q_sP.den := (((), ((), ((), ((), (((), ((), ((), ((), ((), ((), ((), ((), ((), ((), ((), ((), ((), ((), ((), ((), ((), ((), ()))))))))))))))))))))))), (((), ((), ((), ((), ((), ()))))), ((0, ()), ())), ())
noncomputable def q_st0 (s : List UInt8) : St := ⟨[.d .str s, .dead, .dead, .dead, .dead, .dead, .dead, .dead, .dead, .dead, .dead, .dead, .dead, .dead, .dead, .dead, .dead, .dead, .dead, .dead, .dead, .dead], [], []⟩
noncomputable def q_st5 (s : List UInt8) : St := ⟨[.d .str s, .dead, .ptr 0 0, .ptr 1 0, .ptr 2 0, .dead, .dead, .dead, .dead, .dead, .dead, .dead, .dead, .dead, .dead, .dead, .dead, .dead, .dead, .dead, .dead, .dead], [some [.d (.int .i64) (0 : Int), .d (.int .i64) (0 : Int), .d .str ([] : List UInt8), .nilS, .nilS], some [.d (.int .i64) (0 : Int)], some [.d .str s, .d (.int .i64) (0 : Int), .sx (.stk [])]], []⟩
theorem q_e0 (s : List UInt8) : evC E27 (.region 0 q0 false) (q_st0 s) (fun ex st => match ex with | .normal => abs q_sA st | _ => none) = some (q_a s 0) := by kernel_rfl
theorem q_e1 (s : List UInt8) : evC E27 (.seq (.region 1 q1 false) (.cond (.tmp 7) (.seq (.region 2 q2 false) .ret) .skip)) (fill q_sA (q_a s 0)) (fun ex st => (match ex with | .normal => (abs q_sA st).map .inl | .ret => ((evRes E27 st Tryd.f27.results.toList).bind fun l => decRes f27_rs (resVal l)).map .inr | _ => none : Option (q_sA.den ⊕ argsDen f27_rs))) = cond (decide ((s.length : Int) > 65536)) (some (.inr (zeroR 2))) (some (.inl (q_a s 0))) := by kernel_rfl
theorem q_e4 (s : List UInt8) : evC E27 (.region 4 q4 false) (fill q_sA (q_a s 0)) (fun ex st => match ex with | .normal => abs q_sB st | _ => none) = some (q_b s) := by kernel_rfl
theorem q_e5 (s : List UInt8) : evOps E27 q5 (List.range q5.size) (q_st5 s) (fun st => ((abs q_sC st).map .inl : Option (q_sC.den ⊕ (AV × q_sP.den)))) (fun av st => ((abs q_sP st).map fun p => .inr (av, p)))
    = (h44_F (h44_y s 0 [])).bind fun o => match o with | .inl z => some (.inl (q_cz z)) | .inr z => some (.inr (.ifc 68 [.agg [.d (.int .i64) (h44_z_x0_0_0 z)]], q_p)) := by kernel_rfl
theorem q_e6 (z : h44_O.den) : evC E27 (.region 6 q6 false) (fill q_sC (q_cz z)) (fun ex st => match ex with | .normal => abs q_sD st | _ => none) = some (q_dz z (h44_o_r0_0 z != [])) := by kernel_rfl
theorem q_e7 (z : h44_O.den) (b : Bool) : evOps E27 q7 (List.range q7.size) (fill q_sD (q_dz z b)) (fun st => (none : Option (AV × q_sP.den))) (fun av st => ((abs q_sP st).map fun p => (av, p)))
    = (h45_F (h45_y 20)).bind fun o => match o with | .inl z => none | .inr z => some (.ifc 68 [.agg [.d (.int .i64) (h45_z_x0_0_0 z)]], q_p) := by kernel_rfl
theorem q_e8 (z : h44_O.den) (b : Bool) : evC E27 (.seq (.region 8 q8 false) .ret) (fill q_sD (q_dz z b)) (fun ex st => match ex with | .ret => (evRes E27 st Tryd.f27.results.toList).bind fun l => decRes f27_rs (resVal l) | _ => none) = some (valR z) := by kernel_rfl
theorem q_e9 (n : Int) : ((evRes E27 ⟨[.dead, .dead, .ptr 0 0, .ptr 1 0, .dead, .dead, .dead, .dead, .dead, .dead, .dead, .dead, .dead, .dead, .dead, .dead, .dead, .dead, .dead, .dead, .dead, .dead], [some [.d (.int .i64) (0 : Int), .d (.int .i64) (0 : Int), .d .str ([] : List UInt8), .nilS, .nilS], some [.d (.int .i64) n]], []⟩ Tryd.f27.results.toList).bind fun l => decRes f27_rs (resVal l)) = some (zeroR n) := by kernel_rfl
end Go.Pe.Tryd
end
section
set_option linter.unusedSectionVars false
set_option linter.unusedVariables false
set_option linter.unusedSimpArgs false
namespace Go.Pe.Tryd
open Go.Proofs Go.RowKit
set_option maxRecDepth 100000
theorem stepIn {P : Program} {n : Nat} {ops : Array Oper} {Q : Exit → Act → World → Prop} {i : Nat} {rest : List Nat} {a : Act} {w : World} (o : Oper) (v : Value) (w' : World)
    (ho : ops[i]? = some o) (hg : o.guard = none) (hr : (execOp a.eval o).run P w = .ok (.value v) w') (h : wpOpsIn (Fr none) n P ops Q rest (a.put o.dst v) w') : wpOpsIn (Fr none) n P ops Q (i :: rest) a w := by
  have hw : Region.wanted o (yielded ops a.tmps) = true := by simp [Region.wanted, hg]
  simp only [wpOpsIn, ho, hw, if_true]
  refine ⟨fun _ _ => trivial, ?_⟩
  rw [show (Fr none).round = none from rfl, Oper.semAt_none, hr]; exact h
theorem stepIn_defer {P : Program} {n : Nat} {ops : Array Oper} {Q : Exit → Act → World → Prop} {i : Nat} {rest : List Nat} {a : Act} {w : World} (o : Oper) (d : Deferred) (w' : World)
    (ho : ops[i]? = some o) (hg : o.guard = none) (hr : (execOp a.eval o).run P w = .ok (.defer d) w') (h : wpOpsIn (Fr none) n P ops Q rest ({ a with defers := d :: a.defers }.put o.dst undef) w') : wpOpsIn (Fr none) n P ops Q (i :: rest) a w := by
  have hw : Region.wanted o (yielded ops a.tmps) = true := by simp [Region.wanted, hg]
  simp only [wpOpsIn, ho, hw, if_true]
  refine ⟨fun _ _ => trivial, ?_⟩
  rw [show (Fr none).round = none from rfl, Oper.semAt_none, hr]; exact h
theorem sim_pin {A0 : Dom} {w0 w : World} {st : St} {tmps : Array Value} {μ : Mu} (hs : Sim A0 w0 st tmps w μ) (pin : Nat → Option Nat) (np : Nat) (hnp : np ≤ st.recs.length) (hp : ∀ r b, pin r = some b → r < np ∧ ((getL st.recs r).isSome = true → μ.at_ (.r r) = some b)) :
    Sim { A0 with pin := pin, np := np } w0 st tmps w μ :=
  have hm := hs.mem
  ⟨hs.slots, ⟨hm.hrec, hm.hlst, hm.live, hm.inj, hm.below, hm.fr, hm.xo, hnp, hp, hm.gi, hm.bty, hm.htop, hm.deep⟩⟩
noncomputable def parD (b1 b2 : Nat) : Deferred := { target := .fn (.func 43) #[.pointer (some ⟨b1, 0, none⟩), .pointer (some ⟨b2, 0, none⟩)], args := #[] }
def parR (w : World) (A : Nat → Prop) (z : argsDen f27_rs) (e : Ending) (w' : World) : Prop := ∃ v, e = .returned v ∧ Below w.heap.size w w' ∧ RepAV (c0 (News w w' A) w') (encRes f27_rs z) v
def parA (w : World) (b1 b2 : Nat) : Dom := ⟨fun _ => False, fun _ => False, fun _ => False, w, fun r => match r with | 0 => some b1 | 1 => some b2 | _ => none, 2, .bool false⟩
theorem par_invoke (b1 b2 : Nat) (w : World) : (invoke (parD b1 b2).target (parD b1 b2).args).run Tryd.prog w = .ok (.enter 43 #[.pointer (some ⟨b1, 0, none⟩), .pointer (some ⟨b2, 0, none⟩)]) w := by kernel_rfl
theorem leave_panic {w w' : World} {b1 b2 : Nat} {tmps : Array Value} {μ : Mu} {n : Int} {A : Nat → Prop} {v : Value} {c : Cx} (h : Sim (parA w b1 b2) w (fill q_sP q_p) tmps w' μ) (hv : RepAV c (.ifc 68 [.agg [.d (.int .i64) n]]) v) :
    Leaves Tryd.prog Tryd.f27 tmps (parR w A (zeroR n)) [parD b1 b2] (.panicking [{ v := v, recovered := false }]) w' := by
  have hm := h.mem
  obtain ⟨u, rfl, hu⟩ : ∃ u, v = .iface 68 u ∧ RepAVs c [.agg [.d (.int .i64) n]] [u] := by simpa only [RepAV] using hv
  obtain ⟨u', hu', hx⟩ := hu.one'
  cases hu'
  simp only [RepAV] at hx
  obtain ⟨us, rfl, hy⟩ := hx
  obtain ⟨u1, e1, hw⟩ := hy.one'
  simp only [RepAV, Rep, List.cons.injEq, and_true] at hw
  subst hw
  obtain rfl : us = #[.int .i64 n] := by apply Array.ext'; simpa using e1
  have k1 := (hm.pins 0 b1 rfl).2 rfl
  have k2 := (hm.pins 1 b2 rfl).2 rfl
  obtain ⟨c1, v1, e1, ⟨T1, o1⟩, r1⟩ := hm.hrec 0 _ rfl rfl
  obtain ⟨c2, v2, e2, ⟨T2, o2⟩, r2⟩ := hm.hrec 1 _ rfl rfl
  rw [k1] at e1; cases e1
  rw [k2] at e2; cases e2
  have hl1 := r1.length
  obtain ⟨u2, e2, hu2⟩ := RepAVs.one' (av := .d (.int .i64) (0 : Int)) r2
  simp only [RepAV, Rep, List.cons.injEq, and_true] at hu2
  subst hu2
  obtain ⟨l2, rfl⟩ : ∃ l : List Value, v2 = l.toArray := ⟨v2.toList, by simp⟩
  simp only at e2
  subst e2
  have hne : b1 ≠ b2 := fun e => by subst e; have := hm.inj _ _ _ k1 k2; cases this
  refine leaves_cons (fv := .func 43) (cap := #[.pointer (some ⟨b1, 0, none⟩), .pointer (some ⟨b2, 0, none⟩)]) (dargs := #[]) (by simp) (par_invoke b1 b2 w') ?_
  refine (catch_fault b1 b2 w' n T1 T2 v1 0 o1 (by rw [← Array.length_toList]; exact hl1) o2 hne w hm.below (hm.live _ _ k1).1 (hm.live _ _ k2).1 hm.gi).mono ?_
  rintro e u' w'' ⟨rfl, rfl, ⟨T1', g1⟩, ⟨T2', g2⟩, hbel⟩
  show Leaves _ _ _ _ [] .returning w''
  obtain ⟨s0, t1, et1, _, hsl⟩ := h.slots.cons'
  obtain ⟨s1, t2, et2, _, hsl⟩ := hsl.cons'
  obtain ⟨s2, t3, et3, p2, hsl⟩ := hsl.cons'
  obtain ⟨s3, t4, et4, p3, hsl⟩ := hsl.cons'
  have hl := hsl.length
  simp only [RepAV] at p2 p3
  obtain ⟨_, _, p2⟩ := p2
  obtain ⟨_, _, p3⟩ := p3
  obtain ⟨_, q2, rfl⟩ := p2 rfl
  obtain ⟨_, q3, rfl⟩ := p3 rfl
  replace q2 : μ.at_ (.r 0) = _ := q2
  replace q3 : μ.at_ (.r 1) = _ := q3
  rw [k1] at q2; cases q2
  rw [k2] at q3; cases q3
  have hs := sim_two hm.gi hbel hne (hm.live _ _ k1).1 (hm.live _ _ k2).1 (cs1 := [.d (.int .i64) (0 : Int), .d (.int .i64) (0 : Int), .d .str ([] : List UInt8), .nilS, .nilS]) (cs2 := [.d (.int .i64) n]) (sl := [.dead, .dead, .ptr 0 0, .ptr 1 0, .dead, .dead, .dead, .dead, .dead, .dead, .dead, .dead, .dead, .dead, .dead, .dead, .dead, .dead, .dead, .dead, .dead, .dead]) (tmps := tmps) g1 g2 rfl rfl rfl rfl _ rfl (parA w b1 b2) rfl
    (by simp [RepAVs, RepAV, Rep]) (by simp [RepAVs, RepAV, Rep]) (by
      rw [et1, et2, et3, et4]
      exact RepAVs.cons (by simp only [RepAV]) (RepAVs.cons (by simp only [RepAV]) (RepAVs.cons (rep_ptr (by simp [cx]) rfl) (RepAVs.cons (rep_ptr (by simp [cx]) rfl) (rep_dead _ _ (by have h18 : t4.length = 18 := hl; rw [h18]; rfl))))))
  obtain ⟨v, f1, f2⟩ := fin_of (a := ⟨tmps, []⟩) E27_ok (A := A) (A0 := parA w b1 b2) (fun b h => False.elim h) hs (q_e9 n)
  exact ⟨v, f1, v, rfl, hbel, f2⟩
end Go.Pe.Tryd
end
section
set_option linter.unusedSectionVars false
set_option linter.unusedVariables false
set_option linter.unusedSimpArgs false
namespace Go.Pe.Tryd
open Go.Proofs Go.RowKit
set_option maxRecDepth 100000
noncomputable def q3_0 : Oper := (q3[0]?).getD ⟨none, .move (.tmp 0), 0, "", #[], none⟩
noncomputable def q3_1 : Oper := (q3[1]?).getD ⟨none, .move (.tmp 0), 0, "", #[], none⟩
theorem q3_mk (a : Act) (w : World) : (execOp a.eval q3_0).run Tryd.prog w = .ok (.value (.func (.func 43) #[] #[a.eval (.tmp 2), a.eval (.tmp 3)])) w := by kernel_rfl
theorem q3_df (a : Act) (w : World) (c : Array Value) (h : a.eval (.tmp 9) = .func (.func 43) #[] c) : (execOp a.eval q3_1).run Tryd.prog w = .ok (.defer { target := .fn (.func 43) c, args := #[] }) w := by
  rw [show q3_1 = ⟨none, .defer ⟨.value (.tmp 9), #[], #[]⟩, q3_1.type, q3_1.pos, q3_1.after, none⟩ by kernel_rfl]
  have h' : a.tmps[9]?.getD undef = .func (.func 43) #[] c := by simpa [Act.eval] using h
  simp [execOp, go_sem, h']
theorem par_calls (s : List UInt8) (z : argsDen f27_rs) (hz : f27_F (s, ()) = some z) (A : Nat → Prop) (w : World) (hgi : GI.inv w) : Calls Tryd.prog 27 #[.string ⟨s.toArray⟩] w (parR w A z) := by
  refine calls_of_wp_defers Tryd.func27 q_body ?_
  rw [show (#[Value.string ⟨s.toArray⟩] ++ Array.replicate (Tryd.f27.ntmps - (#[Value.string ⟨s.toArray⟩] : Array Value).size) undef) = #[.string ⟨s.toArray⟩, undef, undef, undef, undef, undef, undef, undef, undef, undef, undef, undef, undef, undef, undef, undef, undef, undef, undef, undef, undef, undef] by kernel_rfl]
  refine (wpIn_wide (n := 0)).1 ?_
  have hs0 : Sim ⟨fun _ => False, fun _ => False, fun _ => False, w, fun _ => none, 0, .bool false⟩ w (q_st0 s) #[.string ⟨s.toArray⟩, undef, undef, undef, undef, undef, undef, undef, undef, undef, undef, undef, undef, undef, undef, undef, undef, undef, undef, undef, undef, undef] w ⟨fun _ => none, fun _ => 0, none⟩ := by
    refine ⟨RepAVs.cons (by simp only [RepAV, Rep]) (rep_dead _ _ rfl), ?_, ?_, ?_, ?_, Below.refl _ _, ?_, ?_, ?_, ?_, hgi, ⟨fun r c h => by simp [getL, q_st0] at h, fun t o h => by simp [getL, q_st0] at h⟩, fun r c h => by simp [getL, q_st0] at h, fun d h => by cases h⟩
    · intro r cells h; simp [getL, q_st0] at h
    · intro t o h; simp [getL, q_st0] at h
    · intro x b h; cases h
    · intro x y b h; cases h
    · intro b h; cases h
    · intro b h; cases h
    · exact Nat.zero_le _
    · intro r b h; cases h
  refine wpIn_seq (evC_sound (Dk := fun l => l = []) (ρ := none) E27_ok (.region 0 q0 false) _ ?_ (q_st0 s) _ w _ (q_e0 s) hs0 rfl)
  intro ex st' tm E a1 w1 μ1 hK h1 hl hd1
  cases ex <;> simp only at hK <;> first | (cases hK; done) | skip
  obtain ⟨rfl, rfl⟩ := hl
  have h1 := abs_sound h1 (Nat.zero_le _) hK
  obtain ⟨b1, v1, e1, _, _⟩ := h1.mem.hrec 0 _ rfl rfl
  obtain ⟨b2, v2, e2, _, _⟩ := h1.mem.hrec 1 _ rfl rfl
  have h1 : Sim (parA w b1 b2) w (fill q_sA (q_a s 0)) a1.tmps w1 _ := sim_pin h1 (fun r => match r with | 0 => some b1 | 1 => some b2 | _ => none) 2 (Nat.le_refl 2) (by
    intro r b h
    rcases r with _ | _ | r <;> simp only at h <;> cases h
    · exact ⟨by omega, fun _ => e1⟩
    · exact ⟨by omega, fun _ => e2⟩)
  show Code.wpIn _ _ _ _ _ a1 w1
  by_cases hlen : 65536 < s.length
  · -- too long
    have hz' : z = zeroR 2 := by
      have : f27_F (s, ()) = some (zeroR 2) := by unfold f27_F; rw [if_pos hlen]
      rw [this] at hz; cases hz; rfl
    subst hz'
    refine wpIn_seq (evC_sound (Dk := fun l => l = []) (ρ := none) E27_ok _ _ ?_ (fill q_sA (q_a s 0)) _ w1 _ (r := .inr (zeroR 2)) ((q_e1 s).trans (by rw [decide_eq_true (by omega)]; rfl)) h1 hd1)
    intro ex st' tm E a2 w2 μ2 hK h2 hl hd2
    cases ex <;> simp only [Option.map_eq_some_iff] at hK <;> first | (cases hK; done) | skip
    · obtain ⟨_, _, e⟩ := hK; cases e
    obtain ⟨y, hy, e⟩ := hK
    cases e
    obtain ⟨rfl, rfl⟩ := hl
    obtain ⟨v, g1, g2⟩ := fin_of E27_ok (A := A) (A0 := parA w b1 b2) (fun b h => False.elim h) h2 hy
    show Leaves _ _ _ _ a2.defers _ _
    rw [hd2]
    exact ⟨v, g1, v, rfl, h2.mem.below, g2⟩
  -- parsed
  refine wpIn_seq (evC_sound (Dk := fun l => l = []) (ρ := none) E27_ok _ _ ?_ (fill q_sA (q_a s 0)) _ w1 _ (r := .inl (q_a s 0)) ((q_e1 s).trans (by rw [decide_eq_false (by omega)]; rfl)) h1 hd1)
  clear h1 hd1
  intro ex st' tm E a2 w2 μ2 hK h2 hl hd2
  cases ex <;> simp only [Option.map_eq_some_iff] at hK <;> first | (cases hK; done) | skip
  rotate_left
  · obtain ⟨_, _, e⟩ := hK; cases e
  obtain ⟨y, hy, e⟩ := hK
  cases e
  obtain ⟨rfl, rfl⟩ := hl
  have h2 := abs_sound (sh := q_sA) h2 (Nat.le_refl 2) hy
  show Code.wpIn _ _ _ _ _ a2 w2
  refine wpIn_seq (wpIn_region ?_)
  rw [show List.range q3.size = [0, 1] by kernel_rfl]
  have hev : a2.eval (.tmp 2) = .pointer (some ⟨b1, 0, none⟩) ∧ a2.eval (.tmp 3) = .pointer (some ⟨b2, 0, none⟩) ∧ 9 < a2.tmps.size := by
    have hm := h2.mem
    have k1 := (hm.pins 0 b1 rfl).2 rfl
    have k2 := (hm.pins 1 b2 rfl).2 rfl
    obtain ⟨u2, g2, r2⟩ := h2.slots.get 2 (.ptr 0 0) rfl
    obtain ⟨u3, g3, r3⟩ := h2.slots.get 3 (.ptr 1 0) rfl
    simp only [RepAV] at r2 r3
    obtain ⟨_, _, r2⟩ := r2
    obtain ⟨_, _, r3⟩ := r3
    obtain ⟨_, q2, rfl⟩ := r2 rfl
    obtain ⟨_, q3, rfl⟩ := r3 rfl
    have q2' : (μ2.keep q_sA).at_ (.r 0) = _ := q2
    have q3' : (μ2.keep q_sA).at_ (.r 1) = _ := q3
    rw [k1] at q2'; cases q2'
    rw [k2] at q3'; cases q3'
    have hsz : a2.tmps.toList.length = 22 := h2.slots.length
    refine ⟨?_, ?_, by rw [← Array.length_toList, hsz]; omega⟩
    · simp only [Act.eval, Array.getD_eq_getD_getElem?, ← Array.getElem?_toList, g2, Option.getD_some]
    · simp only [Act.eval, Array.getD_eq_getD_getElem?, ← Array.getElem?_toList, g3, Option.getD_some]
  obtain ⟨hv2, hv3, hsz⟩ := hev
  refine stepIn q3_0 _ _ (by kernel_rfl) (by kernel_rfl) (q3_mk _ _) ?_
  rw [hv2, hv3, show q3_0.dst = some 9 by kernel_rfl]
  refine stepIn_defer q3_1 (parD b1 b2) w2 (by kernel_rfl) (by kernel_rfl) (q3_df _ _ _ (by simp [Act.put, Act.eval, hsz])) ?_
  rw [show q3_1.dst = none by kernel_rfl]
  have h3 := Sim.put (a := a2) h2 (some 9) (av := .dead) (v := .func (.func 43) #[] #[.pointer (some ⟨b1, 0, none⟩), .pointer (some ⟨b2, 0, none⟩)]) (by simp only [RepAV])
  rw [show (fill q_sA (q_a s 0)).put (some 9) .dead = fill q_sA (q_a s 0) by kernel_rfl] at h3
  obtain ⟨a3, ha3⟩ : ∃ a3 : Act, a3 = ({ (a2.put (some 9) (.func (.func 43) #[] #[.pointer (some ⟨b1, 0, none⟩), .pointer (some ⟨b2, 0, none⟩)])) with defers := parD b1 b2 :: (a2.put (some 9) (.func (.func 43) #[] #[.pointer (some ⟨b1, 0, none⟩), .pointer (some ⟨b2, 0, none⟩)])).defers } : Act).put none undef := ⟨_, rfl⟩
  have h3 : Sim (parA w b1 b2) w (fill q_sA (q_a s 0)) a3.tmps w2 (μ2.keep q_sA) := by rw [ha3]; exact h3
  have hd3 : a3.defers = [parD b1 b2] := by rw [ha3]; show parD b1 b2 :: (a2.put _ _).defers = _; rw [put_defers, hd2]
  rw [← ha3]
  clear ha3 h2 hd2 hv2 hv3 hsz
  show Code.wpIn _ _ _ _ _ a3 w2
  refine wpIn_seq (evC_sound (Dk := fun l => l = [parD b1 b2]) (ρ := none) E27_ok (.region 4 q4 false) _ ?_ (fill q_sA (q_a s 0)) _ w2 _ (q_e4 s) h3 hd3)
  clear h3 hd3
  intro ex st' tm E a4 w4 μ4 hK h4 hl hd4
  cases ex <;> simp only at hK <;> first | (cases hK; done) | skip
  obtain ⟨rfl, rfl⟩ := hl
  have h4 := abs_sound (sh := q_sB) h4 (show 2 ≤ 3 by omega) hK
  obtain ⟨μ5, h5⟩ := start_sound (q := 2) (j := 2) h4 rfl rfl rfl rfl (by decide)
  have h5 : Sim (parA w b1 b2) w (q_st5 s) a4.tmps w4 μ5 := h5
  clear h4
  show Code.wpIn _ _ _ _ _ a4 w4
  cases ho : h44_F (h44_y s 0 []) with
  | none => simp only [f27_F, if_neg hlen, ho, Option.bind_none] at hz; cases hz
  | some o =>
    have hz : (match (generalizing := false) o with | .inl y => if h44_o_r0_0 y = [] then some (valR y) else some (zeroR 20) | .inr y => some (zeroR (h44_z_x0_0_0 y))) = some z := by
      simp only [f27_F, if_neg hlen, ho, Option.bind_some] at hz; exact hz
    have heq := q_e5 s
    rw [ho, Option.bind_some] at heq
    cases o with
    | inr y =>
      simp only at hz heq
      cases hz
      refine wpIn_seq (wpIn_region (evOps_sound (Dk := fun l => l = [parD b1 b2]) (ρ := none) (n := 0) (P := Tryd.prog) E27_ok ?_ ?_ _ (q_st5 s) a4 w4 μ5 heq h5 hd4))
      · intro st' a' w' μ' hK _ _
        simp only [Option.map_eq_some_iff] at hK
        obtain ⟨_, _, e⟩ := hK; cases e
      · intro av st' v a' w' μ' hK hv hs hd
        simp only [Option.map_eq_some_iff] at hK
        obtain ⟨p, hp, e⟩ := hK
        simp only [Sum.inr.injEq, Prod.mk.injEq] at e
        obtain ⟨rfl, rfl⟩ := e
        have hs := abs_sound (sh := q_sP) hs (Nat.le_refl 2) hp
        show Leaves _ _ _ _ a'.defers _ _
        rw [hd]
        exact leave_panic hs hv
    | inl y =>
      simp only at hz heq
      refine wpIn_seq (wpIn_region (evOps_sound (Dk := fun l => l = [parD b1 b2]) (ρ := none) (n := 0) (P := Tryd.prog) E27_ok ?_ ?_ _ (q_st5 s) a4 w4 μ5 heq h5 hd4))
      rotate_left
      · intro av st' v a' w' μ' hK hv hs hd
        simp only [Option.map_eq_some_iff] at hK
        obtain ⟨_, _, e⟩ := hK; cases e
      intro st' a6 w6 μ6 hK h6 hd6
      simp only [Option.map_eq_some_iff] at hK
      obtain ⟨p, hp, e⟩ := hK
      cases e
      have h6 := abs_sound (sh := q_sC) h6 (show 2 ≤ 3 by omega) hp
      clear hp heq h5 hd4
      show Code.wpIn _ _ _ _ _ a6 w6
      refine wpIn_seq (wpIn_seq (evC_sound (Dk := fun l => l = [parD b1 b2]) (ρ := none) E27_ok (.region 6 q6 false) _ ?_ (fill q_sC (q_cz y)) _ w6 _ (q_e6 y) h6 hd6))
      clear h6 hd6
      intro ex st' tm E a7 w7 μ7 hK h7 hl hd7
      cases ex <;> simp only at hK <;> first | (cases hK; done) | skip
      obtain ⟨rfl, rfl⟩ := hl
      have h7 := abs_sound (sh := q_sD) h7 (Nat.le_refl 2) hK
      show Code.wpIn _ _ _ _ _ a7 w7
      have hc : a7.eval (.tmp 19) = .bool (h44_o_r0_0 y != []) := by
        obtain ⟨u, g, r⟩ := h7.slots.get 19 (.d .bool (h44_o_r0_0 y != [])) rfl
        simp only [RepAV, Rep, List.cons.injEq, and_true] at r
        subst r
        simp only [Act.eval, Array.getD_eq_getD_getElem?, ← Array.getElem?_toList, g, Option.getD_some]
      refine wpIn_cond_split hc (fun ht => ?_) (fun hf => ?_)
      · have hne : ¬ h44_o_r0_0 y = [] := by simpa using ht
        rw [if_neg hne] at hz; cases hz
        have heq := q_e7 y (h44_o_r0_0 y != [])
        rw [h45_eq, Option.bind_some] at heq
        refine wpIn_region (evOps_sound (Dk := fun l => l = [parD b1 b2]) (ρ := none) (n := 0) (P := Tryd.prog) E27_ok ?_ ?_ _ (fill q_sD (q_dz y _)) a7 w7 _ heq h7 hd7)
        · intro st' a' w' μ' hK _ _; cases hK
        · intro av st' v a' w' μ' hK hv hs hd
          simp only [Option.map_eq_some_iff] at hK
          obtain ⟨p, hp, e⟩ := hK
          simp only [Prod.mk.injEq] at e
          obtain ⟨rfl, rfl⟩ := e
          have hs := abs_sound (sh := q_sP) hs (Nat.le_refl 2) hp
          show Leaves _ _ _ _ a'.defers _ _
          rw [hd]
          exact leave_panic hs hv
      · have hne : h44_o_r0_0 y = [] := by simpa using hf
        rw [if_pos hne] at hz; cases hz
        refine wpIn_skip ?_
        show Code.wpIn _ _ _ _ _ a7 w7
        refine evC_sound (Dk := fun l => l = [parD b1 b2]) (ρ := none) E27_ok _ _ ?_ (fill q_sD (q_dz y _)) _ w7 _ (q_e8 y _) h7 hd7
        clear h7 hd7 hc
        intro ex st' tm E a8 w8 μ8 hK h8 hl hd8
        cases ex <;> simp only at hK <;> first | (cases hK; done) | skip
        obtain ⟨rfl, rfl⟩ := hl
        show Leaves _ _ _ _ a8.defers _ _
        rw [hd8]
        refine leaves_cons (fv := .func 43) (cap := #[.pointer (some ⟨b1, 0, none⟩), .pointer (some ⟨b2, 0, none⟩)]) (dargs := #[]) (by simp) (par_invoke b1 b2 w8) ?_
        refine (catch_idle b1 b2 w8).mono ?_
        rintro e u' w'' ⟨rfl, rfl, rfl⟩
        show Leaves _ _ _ _ [] .returning _
        have hbl : Below w8.heap.size w8 (w8.alloc (.cells #[.int .i64 0] 68)) := (Below.refl _ w8).alloc (Nat.le_refl _) _
        have h9 := h8.ext hbl
        obtain ⟨v, g1, g2⟩ := fin_of E27_ok (A := A) (A0 := parA w b1 b2) (fun b h => False.elim h) h9 hK
        exact ⟨v, g1, v, rfl, h9.mem.below, g2⟩
theorem f27_ok : Sound Tryd.prog 27 (pfun f27_F) := by
  refine ⟨⟨_, Tryd.func27, by kernel_rfl, by kernel_rfl⟩, ?_⟩
  intro S args K r hG A w vs hA hgi hcl hrep
  simp only [pfun, Option.bind_eq_some_iff] at hG
  obtain ⟨⟨s, _⟩, hy, z, hz, hK⟩ := hG
  refine ⟨_, hK, encRes_closed _ z, ?_⟩
  have hargs := decArgs_rep hy hrep
  simp only [encArgs, KD.enc] at hargs
  obtain ⟨v1, _, rfl, r1, hargs⟩ := hargs.cons'
  obtain rfl := hargs.nil
  simp only [RepAV, Rep, List.cons.injEq, and_true] at r1
  subst r1
  exact par_calls s z hz A w hgi
end Go.Pe.Tryd
end
