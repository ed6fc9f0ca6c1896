/- Printed by gen.py: the same functions as plain equations; Lean checks them. -/
import Derived.Test.YtgkolhopfiogpaaPeG17
namespace Go.Pe.Try
open Go.Proofs Go.RowKit
set_option maxRecDepth 100000
set_option linter.unusedVariables false
/-! imprimatur/imprimaturlaw17.few -/
theorem f17_eq (a0_0 : List (List UInt8)) (a0_1 : List ((Int × List UInt8))) : f17_F ((a0_0, (a0_1, ())), ()) = (cutHi a0_0 (minI (a0_0.length : Int) (66 : Int)) fun s1 => cutHi a0_1 (minI (a0_1.length : Int) (202 : Int)) fun s2 => some ((s1, (s2, ())), ())) := by kernel_rfl
/-! imprimatur/disk.New -/
def f23_p0_y (x0 : Int) : f23_p0_sh.den := ((x0, ((), ((), ((), ((), ((), ((), ((), ((), ((), ((), ((), ((), ((), ((), ((), ((), ((), ())))))))))))))))))), (((), ((), ())), ()), ())
def f23_p0_o0_y (x0 : Int) (x10 : Bool) : f23_p0_o0.den := ((x0, ((), ((), ((), ((), ((), ((), ((), ((), ((), (x10, ((), ((), ((), ((), ((), ((), ((), ())))))))))))))))))), (((), ((), ())), ()), ())
def f23_p0_o0_x0 (z : f23_p0_o0.den) : Int := z.1.1
def f23_p0_o0_x10 (z : f23_p0_o0.den) : Bool := z.1.2.2.2.2.2.2.2.2.2.2.1
@[simp] theorem f23_p0_o0_x0_y (x0 : Int) (x10 : Bool) : f23_p0_o0_x0 (f23_p0_o0_y x0 x10) = x0 := id rfl
@[simp] theorem f23_p0_o0_x10_y (x0 : Int) (x10 : Bool) : f23_p0_o0_x10 (f23_p0_o0_y x0 x10) = x10 := id rfl
theorem f23_p0_eq (x0 : Int) : f23_p0_F (f23_p0_y x0) = (bif (decide (x0 < (4 : Int))) then (some ((f23_p0_o0_y x0 true))) else (some ((f23_p0_o0_y x0 (decide (x0 > (64 : Int))))))) := by kernel_rfl
theorem f23_eq (a0 : Int) : f23_F (a0, ()) = ((f23_p0_F (f23_p0_y a0)).bind fun o3 => bif (f23_p0_o0_x10 o3) then (some ((([] : List (List UInt8)), (([] : List ((Int × List UInt8))), ())), ((1 : Int), ()))) else ((repeatF (([0] : List UInt8), ((128 : Int), ()))).bind fun r4 => (repsF ([r4.1], ((f23_p0_o0_x0 o3), ()))).bind fun r5 => some ((r5.1, (([] : List ((Int × List UInt8))), ())), ((0 : Int), ())))) := by kernel_rfl
/-! imprimatur/disk.Right$1 -/
theorem f49_eq (a0 : List UInt8) : f49_F (a0, ()) = (some (((a0.length : Int) != (128 : Int)), ())) := by kernel_rfl
/-! slices.IndexFunc[[]string,string] -/
def h63_y (x0 : List (List UInt8)) : h63_I.den := ((x0, (((), ()), ())), (), ())
def h63_o_y (x0 : Int) : h63_O.den := ((x0, ()), (), ())
def h63_o_x0 (z : h63_O.den) : Int := z.1.1
@[simp] theorem h63_o_x0_y (x0 : Int) : h63_o_x0 (h63_o_y x0) = x0 := id rfl
def h63_p0_y (x0 : List (List UInt8)) (x7 : Int) (x8 : Int) : h63_p0_sh.den := ((x0, (((), ()), ((), ((), ((), ((), ((), (x7, (x8, ((), ((), ((), ((), ((), ((), ((), ((), ((), ((), ()))))))))))))))))))), (), ())
def h63_p0_o0_y : h63_p0_o0.den := (((), ((), ((), ((), ((), ((), ((), ((), ((), ((), ((), ((), ((), ((), ((), ((), ((), ((), ((), ()))))))))))))))))))), (), ())
def h63_p0_o1_y (x4 : Int) : h63_p0_o1.den := (((), ((), ((), ((), (x4, ((), ((), ((), ((), ((), ((), ((), ((), ((), ((), ((), ((), ((), ((), ()))))))))))))))))))), (), ())
def h63_p0_o1_x4 (z : h63_p0_o1.den) : Int := z.1.2.2.2.2.1
@[simp] theorem h63_p0_o1_x4_y (x4 : Int) : h63_p0_o1_x4 (h63_p0_o1_y x4) = x4 := id rfl
theorem h63_p0_eq (rec : h63_p0_sh.den → Option (OutDen h63_p0_outs)) (x0 : List (List UInt8)) (x7 : Int) (x8 : Int) : h63_p0_st rec (h63_p0_y x0 x7 x8) = (bif (decide (x8 < x7)) then ((nth x0 x8).bind fun y6 => (f49_F (y6, ())).bind fun r7 => bif r7.1 then (some (.inr ((h63_p0_o1_y x8)))) else (rec (h63_p0_y x0 x7 (IntKind.i64.wrap (x8 + (1 : Int)))))) else (some (.inl h63_p0_o0_y))) := by kernel_rfl
theorem h63_eq (x0 : List (List UInt8)) : h63_F (h63_y x0) = ((go h63_p0_st (h63_p0_y x0 (x0.length : Int) (0 : Int))).bind fun o8 => (match o8 with | .inl z9 => some (h63_o_y (-1 : Int)) | .inr o10 => some (h63_o_y (h63_p0_o1_x4 o10)))) := by kernel_rfl
/-! slices.ContainsFunc[[]string,string] -/
def h51_y (x0 : List (List UInt8)) : h51_I.den := ((x0, (((), ()), ())), (), ())
def h51_o_y (x0 : Bool) : h51_O.den := ((x0, ()), (), ())
def h51_o_x0 (z : h51_O.den) : Bool := z.1.1
@[simp] theorem h51_o_x0_y (x0 : Bool) : h51_o_x0 (h51_o_y x0) = x0 := id rfl
theorem h51_eq (x0 : List (List UInt8)) : h51_F (h51_y x0) = ((h63_F (h63_y x0)).bind fun z11 => some (h51_o_y (decide ((h63_o_x0 z11) ≥ (0 : Int))))) := by kernel_rfl
/-! imprimatur/disk.Right$2 -/
def h50_y (x0_0 : Int) (x0_1 : List UInt8) (r0_0 : Int) : h50_I.den := (((x0_0, (x0_1, ())), ((), ((), ()))), ((r0_0, ()), ((((), ()), ()), ())), ())
def h50_o_y (x0 : Bool) (r0_0 : Int) : h50_O.den := ((x0, ()), ((r0_0, ()), ((((), ()), ()), ())), ())
def h50_o_x0 (z : h50_O.den) : Bool := z.1.1
def h50_o_r0_0 (z : h50_O.den) : Int := z.2.1.1.1
@[simp] theorem h50_o_x0_y (x0 : Bool) (r0_0 : Int) : h50_o_x0 (h50_o_y x0 r0_0) = x0 := id rfl
@[simp] theorem h50_o_r0_0_y (x0 : Bool) (r0_0 : Int) : h50_o_r0_0 (h50_o_y x0 r0_0) = r0_0 := id rfl
theorem h50_eq (x0_0 : Int) (x0_1 : List UInt8) (r0_0 : Int) : h50_F (h50_y x0_0 x0_1 r0_0) = (bif (decide (x0_0 < (0 : Int))) then (some (h50_o_y true r0_0)) else (bif (decide (x0_0 ≥ r0_0)) then (some (h50_o_y true r0_0)) else ((f49_F (x0_1, ())).bind fun r12 => some (h50_o_y r12.1 r0_0)))) := by kernel_rfl
/-! slices.IndexFunc[[]imprimatur/api.Write,imprimatur/api.Write] -/
def h64_y (x0 : List ((Int × List UInt8))) (r0_0 : Int) : h64_I.den := ((x0, (((), ((), ((), ()))), ())), ((r0_0, ()), ((((), ()), ()), ())), ())
def h64_o_y (x0 : Int) (r0_0 : Int) : h64_O.den := ((x0, ()), ((r0_0, ()), ((((), ()), ()), ())), ())
def h64_o_x0 (z : h64_O.den) : Int := z.1.1
def h64_o_r0_0 (z : h64_O.den) : Int := z.2.1.1.1
@[simp] theorem h64_o_x0_y (x0 : Int) (r0_0 : Int) : h64_o_x0 (h64_o_y x0 r0_0) = x0 := id rfl
@[simp] theorem h64_o_r0_0_y (x0 : Int) (r0_0 : Int) : h64_o_r0_0 (h64_o_y x0 r0_0) = r0_0 := id rfl
def h64_p0_y (x0 : List ((Int × List UInt8))) (x7 : Int) (x8 : Int) (r0_0 : Int) : h64_p0_sh.den := ((x0, (((), ((), ((), ()))), ((), ((), ((), ((), ((), (x7, (x8, ((), ((), ((), ((), ((), ((), ((), ((), ((), ((), ()))))))))))))))))))), ((r0_0, ()), ((((), ()), ()), ())), ())
def h64_p0_o0_y (r0_0 : Int) : h64_p0_o0.den := (((), ((), ((), ((), ((), ((), ((), ((), ((), ((), ((), ((), ((), ((), ((), ((), ((), ((), ((), ()))))))))))))))))))), ((r0_0, ()), ((((), ()), ()), ())), ())
def h64_p0_o0_r0_0 (z : h64_p0_o0.den) : Int := z.2.1.1.1
@[simp] theorem h64_p0_o0_r0_0_y (r0_0 : Int) : h64_p0_o0_r0_0 (h64_p0_o0_y r0_0) = r0_0 := id rfl
def h64_p0_o1_y (x4 : Int) (r0_0 : Int) : h64_p0_o1.den := (((), ((), ((), ((), (x4, ((), ((), ((), ((), ((), ((), ((), ((), ((), ((), ((), ((), ((), ((), ()))))))))))))))))))), ((r0_0, ()), ((((), ()), ()), ())), ())
def h64_p0_o1_x4 (z : h64_p0_o1.den) : Int := z.1.2.2.2.2.1
def h64_p0_o1_r0_0 (z : h64_p0_o1.den) : Int := z.2.1.1.1
@[simp] theorem h64_p0_o1_x4_y (x4 : Int) (r0_0 : Int) : h64_p0_o1_x4 (h64_p0_o1_y x4 r0_0) = x4 := id rfl
@[simp] theorem h64_p0_o1_r0_0_y (x4 : Int) (r0_0 : Int) : h64_p0_o1_r0_0 (h64_p0_o1_y x4 r0_0) = r0_0 := id rfl
theorem h64_p0_eq (rec : h64_p0_sh.den → Option (OutDen h64_p0_outs)) (x0 : List ((Int × List UInt8))) (x7 : Int) (x8 : Int) (r0_0 : Int) : h64_p0_st rec (h64_p0_y x0 x7 x8 r0_0) = (bif (decide (x8 < x7)) then ((nth x0 x8).bind fun y13 => (h50_F (h50_y y13.1 y13.2 r0_0)).bind fun z14 => bif (h50_o_x0 z14) then (some (.inr ((h64_p0_o1_y x8 (h50_o_r0_0 z14))))) else (rec (h64_p0_y x0 x7 (IntKind.i64.wrap (x8 + (1 : Int))) (h50_o_r0_0 z14)))) else (some (.inl (h64_p0_o0_y r0_0)))) := by kernel_rfl
theorem h64_eq (x0 : List ((Int × List UInt8))) (r0_0 : Int) : h64_F (h64_y x0 r0_0) = ((go h64_p0_st (h64_p0_y x0 (x0.length : Int) (0 : Int) r0_0)).bind fun o15 => (match o15 with | .inl z16 => some (h64_o_y (-1 : Int) (h64_p0_o0_r0_0 z16)) | .inr o17 => some (h64_o_y (h64_p0_o1_x4 o17) (h64_p0_o1_r0_0 o17)))) := by kernel_rfl
/-! slices.ContainsFunc[[]imprimatur/api.Write,imprimatur/api.Write] -/
def h52_y (x0 : List ((Int × List UInt8))) (r0_0 : Int) : h52_I.den := ((x0, (((), ((), ((), ()))), ())), ((r0_0, ()), ((((), ()), ()), ())), ())
def h52_o_y (x0 : Bool) (r0_0 : Int) : h52_O.den := ((x0, ()), ((r0_0, ()), ((((), ()), ()), ())), ())
def h52_o_x0 (z : h52_O.den) : Bool := z.1.1
def h52_o_r0_0 (z : h52_O.den) : Int := z.2.1.1.1
@[simp] theorem h52_o_x0_y (x0 : Bool) (r0_0 : Int) : h52_o_x0 (h52_o_y x0 r0_0) = x0 := id rfl
@[simp] theorem h52_o_r0_0_y (x0 : Bool) (r0_0 : Int) : h52_o_r0_0 (h52_o_y x0 r0_0) = r0_0 := id rfl
theorem h52_eq (x0 : List ((Int × List UInt8))) (r0_0 : Int) : h52_F (h52_y x0 r0_0) = ((h64_F (h64_y x0 r0_0)).bind fun z18 => some (h52_o_y (decide ((h64_o_x0 z18) ≥ (0 : Int))) (h64_o_r0_0 z18))) := by kernel_rfl
/-! imprimatur/disk.Right -/
def f27_p0_y (r0_0 : List (List UInt8)) (r0_1 : List ((Int × List UInt8))) (r1_0 : Int) : f27_p0_sh.den := (((), ((), ((), ((), ((), ((), ((), ((), ((), ((), ((), ((), ((), ((), ((), ((), ((), ((), ((), ((), ((), ((), ((), ((), ((), ((), ((), ((), ((), ((), ((), ((), ((), ((), ())))))))))))))))))))))))))))))))))), ((r0_0, (r0_1, ())), ((r1_0, ()), ())), ())
def f27_p0_o0_y (x20 : Bool) (r0_0 : List (List UInt8)) (r0_1 : List ((Int × List UInt8))) (r1_0 : Int) : f27_p0_o0.den := (((), ((), ((), ((), ((), ((), ((), ((), ((), ((), ((), ((), ((), ((), ((), ((), ((), ((), ((), ((), (x20, ((), ((), ((), ((), ((), ((), ((), ((), ((), ((), ((), ((), ((), ())))))))))))))))))))))))))))))))))), ((r0_0, (r0_1, ())), ((r1_0, ()), ())), ())
def f27_p0_o0_x20 (z : f27_p0_o0.den) : Bool := z.1.2.2.2.2.2.2.2.2.2.2.2.2.2.2.2.2.2.2.2.2.1
def f27_p0_o0_r0_0 (z : f27_p0_o0.den) : List (List UInt8) := z.2.1.1.1
def f27_p0_o0_r0_1 (z : f27_p0_o0.den) : List ((Int × List UInt8)) := z.2.1.1.2.1
def f27_p0_o0_r1_0 (z : f27_p0_o0.den) : Int := z.2.1.2.1.1
@[simp] theorem f27_p0_o0_x20_y (x20 : Bool) (r0_0 : List (List UInt8)) (r0_1 : List ((Int × List UInt8))) (r1_0 : Int) : f27_p0_o0_x20 (f27_p0_o0_y x20 r0_0 r0_1 r1_0) = x20 := id rfl
@[simp] theorem f27_p0_o0_r0_0_y (x20 : Bool) (r0_0 : List (List UInt8)) (r0_1 : List ((Int × List UInt8))) (r1_0 : Int) : f27_p0_o0_r0_0 (f27_p0_o0_y x20 r0_0 r0_1 r1_0) = r0_0 := id rfl
@[simp] theorem f27_p0_o0_r0_1_y (x20 : Bool) (r0_0 : List (List UInt8)) (r0_1 : List ((Int × List UInt8))) (r1_0 : Int) : f27_p0_o0_r0_1 (f27_p0_o0_y x20 r0_0 r0_1 r1_0) = r0_1 := id rfl
@[simp] theorem f27_p0_o0_r1_0_y (x20 : Bool) (r0_0 : List (List UInt8)) (r0_1 : List ((Int × List UInt8))) (r1_0 : Int) : f27_p0_o0_r1_0 (f27_p0_o0_y x20 r0_0 r0_1 r1_0) = r1_0 := id rfl
theorem f27_p0_eq (r0_0 : List (List UInt8)) (r0_1 : List ((Int × List UInt8))) (r1_0 : Int) : f27_p0_F (f27_p0_y r0_0 r0_1 r1_0) = (bif (decide (r1_0 < (4 : Int))) then (some ((f27_p0_o0_y true r0_0 r0_1 r1_0))) else (bif (decide (r1_0 > (64 : Int))) then (some ((f27_p0_o0_y true r0_0 r0_1 r1_0))) else (some ((f27_p0_o0_y (decide ((r0_1.length : Int) > (200 : Int))) r0_0 r0_1 r1_0))))) := by kernel_rfl
theorem f27_eq (a0_0 : List (List UInt8)) (a0_1 : List ((Int × List UInt8))) : f27_F ((a0_0, (a0_1, ())), ()) = ((f27_p0_F (f27_p0_y a0_0 a0_1 (a0_0.length : Int))).bind fun o19 => bif (f27_p0_o0_x20 o19) then (some (false, ())) else ((h51_F (h51_y (f27_p0_o0_r0_0 o19))).bind fun z20 => bif (!(h51_o_x0 z20)) then ((h52_F (h52_y (f27_p0_o0_r0_1 o19) (f27_p0_o0_r1_0 o19))).bind fun z21 => some ((!(h52_o_x0 z21)), ())) else (some (false, ())))) := by kernel_rfl
/-! slices.Backward[[]imprimatur/api.Write,imprimatur/api.Write] -/
def h44_y (x0 : List ((Int × List UInt8))) : h44_I.den := ((x0, ()), (), ())
def h44_o_y (r0_0 : List ((Int × List UInt8))) : h44_O.den := ((((), ((), ())), ()), ((r0_0, ()), ()), ())
def h44_o_r0_0 (z : h44_O.den) : List ((Int × List UInt8)) := z.2.1.1.1
@[simp] theorem h44_o_r0_0_y (r0_0 : List ((Int × List UInt8))) : h44_o_r0_0 (h44_o_y r0_0) = r0_0 := id rfl
theorem h44_eq (x0 : List ((Int × List UInt8))) : h44_F (h44_y x0) = (some (h44_o_y x0)) := by kernel_rfl
/-! imprimatur/disk.Read -/
def f22_p0_y (r0_0 : List (List UInt8)) (r0_1 : List ((Int × List UInt8))) (r1_0 : Int) (r2_0 : List UInt8) (r3_0 : Int) (r4_0 : List ((Int × List UInt8))) : f22_p0_sh.den := (((), ((), ((), ((), ((), ((), ((), ((), ((), ((), ((), ((), ((), ((), ((), ((), ((), ((), ((), ((), ((), ((), ((), ((), (((), ((), ())), ((), ((), ((), ((), ((), ((), ((), ((), ((), ((), ((), ((), ((), ())))))))))))))))))))))))))))))))))))))), ((r0_0, (r0_1, ())), ((r1_0, ()), ((r2_0, ()), ((r3_0, ()), ((r4_0, ()), ()))))), ())
def f22_p0_o0_y (r0_0 : List (List UInt8)) (r0_1 : List ((Int × List UInt8))) (r1_0 : Int) (r2_0 : List UInt8) (r3_0 : Int) : f22_p0_o0.den := (((), ((), ((), ((), ((), ((), ((), ((), ((), ((), ((), ((), ((), ((), ((), ((), ((), ((), ((), ((), ((), ((), ((), ((), ((), ((), ((), ((), ((), ((), ((), ((), ((), ((), ((), ((), ((), ((), ())))))))))))))))))))))))))))))))))))))), ((r0_0, (r0_1, ())), ((r1_0, ()), ((r2_0, ()), ((r3_0, ()), ())))), ())
def f22_p0_o0_r0_0 (z : f22_p0_o0.den) : List (List UInt8) := z.2.1.1.1
def f22_p0_o0_r0_1 (z : f22_p0_o0.den) : List ((Int × List UInt8)) := z.2.1.1.2.1
def f22_p0_o0_r1_0 (z : f22_p0_o0.den) : Int := z.2.1.2.1.1
def f22_p0_o0_r2_0 (z : f22_p0_o0.den) : List UInt8 := z.2.1.2.2.1.1
def f22_p0_o0_r3_0 (z : f22_p0_o0.den) : Int := z.2.1.2.2.2.1.1
@[simp] theorem f22_p0_o0_r0_0_y (r0_0 : List (List UInt8)) (r0_1 : List ((Int × List UInt8))) (r1_0 : Int) (r2_0 : List UInt8) (r3_0 : Int) : f22_p0_o0_r0_0 (f22_p0_o0_y r0_0 r0_1 r1_0 r2_0 r3_0) = r0_0 := id rfl
@[simp] theorem f22_p0_o0_r0_1_y (r0_0 : List (List UInt8)) (r0_1 : List ((Int × List UInt8))) (r1_0 : Int) (r2_0 : List UInt8) (r3_0 : Int) : f22_p0_o0_r0_1 (f22_p0_o0_y r0_0 r0_1 r1_0 r2_0 r3_0) = r0_1 := id rfl
@[simp] theorem f22_p0_o0_r1_0_y (r0_0 : List (List UInt8)) (r0_1 : List ((Int × List UInt8))) (r1_0 : Int) (r2_0 : List UInt8) (r3_0 : Int) : f22_p0_o0_r1_0 (f22_p0_o0_y r0_0 r0_1 r1_0 r2_0 r3_0) = r1_0 := id rfl
@[simp] theorem f22_p0_o0_r2_0_y (r0_0 : List (List UInt8)) (r0_1 : List ((Int × List UInt8))) (r1_0 : Int) (r2_0 : List UInt8) (r3_0 : Int) : f22_p0_o0_r2_0 (f22_p0_o0_y r0_0 r0_1 r1_0 r2_0 r3_0) = r2_0 := id rfl
@[simp] theorem f22_p0_o0_r3_0_y (r0_0 : List (List UInt8)) (r0_1 : List ((Int × List UInt8))) (r1_0 : Int) (r2_0 : List UInt8) (r3_0 : Int) : f22_p0_o0_r3_0 (f22_p0_o0_y r0_0 r0_1 r1_0 r2_0 r3_0) = r3_0 := id rfl
def f22_p0_o1_y (r2_0 : List UInt8) (r3_0 : Int) : f22_p0_o1.den := (((), ((), ((), ((), ((), ((), ((), ((), ((), ((), ((), ((), ((), ((), ((), ((), ((), ((), ((), ((), ((), ((), ((), ((), ((), ((), ((), ((), ((), ((), ((), ((), ((), ((), ((), ((), ((), ((), ())))))))))))))))))))))))))))))))))))))), ((r2_0, ()), ((r3_0, ()), ())), ())
def f22_p0_o1_r2_0 (z : f22_p0_o1.den) : List UInt8 := z.2.1.1.1
def f22_p0_o1_r3_0 (z : f22_p0_o1.den) : Int := z.2.1.2.1.1
@[simp] theorem f22_p0_o1_r2_0_y (r2_0 : List UInt8) (r3_0 : Int) : f22_p0_o1_r2_0 (f22_p0_o1_y r2_0 r3_0) = r2_0 := id rfl
@[simp] theorem f22_p0_o1_r3_0_y (r2_0 : List UInt8) (r3_0 : Int) : f22_p0_o1_r3_0 (f22_p0_o1_y r2_0 r3_0) = r3_0 := id rfl
def f22_p0_h_y (r0_0 : List (List UInt8)) (r0_1 : List ((Int × List UInt8))) (r1_0 : Int) (r2_0 : List UInt8) (r3_0 : Int) : f22_p0_hd.den := (((), ((), ((), ((), ((), ((), ((), ((), ((), ((), ((), ((), ((), ((), ((), ((), ((), ((), ((), ((), ((), ((), ((), ((), ((), ((), ((), ((), ((), ((), ((), ((), ((), ((), ((), ((), ((), ((), ())))))))))))))))))))))))))))))))))))))), ((r0_0, (r0_1, ())), ((r1_0, ()), ((r2_0, ()), ((r3_0, ()), ())))), ())
theorem f22_p0_eq (r0_0 : List (List UInt8)) (r0_1 : List ((Int × List UInt8))) (r1_0 : Int) (r2_0 : List UInt8) (r3_0 : Int) (r4_0 : List ((Int × List UInt8))) : f22_p0_F (f22_p0_y r0_0 r0_1 r1_0 r2_0 r3_0 r4_0) = (appOk r4_0.length (rangeL f22_p0_st f22_p0_fin (backs r4_0) (f22_p0_h_y r0_0 r0_1 r1_0 r2_0 r3_0))) := by kernel_rfl
theorem f22_p0_fin_eq (r0_0 : List (List UInt8)) (r0_1 : List ((Int × List UInt8))) (r1_0 : Int) (r2_0 : List UInt8) (r3_0 : Int) : f22_p0_fin (f22_p0_h_y r0_0 r0_1 r1_0 r2_0 r3_0) = some (.inl (f22_p0_o0_y r0_0 r0_1 r1_0 r2_0 r3_0)) := by kernel_rfl
theorem f22_p0_st_eq (r0_0 : List (List UInt8)) (r0_1 : List ((Int × List UInt8))) (r1_0 : Int) (r2_0 : List UInt8) (r3_0 : Int) (i : Int) (w : (Int × List UInt8)) : f22_p0_st (f22_p0_h_y r0_0 r0_1 r1_0 r2_0 r3_0) (i, w) = (bif (w.1 == r1_0) then (some (.inr (.inr ((f22_p0_o1_y w.2 (0 : Int)))))) else (some (.inl (f22_p0_h_y r0_0 r0_1 r1_0 r2_0 r3_0)))) := by kernel_rfl
def f22_p1_y (r0_0 : List (List UInt8)) (r0_1 : List ((Int × List UInt8))) (r1_0 : Int) (r2_0 : List UInt8) (r3_0 : Int) : f22_p1_sh.den := (((), ((), ((), ((), ((), ((), ((), ((), ((), ((), ((), ((), ((), ((), ((), ((), ((), ((), ((), ((), ((), ((), ((), ((), ((), ((), ((), ((), ((), ((), ((), ((), ((), ((), ((), ((), ((), ((), ())))))))))))))))))))))))))))))))))))))), ((r0_0, (r0_1, ())), ((r1_0, ()), ((r2_0, ()), ((r3_0, ()), ())))), ())
def f22_p1_o0_y (x21 : Bool) (r0_0 : List (List UInt8)) (r0_1 : List ((Int × List UInt8))) (r1_0 : Int) (r2_0 : List UInt8) (r3_0 : Int) : f22_p1_o0.den := (((), ((), ((), ((), ((), ((), ((), ((), ((), ((), ((), ((), ((), ((), ((), ((), ((), ((), ((), ((), ((), (x21, ((), ((), ((), ((), ((), ((), ((), ((), ((), ((), ((), ((), ((), ((), ((), ((), ())))))))))))))))))))))))))))))))))))))), ((r0_0, (r0_1, ())), ((r1_0, ()), ((r2_0, ()), ((r3_0, ()), ())))), ())
def f22_p1_o0_x21 (z : f22_p1_o0.den) : Bool := z.1.2.2.2.2.2.2.2.2.2.2.2.2.2.2.2.2.2.2.2.2.2.1
def f22_p1_o0_r0_0 (z : f22_p1_o0.den) : List (List UInt8) := z.2.1.1.1
def f22_p1_o0_r0_1 (z : f22_p1_o0.den) : List ((Int × List UInt8)) := z.2.1.1.2.1
def f22_p1_o0_r1_0 (z : f22_p1_o0.den) : Int := z.2.1.2.1.1
def f22_p1_o0_r2_0 (z : f22_p1_o0.den) : List UInt8 := z.2.1.2.2.1.1
def f22_p1_o0_r3_0 (z : f22_p1_o0.den) : Int := z.2.1.2.2.2.1.1
@[simp] theorem f22_p1_o0_x21_y (x21 : Bool) (r0_0 : List (List UInt8)) (r0_1 : List ((Int × List UInt8))) (r1_0 : Int) (r2_0 : List UInt8) (r3_0 : Int) : f22_p1_o0_x21 (f22_p1_o0_y x21 r0_0 r0_1 r1_0 r2_0 r3_0) = x21 := id rfl
@[simp] theorem f22_p1_o0_r0_0_y (x21 : Bool) (r0_0 : List (List UInt8)) (r0_1 : List ((Int × List UInt8))) (r1_0 : Int) (r2_0 : List UInt8) (r3_0 : Int) : f22_p1_o0_r0_0 (f22_p1_o0_y x21 r0_0 r0_1 r1_0 r2_0 r3_0) = r0_0 := id rfl
@[simp] theorem f22_p1_o0_r0_1_y (x21 : Bool) (r0_0 : List (List UInt8)) (r0_1 : List ((Int × List UInt8))) (r1_0 : Int) (r2_0 : List UInt8) (r3_0 : Int) : f22_p1_o0_r0_1 (f22_p1_o0_y x21 r0_0 r0_1 r1_0 r2_0 r3_0) = r0_1 := id rfl
@[simp] theorem f22_p1_o0_r1_0_y (x21 : Bool) (r0_0 : List (List UInt8)) (r0_1 : List ((Int × List UInt8))) (r1_0 : Int) (r2_0 : List UInt8) (r3_0 : Int) : f22_p1_o0_r1_0 (f22_p1_o0_y x21 r0_0 r0_1 r1_0 r2_0 r3_0) = r1_0 := id rfl
@[simp] theorem f22_p1_o0_r2_0_y (x21 : Bool) (r0_0 : List (List UInt8)) (r0_1 : List ((Int × List UInt8))) (r1_0 : Int) (r2_0 : List UInt8) (r3_0 : Int) : f22_p1_o0_r2_0 (f22_p1_o0_y x21 r0_0 r0_1 r1_0 r2_0 r3_0) = r2_0 := id rfl
@[simp] theorem f22_p1_o0_r3_0_y (x21 : Bool) (r0_0 : List (List UInt8)) (r0_1 : List ((Int × List UInt8))) (r1_0 : Int) (r2_0 : List UInt8) (r3_0 : Int) : f22_p1_o0_r3_0 (f22_p1_o0_y x21 r0_0 r0_1 r1_0 r2_0 r3_0) = r3_0 := id rfl
theorem f22_p1_eq (r0_0 : List (List UInt8)) (r0_1 : List ((Int × List UInt8))) (r1_0 : Int) (r2_0 : List UInt8) (r3_0 : Int) : f22_p1_F (f22_p1_y r0_0 r0_1 r1_0 r2_0 r3_0) = ((f27_F ((r0_0, (r0_1, ())), ())).bind fun r22 => bif (!r22.1) then (some ((f22_p1_o0_y true r0_0 r0_1 r1_0 r2_0 r3_0))) else (bif (decide (r1_0 < (0 : Int))) then (some ((f22_p1_o0_y true r0_0 r0_1 r1_0 r2_0 r3_0))) else (some ((f22_p1_o0_y (decide (r1_0 ≥ (r0_0.length : Int))) r0_0 r0_1 r1_0 r2_0 r3_0))))) := by kernel_rfl
theorem f22_eq (a0_0 : List (List UInt8)) (a0_1 : List ((Int × List UInt8))) (a1 : Int) : f22_F ((a0_0, (a0_1, ())), (a1, ())) = ((f22_p1_F (f22_p1_y a0_0 a0_1 a1 ([] : List UInt8) (0 : Int))).bind fun o23 => bif (f22_p1_o0_x21 o23) then (some (([] : List UInt8), ((1 : Int), ()))) else ((h44_F (h44_y (f22_p1_o0_r0_1 o23))).bind fun z24 => (f22_p0_F (f22_p0_y (f22_p1_o0_r0_0 o23) (f22_p1_o0_r0_1 o23) (f22_p1_o0_r1_0 o23) (f22_p1_o0_r2_0 o23) (f22_p1_o0_r3_0 o23) (h44_o_r0_0 z24))).bind fun o25 => (match o25 with | .inl z26 => (nth (f22_p0_o0_r0_0 z26) (f22_p0_o0_r1_0 z26)).bind fun y28 => some (y28, ((0 : Int), ())) | .inr o27 => some ((f22_p0_o1_r2_0 o27), ((f22_p0_o1_r3_0 o27), ()))))) := by kernel_rfl
/-! slices.Clone[[]imprimatur/api.Write,imprimatur/api.Write] -/
def h43_y (x0 : List ((Int × List UInt8))) : h43_I.den := ((x0, ()), (), ())
def h43_o_y (l0 : List ((Int × List UInt8))) : h43_O.den := (((), ()), (), (l0, ()))
def h43_o_l0 (z : h43_O.den) : List ((Int × List UInt8)) := z.2.2.1
@[simp] theorem h43_o_l0_y (l0 : List ((Int × List UInt8))) : h43_o_l0 (h43_o_y l0) = l0 := id rfl
theorem h43_eq (x0 : List ((Int × List UInt8))) : h43_F (h43_y x0) = (nilEq x0 (some (h43_o_y ([] : List ((Int × List UInt8))))) (appOk x0.length (some (h43_o_y x0)))) := by kernel_rfl
/-! imprimatur/disk.Put -/
def f20_p0_y (x1 : Int) (x2 : List UInt8) (r0_0 : List (List UInt8)) (r0_1 : List ((Int × List UInt8))) : f20_p0_sh.den := (((), (x1, (x2, ((), ((), ((), ((), ((), ((), ((), ((), ((), ((), ((), ((), ((), ((), ((), ((), ((), ((), ((), ((), ((), ((), ((), ((), ((), ((), ((), ((), ((), ((), ((), ((), ((), ((), ((), ((), ((), ((), ((), ((), ((), ((), ()))))))))))))))))))))))))))))))))))))))))))))), ((r0_0, (r0_1, ())), (((), ((), ())), ())), ())
def f20_p0_o0_y (x1 : Int) (x2 : List UInt8) (x8 : Bool) (r0_0 : List (List UInt8)) (r0_1 : List ((Int × List UInt8))) : f20_p0_o0.den := (((), (x1, (x2, ((), ((), ((), ((), ((), (x8, ((), ((), ((), ((), ((), ((), ((), ((), ((), ((), ((), ((), ((), ((), ((), ((), ((), ((), ((), ((), ((), ((), ((), ((), ((), ((), ((), ((), ((), ((), ((), ((), ((), ((), ((), ((), ()))))))))))))))))))))))))))))))))))))))))))))), ((r0_0, (r0_1, ())), (((), ((), ())), ())), ())
def f20_p0_o0_x1 (z : f20_p0_o0.den) : Int := z.1.2.1
def f20_p0_o0_x2 (z : f20_p0_o0.den) : List UInt8 := z.1.2.2.1
def f20_p0_o0_x8 (z : f20_p0_o0.den) : Bool := z.1.2.2.2.2.2.2.2.2.1
def f20_p0_o0_r0_0 (z : f20_p0_o0.den) : List (List UInt8) := z.2.1.1.1
def f20_p0_o0_r0_1 (z : f20_p0_o0.den) : List ((Int × List UInt8)) := z.2.1.1.2.1
@[simp] theorem f20_p0_o0_x1_y (x1 : Int) (x2 : List UInt8) (x8 : Bool) (r0_0 : List (List UInt8)) (r0_1 : List ((Int × List UInt8))) : f20_p0_o0_x1 (f20_p0_o0_y x1 x2 x8 r0_0 r0_1) = x1 := id rfl
@[simp] theorem f20_p0_o0_x2_y (x1 : Int) (x2 : List UInt8) (x8 : Bool) (r0_0 : List (List UInt8)) (r0_1 : List ((Int × List UInt8))) : f20_p0_o0_x2 (f20_p0_o0_y x1 x2 x8 r0_0 r0_1) = x2 := id rfl
@[simp] theorem f20_p0_o0_x8_y (x1 : Int) (x2 : List UInt8) (x8 : Bool) (r0_0 : List (List UInt8)) (r0_1 : List ((Int × List UInt8))) : f20_p0_o0_x8 (f20_p0_o0_y x1 x2 x8 r0_0 r0_1) = x8 := id rfl
@[simp] theorem f20_p0_o0_r0_0_y (x1 : Int) (x2 : List UInt8) (x8 : Bool) (r0_0 : List (List UInt8)) (r0_1 : List ((Int × List UInt8))) : f20_p0_o0_r0_0 (f20_p0_o0_y x1 x2 x8 r0_0 r0_1) = r0_0 := id rfl
@[simp] theorem f20_p0_o0_r0_1_y (x1 : Int) (x2 : List UInt8) (x8 : Bool) (r0_0 : List (List UInt8)) (r0_1 : List ((Int × List UInt8))) : f20_p0_o0_r0_1 (f20_p0_o0_y x1 x2 x8 r0_0 r0_1) = r0_1 := id rfl
theorem f20_p0_eq (x1 : Int) (x2 : List UInt8) (r0_0 : List (List UInt8)) (r0_1 : List ((Int × List UInt8))) : f20_p0_F (f20_p0_y x1 x2 r0_0 r0_1) = ((f27_F ((r0_0, (r0_1, ())), ())).bind fun r29 => bif (!r29.1) then (some ((f20_p0_o0_y x1 x2 true r0_0 r0_1))) else (bif (decide (x1 < (0 : Int))) then (some ((f20_p0_o0_y x1 x2 true r0_0 r0_1))) else (bif (decide (x1 ≥ (r0_0.length : Int))) then (some ((f20_p0_o0_y x1 x2 true r0_0 r0_1))) else (some ((f20_p0_o0_y x1 x2 ((x2.length : Int) != (128 : Int)) r0_0 r0_1)))))) := by kernel_rfl
theorem f20_eq (a0_0 : List (List UInt8)) (a0_1 : List ((Int × List UInt8))) (a1 : Int) (a2 : List UInt8) : f20_F ((a0_0, (a0_1, ())), (a1, (a2, ()))) = ((f20_p0_F (f20_p0_y a1 a2 a0_0 a0_1)).bind fun o30 => bif (f20_p0_o0_x8 o30) then (some ((([] : List (List UInt8)), (([] : List ((Int × List UInt8))), ())), ((1 : Int), ()))) else (bif (((f20_p0_o0_r0_1 o30).length : Int) == (200 : Int)) then (some ((([] : List (List UInt8)), (([] : List ((Int × List UInt8))), ())), ((40 : Int), ()))) else ((h43_F (h43_y (f20_p0_o0_r0_1 o30))).bind fun z31 => appOk ((h43_o_l0 z31).length + [((f20_p0_o0_x1 o30), (f20_p0_o0_x2 o30))].length) (some (((f20_p0_o0_r0_0 o30), (((h43_o_l0 z31) ++ [((f20_p0_o0_x1 o30), (f20_p0_o0_x2 o30))]), ())), ((0 : Int), ())))))) := by kernel_rfl
/-! slices.Clone[[]string,string] -/
def h62_y (x0 : List (List UInt8)) : h62_I.den := ((x0, ()), (), ())
def h62_o_y (l0 : List (List UInt8)) : h62_O.den := (((), ()), (), (l0, ()))
def h62_o_l0 (z : h62_O.den) : List (List UInt8) := z.2.2.1
@[simp] theorem h62_o_l0_y (l0 : List (List UInt8)) : h62_o_l0 (h62_o_y l0) = l0 := id rfl
theorem h62_eq (x0 : List (List UInt8)) : h62_F (h62_y x0) = (nilEq x0 (some (h62_o_y ([] : List (List UInt8)))) (appOk x0.length (some (h62_o_y x0)))) := by kernel_rfl
/-! imprimatur/disk.Sync$1 -/
theorem f47_eq (a0 : Int) : f47_F (a0, ()) = (some (true, ())) := by kernel_rfl
/-! imprimatur/disk.safe -/
def h46_y (x0_0 : List (List UInt8)) (x0_1 : List ((Int × List UInt8))) : h46_I.den := (((x0_0, (x0_1, ())), (((), ()), ())), (), ())
def h46_o_y (l0 : List (List UInt8)) : h46_O.den := ((((), ((), ())), ()), (), (l0, ()))
def h46_o_l0 (z : h46_O.den) : List (List UInt8) := z.2.2.1
@[simp] theorem h46_o_l0_y (l0 : List (List UInt8)) : h46_o_l0 (h46_o_y l0) = l0 := id rfl
def h46_p0_y (x12 : List ((Int × List UInt8))) (x13 : Int) (x14 : Int) (l0 : List (List UInt8)) : h46_p0_sh.den := (((), (((), ()), ((), ((), ((), ((), ((), ((), ((), ((), ((), ((), (x12, (x13, (x14, ((), ((), ((), ((), ((), ((), ((), ((), ((), ((), ((), ((), ((), ((), ((), ((), ()))))))))))))))))))))))))))))))), (((), ((), ())), ()), (l0, ()))
def h46_p0_o0_y (x12 : List ((Int × List UInt8))) (x13 : Int) (x14 : Int) (l0 : List (List UInt8)) : h46_p0_o0.den := (((), (((), ()), ((), ((), ((), ((), ((), ((), ((), ((), ((), ((), (x12, (x13, (x14, ((), ((), ((), ((), ((), ((), ((), ((), ((), ((), ((), ((), ((), ((), ((), ((), ()))))))))))))))))))))))))))))))), (((), ((), ())), ()), (l0, ()))
def h46_p0_o0_x12 (z : h46_p0_o0.den) : List ((Int × List UInt8)) := z.1.2.2.2.2.2.2.2.2.2.2.2.2.1
def h46_p0_o0_x13 (z : h46_p0_o0.den) : Int := z.1.2.2.2.2.2.2.2.2.2.2.2.2.2.1
def h46_p0_o0_x14 (z : h46_p0_o0.den) : Int := z.1.2.2.2.2.2.2.2.2.2.2.2.2.2.2.1
def h46_p0_o0_l0 (z : h46_p0_o0.den) : List (List UInt8) := z.2.2.1
@[simp] theorem h46_p0_o0_x12_y (x12 : List ((Int × List UInt8))) (x13 : Int) (x14 : Int) (l0 : List (List UInt8)) : h46_p0_o0_x12 (h46_p0_o0_y x12 x13 x14 l0) = x12 := id rfl
@[simp] theorem h46_p0_o0_x13_y (x12 : List ((Int × List UInt8))) (x13 : Int) (x14 : Int) (l0 : List (List UInt8)) : h46_p0_o0_x13 (h46_p0_o0_y x12 x13 x14 l0) = x13 := id rfl
@[simp] theorem h46_p0_o0_x14_y (x12 : List ((Int × List UInt8))) (x13 : Int) (x14 : Int) (l0 : List (List UInt8)) : h46_p0_o0_x14 (h46_p0_o0_y x12 x13 x14 l0) = x14 := id rfl
@[simp] theorem h46_p0_o0_l0_y (x12 : List ((Int × List UInt8))) (x13 : Int) (x14 : Int) (l0 : List (List UInt8)) : h46_p0_o0_l0 (h46_p0_o0_y x12 x13 x14 l0) = l0 := id rfl
theorem h46_p0_eq (x12 : List ((Int × List UInt8))) (x13 : Int) (x14 : Int) (l0 : List (List UInt8)) : h46_p0_F (h46_p0_y x12 x13 x14 l0) = ((nth x12 x14).bind fun y32 => (f47_F (x14, ())).bind fun r33 => bif r33.1 then (within y32.1 l0.length ((l0[(Int.toNat y32.1)]?).bind fun e34 => some ((h46_p0_o0_y x12 x13 x14 (l0.set (Int.toNat y32.1) y32.2))))) else (some ((h46_p0_o0_y x12 x13 x14 l0)))) := by kernel_rfl
def h46_p1_y (x12 : List ((Int × List UInt8))) (x13 : Int) (x14 : Int) (l0 : List (List UInt8)) : h46_p1_sh.den := (((), (((), ()), ((), ((), ((), ((), ((), ((), ((), ((), ((), ((), (x12, (x13, (x14, ((), ((), ((), ((), ((), ((), ((), ((), ((), ((), ((), ((), ((), ((), ((), ((), ()))))))))))))))))))))))))))))))), (((), ((), ())), ()), (l0, ()))
def h46_p1_o0_y (l0 : List (List UInt8)) : h46_p1_o0.den := (((), ((), ((), ((), ((), ((), ((), ((), ((), ((), ((), ((), ((), ((), ((), ((), ((), ((), ((), ((), ((), ((), ((), ((), ((), ((), ((), ((), ((), ((), ((), ()))))))))))))))))))))))))))))))), (((), ((), ())), ()), (l0, ()))
def h46_p1_o0_l0 (z : h46_p1_o0.den) : List (List UInt8) := z.2.2.1
@[simp] theorem h46_p1_o0_l0_y (l0 : List (List UInt8)) : h46_p1_o0_l0 (h46_p1_o0_y l0) = l0 := id rfl
theorem h46_p1_eq (rec : h46_p1_sh.den → Option (OutDen h46_p1_outs)) (x12 : List ((Int × List UInt8))) (x13 : Int) (x14 : Int) (l0 : List (List UInt8)) : h46_p1_st rec (h46_p1_y x12 x13 x14 l0) = (bif (decide (x14 < x13)) then ((h46_p0_F (h46_p0_y x12 x13 x14 l0)).bind fun o35 => rec (h46_p1_y (h46_p0_o0_x12 o35) (h46_p0_o0_x13 o35) (IntKind.i64.wrap ((h46_p0_o0_x14 o35) + (1 : Int))) (h46_p0_o0_l0 o35))) else (some ((h46_p1_o0_y l0)))) := by kernel_rfl
theorem h46_eq (x0_0 : List (List UInt8)) (x0_1 : List ((Int × List UInt8))) : h46_F (h46_y x0_0 x0_1) = ((h62_F (h62_y x0_0)).bind fun z36 => (go h46_p1_st (h46_p1_y x0_1 (x0_1.length : Int) (0 : Int) (h62_o_l0 z36))).bind fun o37 => some (h46_o_y (h46_p1_o0_l0 o37))) := by kernel_rfl
/-! imprimatur/disk.Sync -/
theorem f24_eq (a0_0 : List (List UInt8)) (a0_1 : List ((Int × List UInt8))) : f24_F ((a0_0, (a0_1, ())), ()) = ((f27_F ((a0_0, (a0_1, ())), ())).bind fun r38 => bif (!r38.1) then (some ((([] : List (List UInt8)), (([] : List ((Int × List UInt8))), ())), ((1 : Int), ()))) else ((h46_F (h46_y a0_0 a0_1)).bind fun z39 => some (((h46_o_l0 z39), (([] : List ((Int × List UInt8))), ())), ((0 : Int), ())))) := by kernel_rfl
/-! imprimatur/disk.Crash$1 -/
def h48_y (x0 : Int) (r0_0 : List Bool) : h48_I.den := ((x0, ((), ())), ((r0_0, ()), ()), ())
def h48_o_y (x0 : Bool) (r0_0 : List Bool) : h48_O.den := ((x0, ()), ((r0_0, ()), ()), ())
def h48_o_x0 (z : h48_O.den) : Bool := z.1.1
def h48_o_r0_0 (z : h48_O.den) : List Bool := z.2.1.1.1
@[simp] theorem h48_o_x0_y (x0 : Bool) (r0_0 : List Bool) : h48_o_x0 (h48_o_y x0 r0_0) = x0 := id rfl
@[simp] theorem h48_o_r0_0_y (x0 : Bool) (r0_0 : List Bool) : h48_o_r0_0 (h48_o_y x0 r0_0) = r0_0 := id rfl
theorem h48_eq (x0 : Int) (r0_0 : List Bool) : h48_F (h48_y x0 r0_0) = (bif (decide (x0 < (r0_0.length : Int))) then ((nth r0_0 x0).bind fun y40 => some (h48_o_y y40 r0_0)) else (some (h48_o_y false r0_0))) := by kernel_rfl
/-! imprimatur/disk.safe -/
def h46a_y (x0_0 : List (List UInt8)) (x0_1 : List ((Int × List UInt8))) (r0_0 : List Bool) : h46a_I.den := (((x0_0, (x0_1, ())), (((), ((), ())), ())), ((r0_0, ()), ()), ())
def h46a_o_y (r0_0 : List Bool) (l0 : List (List UInt8)) : h46a_O.den := ((((), ((), ())), ()), ((r0_0, ()), ()), (l0, ()))
def h46a_o_r0_0 (z : h46a_O.den) : List Bool := z.2.1.1.1
def h46a_o_l0 (z : h46a_O.den) : List (List UInt8) := z.2.2.1
@[simp] theorem h46a_o_r0_0_y (r0_0 : List Bool) (l0 : List (List UInt8)) : h46a_o_r0_0 (h46a_o_y r0_0 l0) = r0_0 := id rfl
@[simp] theorem h46a_o_l0_y (r0_0 : List Bool) (l0 : List (List UInt8)) : h46a_o_l0 (h46a_o_y r0_0 l0) = l0 := id rfl
def h46a_p0_y (x12 : List ((Int × List UInt8))) (x13 : Int) (x14 : Int) (r0_0 : List Bool) (l0 : List (List UInt8)) : h46a_p0_sh.den := (((), (((), ((), ())), ((), ((), ((), ((), ((), ((), ((), ((), ((), ((), (x12, (x13, (x14, ((), ((), ((), ((), ((), ((), ((), ((), ((), ((), ((), ((), ((), ((), ((), ((), ()))))))))))))))))))))))))))))))), ((r0_0, ()), (((), ((), ())), ())), (l0, ()))
def h46a_p0_o0_y (x12 : List ((Int × List UInt8))) (x13 : Int) (x14 : Int) (r0_0 : List Bool) (l0 : List (List UInt8)) : h46a_p0_o0.den := (((), (((), ((), ())), ((), ((), ((), ((), ((), ((), ((), ((), ((), ((), (x12, (x13, (x14, ((), ((), ((), ((), ((), ((), ((), ((), ((), ((), ((), ((), ((), ((), ((), ((), ()))))))))))))))))))))))))))))))), ((r0_0, ()), (((), ((), ())), ())), (l0, ()))
def h46a_p0_o0_x12 (z : h46a_p0_o0.den) : List ((Int × List UInt8)) := z.1.2.2.2.2.2.2.2.2.2.2.2.2.1
def h46a_p0_o0_x13 (z : h46a_p0_o0.den) : Int := z.1.2.2.2.2.2.2.2.2.2.2.2.2.2.1
def h46a_p0_o0_x14 (z : h46a_p0_o0.den) : Int := z.1.2.2.2.2.2.2.2.2.2.2.2.2.2.2.1
def h46a_p0_o0_r0_0 (z : h46a_p0_o0.den) : List Bool := z.2.1.1.1
def h46a_p0_o0_l0 (z : h46a_p0_o0.den) : List (List UInt8) := z.2.2.1
@[simp] theorem h46a_p0_o0_x12_y (x12 : List ((Int × List UInt8))) (x13 : Int) (x14 : Int) (r0_0 : List Bool) (l0 : List (List UInt8)) : h46a_p0_o0_x12 (h46a_p0_o0_y x12 x13 x14 r0_0 l0) = x12 := id rfl
@[simp] theorem h46a_p0_o0_x13_y (x12 : List ((Int × List UInt8))) (x13 : Int) (x14 : Int) (r0_0 : List Bool) (l0 : List (List UInt8)) : h46a_p0_o0_x13 (h46a_p0_o0_y x12 x13 x14 r0_0 l0) = x13 := id rfl
@[simp] theorem h46a_p0_o0_x14_y (x12 : List ((Int × List UInt8))) (x13 : Int) (x14 : Int) (r0_0 : List Bool) (l0 : List (List UInt8)) : h46a_p0_o0_x14 (h46a_p0_o0_y x12 x13 x14 r0_0 l0) = x14 := id rfl
@[simp] theorem h46a_p0_o0_r0_0_y (x12 : List ((Int × List UInt8))) (x13 : Int) (x14 : Int) (r0_0 : List Bool) (l0 : List (List UInt8)) : h46a_p0_o0_r0_0 (h46a_p0_o0_y x12 x13 x14 r0_0 l0) = r0_0 := id rfl
@[simp] theorem h46a_p0_o0_l0_y (x12 : List ((Int × List UInt8))) (x13 : Int) (x14 : Int) (r0_0 : List Bool) (l0 : List (List UInt8)) : h46a_p0_o0_l0 (h46a_p0_o0_y x12 x13 x14 r0_0 l0) = l0 := id rfl
theorem h46a_p0_eq (x12 : List ((Int × List UInt8))) (x13 : Int) (x14 : Int) (r0_0 : List Bool) (l0 : List (List UInt8)) : h46a_p0_F (h46a_p0_y x12 x13 x14 r0_0 l0) = ((nth x12 x14).bind fun y41 => (h48_F (h48_y x14 r0_0)).bind fun z42 => bif (h48_o_x0 z42) then (within y41.1 l0.length ((l0[(Int.toNat y41.1)]?).bind fun e43 => some ((h46a_p0_o0_y x12 x13 x14 (h48_o_r0_0 z42) (l0.set (Int.toNat y41.1) y41.2))))) else (some ((h46a_p0_o0_y x12 x13 x14 (h48_o_r0_0 z42) l0)))) := by kernel_rfl
def h46a_p1_y (x12 : List ((Int × List UInt8))) (x13 : Int) (x14 : Int) (r0_0 : List Bool) (l0 : List (List UInt8)) : h46a_p1_sh.den := (((), (((), ((), ())), ((), ((), ((), ((), ((), ((), ((), ((), ((), ((), (x12, (x13, (x14, ((), ((), ((), ((), ((), ((), ((), ((), ((), ((), ((), ((), ((), ((), ((), ((), ()))))))))))))))))))))))))))))))), ((r0_0, ()), (((), ((), ())), ())), (l0, ()))
def h46a_p1_o0_y (r0_0 : List Bool) (l0 : List (List UInt8)) : h46a_p1_o0.den := (((), ((), ((), ((), ((), ((), ((), ((), ((), ((), ((), ((), ((), ((), ((), ((), ((), ((), ((), ((), ((), ((), ((), ((), ((), ((), ((), ((), ((), ((), ((), ()))))))))))))))))))))))))))))))), ((r0_0, ()), (((), ((), ())), ())), (l0, ()))
def h46a_p1_o0_r0_0 (z : h46a_p1_o0.den) : List Bool := z.2.1.1.1
def h46a_p1_o0_l0 (z : h46a_p1_o0.den) : List (List UInt8) := z.2.2.1
@[simp] theorem h46a_p1_o0_r0_0_y (r0_0 : List Bool) (l0 : List (List UInt8)) : h46a_p1_o0_r0_0 (h46a_p1_o0_y r0_0 l0) = r0_0 := id rfl
@[simp] theorem h46a_p1_o0_l0_y (r0_0 : List Bool) (l0 : List (List UInt8)) : h46a_p1_o0_l0 (h46a_p1_o0_y r0_0 l0) = l0 := id rfl
theorem h46a_p1_eq (rec : h46a_p1_sh.den → Option (OutDen h46a_p1_outs)) (x12 : List ((Int × List UInt8))) (x13 : Int) (x14 : Int) (r0_0 : List Bool) (l0 : List (List UInt8)) : h46a_p1_st rec (h46a_p1_y x12 x13 x14 r0_0 l0) = (bif (decide (x14 < x13)) then ((h46a_p0_F (h46a_p0_y x12 x13 x14 r0_0 l0)).bind fun o44 => rec (h46a_p1_y (h46a_p0_o0_x12 o44) (h46a_p0_o0_x13 o44) (IntKind.i64.wrap ((h46a_p0_o0_x14 o44) + (1 : Int))) (h46a_p0_o0_r0_0 o44) (h46a_p0_o0_l0 o44))) else (some ((h46a_p1_o0_y r0_0 l0)))) := by kernel_rfl
theorem h46a_eq (x0_0 : List (List UInt8)) (x0_1 : List ((Int × List UInt8))) (r0_0 : List Bool) : h46a_F (h46a_y x0_0 x0_1 r0_0) = ((h62_F (h62_y x0_0)).bind fun z45 => (go h46a_p1_st (h46a_p1_y x0_1 (x0_1.length : Int) (0 : Int) r0_0 (h62_o_l0 z45))).bind fun o46 => some (h46a_o_y (h46a_p1_o0_r0_0 o46) (h46a_p1_o0_l0 o46))) := by kernel_rfl
/-! imprimatur/disk.Crash -/
theorem f25_eq (a0_0 : List (List UInt8)) (a0_1 : List ((Int × List UInt8))) (a1 : List Bool) : f25_F ((a0_0, (a0_1, ())), (a1, ())) = ((f27_F ((a0_0, (a0_1, ())), ())).bind fun r47 => bif (!r47.1) then (some ((([] : List (List UInt8)), (([] : List ((Int × List UInt8))), ())), ((1 : Int), ()))) else ((h46a_F (h46a_y a0_0 a0_1 a1)).bind fun z48 => some (((h46a_o_l0 z48), (([] : List ((Int × List UInt8))), ())), ((0 : Int), ())))) := by kernel_rfl
/-! imprimatur/imprimaturref17.Like -/
def f26_p0_y (x43 : Int) (x44 : Int) (r0_0 : List (List UInt8)) (r0_1 : List ((Int × List UInt8))) (r1_0 : List (List UInt8)) (r1_1 : List ((Int × List UInt8))) : f26_p0_sh.den := (((), ((), ((), ((), ((), ((), ((), ((), ((), ((), ((), ((), ((), ((), ((), ((), ((), ((), ((), ((), ((), ((), ((), ((), ((), ((), ((), ((), ((), ((), ((), ((), ((), ((), ((), ((), ((), ((), ((), ((), ((), ((), ((), (x43, (x44, ((), ((), ((), ((), ((), ((), ((), ((), ((), ((), ((), ((), ((), ((), ()))))))))))))))))))))))))))))))))))))))))))))))))))))))))))), ((r0_0, (r0_1, ())), ((r1_0, (r1_1, ())), ())), ())
def f26_p0_o0_y : f26_p0_o0.den := (((), ((), ((), ((), ((), ((), ((), ((), ((), ((), ((), ((), ((), ((), ((), ((), ((), ((), ((), ((), ((), ((), ((), ((), ((), ((), ((), ((), ((), ((), ((), ((), ((), ((), ((), ((), ((), ((), ((), ((), ((), ((), ((), ((), ((), ((), ((), ((), ((), ((), ((), ((), ((), ((), ((), ((), ((), ((), ((), ()))))))))))))))))))))))))))))))))))))))))))))))))))))))))))), (), ())
def f26_p0_o1_y (x4 : Bool) : f26_p0_o1.den := (((), ((), ((), ((), (x4, ((), ((), ((), ((), ((), ((), ((), ((), ((), ((), ((), ((), ((), ((), ((), ((), ((), ((), ((), ((), ((), ((), ((), ((), ((), ((), ((), ((), ((), ((), ((), ((), ((), ((), ((), ((), ((), ((), ((), ((), ((), ((), ((), ((), ((), ((), ((), ((), ((), ((), ((), ((), ((), ((), ()))))))))))))))))))))))))))))))))))))))))))))))))))))))))))), (), ())
def f26_p0_o1_x4 (z : f26_p0_o1.den) : Bool := z.1.2.2.2.2.1
@[simp] theorem f26_p0_o1_x4_y (x4 : Bool) : f26_p0_o1_x4 (f26_p0_o1_y x4) = x4 := id rfl
theorem f26_p0_eq (rec : f26_p0_sh.den → Option (OutDen f26_p0_outs)) (x43 : Int) (x44 : Int) (r0_0 : List (List UInt8)) (r0_1 : List ((Int × List UInt8))) (r1_0 : List (List UInt8)) (r1_1 : List ((Int × List UInt8))) : f26_p0_st rec (f26_p0_y x43 x44 r0_0 r0_1 r1_0 r1_1) = (bif (decide (x44 < x43)) then ((nth r0_1 x44).bind fun y49 => (nth r1_1 x44).bind fun y50 => bif (!((y49.1 == y50.1) && (y49.2 == y50.2))) then (some (.inr ((f26_p0_o1_y false)))) else (rec (f26_p0_y x43 (IntKind.i64.wrap (x44 + (1 : Int))) r0_0 r0_1 r1_0 r1_1))) else (some (.inl f26_p0_o0_y))) := by kernel_rfl
def f26_p1_y (x25 : Int) (x26 : Int) (r0_0 : List (List UInt8)) (r0_1 : List ((Int × List UInt8))) (r1_0 : List (List UInt8)) (r1_1 : List ((Int × List UInt8))) : f26_p1_sh.den := (((), ((), ((), ((), ((), ((), ((), ((), ((), ((), ((), ((), ((), ((), ((), ((), ((), ((), ((), ((), ((), ((), ((), ((), ((), (x25, (x26, ((), ((), ((), ((), ((), ((), ((), ((), ((), ((), ((), ((), ((), ((), ((), ((), ((), ((), ((), ((), ((), ((), ((), ((), ((), ((), ((), ((), ((), ((), ((), ((), ()))))))))))))))))))))))))))))))))))))))))))))))))))))))))))), ((r0_0, (r0_1, ())), ((r1_0, (r1_1, ())), ())), ())
def f26_p1_o0_y (r0_0 : List (List UInt8)) (r0_1 : List ((Int × List UInt8))) (r1_0 : List (List UInt8)) (r1_1 : List ((Int × List UInt8))) : f26_p1_o0.den := (((), ((), ((), ((), ((), ((), ((), ((), ((), ((), ((), ((), ((), ((), ((), ((), ((), ((), ((), ((), ((), ((), ((), ((), ((), ((), ((), ((), ((), ((), ((), ((), ((), ((), ((), ((), ((), ((), ((), ((), ((), ((), ((), ((), ((), ((), ((), ((), ((), ((), ((), ((), ((), ((), ((), ((), ((), ((), ((), ()))))))))))))))))))))))))))))))))))))))))))))))))))))))))))), ((r0_0, (r0_1, ())), ((r1_0, (r1_1, ())), ())), ())
def f26_p1_o0_r0_0 (z : f26_p1_o0.den) : List (List UInt8) := z.2.1.1.1
def f26_p1_o0_r0_1 (z : f26_p1_o0.den) : List ((Int × List UInt8)) := z.2.1.1.2.1
def f26_p1_o0_r1_0 (z : f26_p1_o0.den) : List (List UInt8) := z.2.1.2.1.1
def f26_p1_o0_r1_1 (z : f26_p1_o0.den) : List ((Int × List UInt8)) := z.2.1.2.1.2.1
@[simp] theorem f26_p1_o0_r0_0_y (r0_0 : List (List UInt8)) (r0_1 : List ((Int × List UInt8))) (r1_0 : List (List UInt8)) (r1_1 : List ((Int × List UInt8))) : f26_p1_o0_r0_0 (f26_p1_o0_y r0_0 r0_1 r1_0 r1_1) = r0_0 := id rfl
@[simp] theorem f26_p1_o0_r0_1_y (r0_0 : List (List UInt8)) (r0_1 : List ((Int × List UInt8))) (r1_0 : List (List UInt8)) (r1_1 : List ((Int × List UInt8))) : f26_p1_o0_r0_1 (f26_p1_o0_y r0_0 r0_1 r1_0 r1_1) = r0_1 := id rfl
@[simp] theorem f26_p1_o0_r1_0_y (r0_0 : List (List UInt8)) (r0_1 : List ((Int × List UInt8))) (r1_0 : List (List UInt8)) (r1_1 : List ((Int × List UInt8))) : f26_p1_o0_r1_0 (f26_p1_o0_y r0_0 r0_1 r1_0 r1_1) = r1_0 := id rfl
@[simp] theorem f26_p1_o0_r1_1_y (r0_0 : List (List UInt8)) (r0_1 : List ((Int × List UInt8))) (r1_0 : List (List UInt8)) (r1_1 : List ((Int × List UInt8))) : f26_p1_o0_r1_1 (f26_p1_o0_y r0_0 r0_1 r1_0 r1_1) = r1_1 := id rfl
def f26_p1_o1_y (x4 : Bool) : f26_p1_o1.den := (((), ((), ((), ((), (x4, ((), ((), ((), ((), ((), ((), ((), ((), ((), ((), ((), ((), ((), ((), ((), ((), ((), ((), ((), ((), ((), ((), ((), ((), ((), ((), ((), ((), ((), ((), ((), ((), ((), ((), ((), ((), ((), ((), ((), ((), ((), ((), ((), ((), ((), ((), ((), ((), ((), ((), ((), ((), ((), ((), ()))))))))))))))))))))))))))))))))))))))))))))))))))))))))))), (), ())
def f26_p1_o1_x4 (z : f26_p1_o1.den) : Bool := z.1.2.2.2.2.1
@[simp] theorem f26_p1_o1_x4_y (x4 : Bool) : f26_p1_o1_x4 (f26_p1_o1_y x4) = x4 := id rfl
theorem f26_p1_eq (rec : f26_p1_sh.den → Option (OutDen f26_p1_outs)) (x25 : Int) (x26 : Int) (r0_0 : List (List UInt8)) (r0_1 : List ((Int × List UInt8))) (r1_0 : List (List UInt8)) (r1_1 : List ((Int × List UInt8))) : f26_p1_st rec (f26_p1_y x25 x26 r0_0 r0_1 r1_0 r1_1) = (bif (decide (x26 < x25)) then ((nth r0_0 x26).bind fun y51 => (nth r1_0 x26).bind fun y52 => bif (y51 != y52) then (some (.inr ((f26_p1_o1_y false)))) else (rec (f26_p1_y x25 (IntKind.i64.wrap (x26 + (1 : Int))) r0_0 r0_1 r1_0 r1_1))) else (some (.inl (f26_p1_o0_y r0_0 r0_1 r1_0 r1_1)))) := by kernel_rfl
def f26_p2_y (r0_0 : List (List UInt8)) (r0_1 : List ((Int × List UInt8))) (r1_0 : List (List UInt8)) (r1_1 : List ((Int × List UInt8))) : f26_p2_sh.den := (((), ((), ((), ((), ((), ((), ((), ((), ((), ((), ((), ((), ((), ((), ((), ((), ((), ((), ((), ((), ((), ((), ((), ((), ((), ((), ((), ((), ((), ((), ((), ((), ((), ((), ((), ((), ((), ((), ((), ((), ((), ((), ((), ((), ((), ((), ((), ((), ((), ((), ((), ((), ((), ((), ((), ((), ((), ((), ((), ()))))))))))))))))))))))))))))))))))))))))))))))))))))))))))), ((r0_0, (r0_1, ())), ((r1_0, (r1_1, ())), ())), ())
def f26_p2_o0_y (x22 : Bool) (r0_0 : List (List UInt8)) (r0_1 : List ((Int × List UInt8))) (r1_0 : List (List UInt8)) (r1_1 : List ((Int × List UInt8))) : f26_p2_o0.den := (((), ((), ((), ((), ((), ((), ((), ((), ((), ((), ((), ((), ((), ((), ((), ((), ((), ((), ((), ((), ((), ((), (x22, ((), ((), ((), ((), ((), ((), ((), ((), ((), ((), ((), ((), ((), ((), ((), ((), ((), ((), ((), ((), ((), ((), ((), ((), ((), ((), ((), ((), ((), ((), ((), ((), ((), ((), ((), ((), ()))))))))))))))))))))))))))))))))))))))))))))))))))))))))))), ((r0_0, (r0_1, ())), ((r1_0, (r1_1, ())), ())), ())
def f26_p2_o0_x22 (z : f26_p2_o0.den) : Bool := z.1.2.2.2.2.2.2.2.2.2.2.2.2.2.2.2.2.2.2.2.2.2.2.1
def f26_p2_o0_r0_0 (z : f26_p2_o0.den) : List (List UInt8) := z.2.1.1.1
def f26_p2_o0_r0_1 (z : f26_p2_o0.den) : List ((Int × List UInt8)) := z.2.1.1.2.1
def f26_p2_o0_r1_0 (z : f26_p2_o0.den) : List (List UInt8) := z.2.1.2.1.1
def f26_p2_o0_r1_1 (z : f26_p2_o0.den) : List ((Int × List UInt8)) := z.2.1.2.1.2.1
@[simp] theorem f26_p2_o0_x22_y (x22 : Bool) (r0_0 : List (List UInt8)) (r0_1 : List ((Int × List UInt8))) (r1_0 : List (List UInt8)) (r1_1 : List ((Int × List UInt8))) : f26_p2_o0_x22 (f26_p2_o0_y x22 r0_0 r0_1 r1_0 r1_1) = x22 := id rfl
@[simp] theorem f26_p2_o0_r0_0_y (x22 : Bool) (r0_0 : List (List UInt8)) (r0_1 : List ((Int × List UInt8))) (r1_0 : List (List UInt8)) (r1_1 : List ((Int × List UInt8))) : f26_p2_o0_r0_0 (f26_p2_o0_y x22 r0_0 r0_1 r1_0 r1_1) = r0_0 := id rfl
@[simp] theorem f26_p2_o0_r0_1_y (x22 : Bool) (r0_0 : List (List UInt8)) (r0_1 : List ((Int × List UInt8))) (r1_0 : List (List UInt8)) (r1_1 : List ((Int × List UInt8))) : f26_p2_o0_r0_1 (f26_p2_o0_y x22 r0_0 r0_1 r1_0 r1_1) = r0_1 := id rfl
@[simp] theorem f26_p2_o0_r1_0_y (x22 : Bool) (r0_0 : List (List UInt8)) (r0_1 : List ((Int × List UInt8))) (r1_0 : List (List UInt8)) (r1_1 : List ((Int × List UInt8))) : f26_p2_o0_r1_0 (f26_p2_o0_y x22 r0_0 r0_1 r1_0 r1_1) = r1_0 := id rfl
@[simp] theorem f26_p2_o0_r1_1_y (x22 : Bool) (r0_0 : List (List UInt8)) (r0_1 : List ((Int × List UInt8))) (r1_0 : List (List UInt8)) (r1_1 : List ((Int × List UInt8))) : f26_p2_o0_r1_1 (f26_p2_o0_y x22 r0_0 r0_1 r1_0 r1_1) = r1_1 := id rfl
theorem f26_p2_eq (r0_0 : List (List UInt8)) (r0_1 : List ((Int × List UInt8))) (r1_0 : List (List UInt8)) (r1_1 : List ((Int × List UInt8))) : f26_p2_F (f26_p2_y r0_0 r0_1 r1_0 r1_1) = (bif ((r0_0.length : Int) != (r1_0.length : Int)) then (some ((f26_p2_o0_y true r0_0 r0_1 r1_0 r1_1))) else (some ((f26_p2_o0_y ((r0_1.length : Int) != (r1_1.length : Int)) r0_0 r0_1 r1_0 r1_1)))) := by kernel_rfl
theorem f26_eq (a0_0 : List (List UInt8)) (a0_1 : List ((Int × List UInt8))) (a1_0 : List (List UInt8)) (a1_1 : List ((Int × List UInt8))) : f26_F ((a0_0, (a0_1, ())), ((a1_0, (a1_1, ())), ())) = ((f26_p2_F (f26_p2_y a0_0 a0_1 a1_0 a1_1)).bind fun o53 => bif (f26_p2_o0_x22 o53) then (some (false, ())) else ((go f26_p1_st (f26_p1_y ((f26_p2_o0_r0_0 o53).length : Int) (0 : Int) (f26_p2_o0_r0_0 o53) (f26_p2_o0_r0_1 o53) (f26_p2_o0_r1_0 o53) (f26_p2_o0_r1_1 o53))).bind fun o54 => (match o54 with | .inl z55 => (go f26_p0_st (f26_p0_y ((f26_p1_o0_r0_1 z55).length : Int) (0 : Int) (f26_p1_o0_r0_0 z55) (f26_p1_o0_r0_1 z55) (f26_p1_o0_r1_0 z55) (f26_p1_o0_r1_1 z55))).bind fun o57 => (match o57 with | .inl z58 => some (true, ()) | .inr o59 => some ((f26_p0_o1_x4 o59), ())) | .inr o56 => some ((f26_p1_o1_x4 o56), ())))) := by kernel_rfl
/-! imprimatur/imprimaturlaw17.sector -/
theorem f21_eq (a0 : Int) : f21_F (a0, ()) = ((repeatF ((strOf [a0]), ((128 : Int), ()))).bind fun r60 => some (r60.1, ())) := by kernel_rfl
/-! imprimatur/imprimaturref17.Right -/
def f18_p0_y (x35 : List ((Int × List UInt8))) (x36 : Int) (x37 : Int) (r0_0 : List (List UInt8)) (r0_1 : List ((Int × List UInt8))) (r1_0 : Int) (r1_1 : List UInt8) : f18_p0_sh.den := (((), ((), ((), ((), ((), ((), ((), ((), ((), ((), ((), ((), ((), ((), ((), ((), ((), ((), ((), ((), ((), ((), ((), ((), ((), ((), ((), ((), ((), ((), ((), ((), ((), ((), ((), (x35, (x36, (x37, ((), ((), ((), ((), ((), ((), ((), ((), ((), ((), ((), ((), ((), ((), ((), ((), ((), ((), ((), ((), ((), ()))))))))))))))))))))))))))))))))))))))))))))))))))))))))))), ((r0_0, (r0_1, ())), ((r1_0, (r1_1, ())), ())), ())
def f18_p0_o0_y (x35 : List ((Int × List UInt8))) (x36 : Int) (x37 : Int) (x57 : Bool) (r0_0 : List (List UInt8)) (r0_1 : List ((Int × List UInt8))) : f18_p0_o0.den := (((), ((), ((), ((), ((), ((), ((), ((), ((), ((), ((), ((), ((), ((), ((), ((), ((), ((), ((), ((), ((), ((), ((), ((), ((), ((), ((), ((), ((), ((), ((), ((), ((), ((), ((), (x35, (x36, (x37, ((), ((), ((), ((), ((), ((), ((), ((), ((), ((), ((), ((), ((), ((), ((), ((), ((), ((), ((), (x57, ((), ()))))))))))))))))))))))))))))))))))))))))))))))))))))))))))), ((r0_0, (r0_1, ())), ()), ())
def f18_p0_o0_x35 (z : f18_p0_o0.den) : List ((Int × List UInt8)) := z.1.2.2.2.2.2.2.2.2.2.2.2.2.2.2.2.2.2.2.2.2.2.2.2.2.2.2.2.2.2.2.2.2.2.2.2.1
def f18_p0_o0_x36 (z : f18_p0_o0.den) : Int := z.1.2.2.2.2.2.2.2.2.2.2.2.2.2.2.2.2.2.2.2.2.2.2.2.2.2.2.2.2.2.2.2.2.2.2.2.2.1
def f18_p0_o0_x37 (z : f18_p0_o0.den) : Int := z.1.2.2.2.2.2.2.2.2.2.2.2.2.2.2.2.2.2.2.2.2.2.2.2.2.2.2.2.2.2.2.2.2.2.2.2.2.2.1
def f18_p0_o0_x57 (z : f18_p0_o0.den) : Bool := z.1.2.2.2.2.2.2.2.2.2.2.2.2.2.2.2.2.2.2.2.2.2.2.2.2.2.2.2.2.2.2.2.2.2.2.2.2.2.2.2.2.2.2.2.2.2.2.2.2.2.2.2.2.2.2.2.2.2.1
def f18_p0_o0_r0_0 (z : f18_p0_o0.den) : List (List UInt8) := z.2.1.1.1
def f18_p0_o0_r0_1 (z : f18_p0_o0.den) : List ((Int × List UInt8)) := z.2.1.1.2.1
@[simp] theorem f18_p0_o0_x35_y (x35 : List ((Int × List UInt8))) (x36 : Int) (x37 : Int) (x57 : Bool) (r0_0 : List (List UInt8)) (r0_1 : List ((Int × List UInt8))) : f18_p0_o0_x35 (f18_p0_o0_y x35 x36 x37 x57 r0_0 r0_1) = x35 := id rfl
@[simp] theorem f18_p0_o0_x36_y (x35 : List ((Int × List UInt8))) (x36 : Int) (x37 : Int) (x57 : Bool) (r0_0 : List (List UInt8)) (r0_1 : List ((Int × List UInt8))) : f18_p0_o0_x36 (f18_p0_o0_y x35 x36 x37 x57 r0_0 r0_1) = x36 := id rfl
@[simp] theorem f18_p0_o0_x37_y (x35 : List ((Int × List UInt8))) (x36 : Int) (x37 : Int) (x57 : Bool) (r0_0 : List (List UInt8)) (r0_1 : List ((Int × List UInt8))) : f18_p0_o0_x37 (f18_p0_o0_y x35 x36 x37 x57 r0_0 r0_1) = x37 := id rfl
@[simp] theorem f18_p0_o0_x57_y (x35 : List ((Int × List UInt8))) (x36 : Int) (x37 : Int) (x57 : Bool) (r0_0 : List (List UInt8)) (r0_1 : List ((Int × List UInt8))) : f18_p0_o0_x57 (f18_p0_o0_y x35 x36 x37 x57 r0_0 r0_1) = x57 := id rfl
@[simp] theorem f18_p0_o0_r0_0_y (x35 : List ((Int × List UInt8))) (x36 : Int) (x37 : Int) (x57 : Bool) (r0_0 : List (List UInt8)) (r0_1 : List ((Int × List UInt8))) : f18_p0_o0_r0_0 (f18_p0_o0_y x35 x36 x37 x57 r0_0 r0_1) = r0_0 := id rfl
@[simp] theorem f18_p0_o0_r0_1_y (x35 : List ((Int × List UInt8))) (x36 : Int) (x37 : Int) (x57 : Bool) (r0_0 : List (List UInt8)) (r0_1 : List ((Int × List UInt8))) : f18_p0_o0_r0_1 (f18_p0_o0_y x35 x36 x37 x57 r0_0 r0_1) = r0_1 := id rfl
theorem f18_p0_eq (x35 : List ((Int × List UInt8))) (x36 : Int) (x37 : Int) (r0_0 : List (List UInt8)) (r0_1 : List ((Int × List UInt8))) (r1_0 : Int) (r1_1 : List UInt8) : f18_p0_F (f18_p0_y x35 x36 x37 r0_0 r0_1 r1_0 r1_1) = (bif (decide (r1_0 < (0 : Int))) then (some ((f18_p0_o0_y x35 x36 x37 true r0_0 r0_1))) else (bif (decide (r1_0 ≥ (r0_0.length : Int))) then (some ((f18_p0_o0_y x35 x36 x37 true r0_0 r0_1))) else (some ((f18_p0_o0_y x35 x36 x37 ((r1_1.length : Int) != (128 : Int)) r0_0 r0_1))))) := by kernel_rfl
def f18_p1_y (x35 : List ((Int × List UInt8))) (x36 : Int) (x37 : Int) (r0_0 : List (List UInt8)) (r0_1 : List ((Int × List UInt8))) : f18_p1_sh.den := (((), ((), ((), ((), ((), ((), ((), ((), ((), ((), ((), ((), ((), ((), ((), ((), ((), ((), ((), ((), ((), ((), ((), ((), ((), ((), ((), ((), ((), ((), ((), ((), ((), ((), ((), (x35, (x36, (x37, ((), ((), ((), ((), ((), ((), ((), ((), ((), ((), ((), ((), ((), ((), ((), ((), ((), ((), ((), ((), ((), ()))))))))))))))))))))))))))))))))))))))))))))))))))))))))))), ((r0_0, (r0_1, ())), ()), ())
def f18_p1_o0_y : f18_p1_o0.den := (((), ((), ((), ((), ((), ((), ((), ((), ((), ((), ((), ((), ((), ((), ((), ((), ((), ((), ((), ((), ((), ((), ((), ((), ((), ((), ((), ((), ((), ((), ((), ((), ((), ((), ((), ((), ((), ((), ((), ((), ((), ((), ((), ((), ((), ((), ((), ((), ((), ((), ((), ((), ((), ((), ((), ((), ((), ((), ((), ()))))))))))))))))))))))))))))))))))))))))))))))))))))))))))), (), ())
def f18_p1_o1_y (x2 : Bool) : f18_p1_o1.den := (((), ((), (x2, ((), ((), ((), ((), ((), ((), ((), ((), ((), ((), ((), ((), ((), ((), ((), ((), ((), ((), ((), ((), ((), ((), ((), ((), ((), ((), ((), ((), ((), ((), ((), ((), ((), ((), ((), ((), ((), ((), ((), ((), ((), ((), ((), ((), ((), ((), ((), ((), ((), ((), ((), ((), ((), ((), ((), ((), ()))))))))))))))))))))))))))))))))))))))))))))))))))))))))))), (), ())
def f18_p1_o1_x2 (z : f18_p1_o1.den) : Bool := z.1.2.2.1
@[simp] theorem f18_p1_o1_x2_y (x2 : Bool) : f18_p1_o1_x2 (f18_p1_o1_y x2) = x2 := id rfl
theorem f18_p1_eq (rec : f18_p1_sh.den → Option (OutDen f18_p1_outs)) (x35 : List ((Int × List UInt8))) (x36 : Int) (x37 : Int) (r0_0 : List (List UInt8)) (r0_1 : List ((Int × List UInt8))) : f18_p1_st rec (f18_p1_y x35 x36 x37 r0_0 r0_1) = (bif (decide (x37 < x36)) then ((nth x35 x37).bind fun y61 => (f18_p0_F (f18_p0_y x35 x36 x37 r0_0 r0_1 y61.1 y61.2)).bind fun o62 => bif (f18_p0_o0_x57 o62) then (some (.inr ((f18_p1_o1_y false)))) else (rec (f18_p1_y (f18_p0_o0_x35 o62) (f18_p0_o0_x36 o62) (IntKind.i64.wrap ((f18_p0_o0_x37 o62) + (1 : Int))) (f18_p0_o0_r0_0 o62) (f18_p0_o0_r0_1 o62)))) else (some (.inl f18_p1_o0_y))) := by kernel_rfl
def f18_p2_y (x24 : List (List UInt8)) (x25 : Int) (x26 : Int) (r0_0 : List (List UInt8)) (r0_1 : List ((Int × List UInt8))) : f18_p2_sh.den := (((), ((), ((), ((), ((), ((), ((), ((), ((), ((), ((), ((), ((), ((), ((), ((), ((), ((), ((), ((), ((), ((), ((), ((), (x24, (x25, (x26, ((), ((), ((), ((), ((), ((), ((), ((), ((), ((), ((), ((), ((), ((), ((), ((), ((), ((), ((), ((), ((), ((), ((), ((), ((), ((), ((), ((), ((), ((), ((), ((), ()))))))))))))))))))))))))))))))))))))))))))))))))))))))))))), ((r0_0, (r0_1, ())), ()), ())
def f18_p2_o0_y (r0_0 : List (List UInt8)) (r0_1 : List ((Int × List UInt8))) : f18_p2_o0.den := (((), ((), ((), ((), ((), ((), ((), ((), ((), ((), ((), ((), ((), ((), ((), ((), ((), ((), ((), ((), ((), ((), ((), ((), ((), ((), ((), ((), ((), ((), ((), ((), ((), ((), ((), ((), ((), ((), ((), ((), ((), ((), ((), ((), ((), ((), ((), ((), ((), ((), ((), ((), ((), ((), ((), ((), ((), ((), ((), ()))))))))))))))))))))))))))))))))))))))))))))))))))))))))))), ((r0_0, (r0_1, ())), ()), ())
def f18_p2_o0_r0_0 (z : f18_p2_o0.den) : List (List UInt8) := z.2.1.1.1
def f18_p2_o0_r0_1 (z : f18_p2_o0.den) : List ((Int × List UInt8)) := z.2.1.1.2.1
@[simp] theorem f18_p2_o0_r0_0_y (r0_0 : List (List UInt8)) (r0_1 : List ((Int × List UInt8))) : f18_p2_o0_r0_0 (f18_p2_o0_y r0_0 r0_1) = r0_0 := id rfl
@[simp] theorem f18_p2_o0_r0_1_y (r0_0 : List (List UInt8)) (r0_1 : List ((Int × List UInt8))) : f18_p2_o0_r0_1 (f18_p2_o0_y r0_0 r0_1) = r0_1 := id rfl
def f18_p2_o1_y (x2 : Bool) : f18_p2_o1.den := (((), ((), (x2, ((), ((), ((), ((), ((), ((), ((), ((), ((), ((), ((), ((), ((), ((), ((), ((), ((), ((), ((), ((), ((), ((), ((), ((), ((), ((), ((), ((), ((), ((), ((), ((), ((), ((), ((), ((), ((), ((), ((), ((), ((), ((), ((), ((), ((), ((), ((), ((), ((), ((), ((), ((), ((), ((), ((), ((), ()))))))))))))))))))))))))))))))))))))))))))))))))))))))))))), (), ())
def f18_p2_o1_x2 (z : f18_p2_o1.den) : Bool := z.1.2.2.1
@[simp] theorem f18_p2_o1_x2_y (x2 : Bool) : f18_p2_o1_x2 (f18_p2_o1_y x2) = x2 := id rfl
theorem f18_p2_eq (rec : f18_p2_sh.den → Option (OutDen f18_p2_outs)) (x24 : List (List UInt8)) (x25 : Int) (x26 : Int) (r0_0 : List (List UInt8)) (r0_1 : List ((Int × List UInt8))) : f18_p2_st rec (f18_p2_y x24 x25 x26 r0_0 r0_1) = (bif (decide (x26 < x25)) then ((nth x24 x26).bind fun y63 => bif ((y63.length : Int) != (128 : Int)) then (some (.inr ((f18_p2_o1_y false)))) else (rec (f18_p2_y x24 x25 (IntKind.i64.wrap (x26 + (1 : Int))) r0_0 r0_1))) else (some (.inl (f18_p2_o0_y r0_0 r0_1)))) := by kernel_rfl
def f18_p3_y (r0_0 : List (List UInt8)) (r0_1 : List ((Int × List UInt8))) : f18_p3_sh.den := (((), ((), ((), ((), ((), ((), ((), ((), ((), ((), ((), ((), ((), ((), ((), ((), ((), ((), ((), ((), ((), ((), ((), ((), ((), ((), ((), ((), ((), ((), ((), ((), ((), ((), ((), ((), ((), ((), ((), ((), ((), ((), ((), ((), ((), ((), ((), ((), ((), ((), ((), ((), ((), ((), ((), ((), ((), ((), ((), ()))))))))))))))))))))))))))))))))))))))))))))))))))))))))))), ((r0_0, (r0_1, ())), ()), ())
def f18_p3_o0_y (x22 : Bool) (r0_0 : List (List UInt8)) (r0_1 : List ((Int × List UInt8))) : f18_p3_o0.den := (((), ((), ((), ((), ((), ((), ((), ((), ((), ((), ((), ((), ((), ((), ((), ((), ((), ((), ((), ((), ((), ((), (x22, ((), ((), ((), ((), ((), ((), ((), ((), ((), ((), ((), ((), ((), ((), ((), ((), ((), ((), ((), ((), ((), ((), ((), ((), ((), ((), ((), ((), ((), ((), ((), ((), ((), ((), ((), ((), ()))))))))))))))))))))))))))))))))))))))))))))))))))))))))))), ((r0_0, (r0_1, ())), ()), ())
def f18_p3_o0_x22 (z : f18_p3_o0.den) : Bool := z.1.2.2.2.2.2.2.2.2.2.2.2.2.2.2.2.2.2.2.2.2.2.2.1
def f18_p3_o0_r0_0 (z : f18_p3_o0.den) : List (List UInt8) := z.2.1.1.1
def f18_p3_o0_r0_1 (z : f18_p3_o0.den) : List ((Int × List UInt8)) := z.2.1.1.2.1
@[simp] theorem f18_p3_o0_x22_y (x22 : Bool) (r0_0 : List (List UInt8)) (r0_1 : List ((Int × List UInt8))) : f18_p3_o0_x22 (f18_p3_o0_y x22 r0_0 r0_1) = x22 := id rfl
@[simp] theorem f18_p3_o0_r0_0_y (x22 : Bool) (r0_0 : List (List UInt8)) (r0_1 : List ((Int × List UInt8))) : f18_p3_o0_r0_0 (f18_p3_o0_y x22 r0_0 r0_1) = r0_0 := id rfl
@[simp] theorem f18_p3_o0_r0_1_y (x22 : Bool) (r0_0 : List (List UInt8)) (r0_1 : List ((Int × List UInt8))) : f18_p3_o0_r0_1 (f18_p3_o0_y x22 r0_0 r0_1) = r0_1 := id rfl
theorem f18_p3_eq (r0_0 : List (List UInt8)) (r0_1 : List ((Int × List UInt8))) : f18_p3_F (f18_p3_y r0_0 r0_1) = (bif (decide ((r0_0.length : Int) < (4 : Int))) then (some ((f18_p3_o0_y true r0_0 r0_1))) else (bif (decide ((r0_0.length : Int) > (64 : Int))) then (some ((f18_p3_o0_y true r0_0 r0_1))) else (some ((f18_p3_o0_y (decide ((r0_1.length : Int) > (200 : Int))) r0_0 r0_1))))) := by kernel_rfl
theorem f18_eq (a0_0 : List (List UInt8)) (a0_1 : List ((Int × List UInt8))) : f18_F ((a0_0, (a0_1, ())), ()) = ((f18_p3_F (f18_p3_y a0_0 a0_1)).bind fun o64 => bif (f18_p3_o0_x22 o64) then (some (false, ())) else ((go f18_p2_st (f18_p2_y (f18_p3_o0_r0_0 o64) ((f18_p3_o0_r0_0 o64).length : Int) (0 : Int) (f18_p3_o0_r0_0 o64) (f18_p3_o0_r0_1 o64))).bind fun o65 => (match o65 with | .inl z66 => (go f18_p1_st (f18_p1_y (f18_p2_o0_r0_1 z66) ((f18_p2_o0_r0_1 z66).length : Int) (0 : Int) (f18_p2_o0_r0_0 z66) (f18_p2_o0_r0_1 z66))).bind fun o68 => (match o68 with | .inl z69 => some (true, ()) | .inr o70 => some ((f18_p1_o1_x2 o70), ())) | .inr o67 => some ((f18_p2_o1_x2 o67), ())))) := by kernel_rfl
/-! imprimatur/imprimaturlaw17.alive -/
theorem f19_eq : f19_F () = ((f23_F ((4 : Int), ())).bind fun r71 => (f21_F ((120 : Int), ())).bind fun r72 => (f20_F ((r71.1.1, (r71.1.2.1, ())), ((1 : Int), (r72.1, ())))).bind fun r73 => (f22_F ((r73.1.1, (r73.1.2.1, ())), ((1 : Int), ()))).bind fun r74 => bif (r71.2.1 == (0 : Int)) then (bif (r73.2.1 == (0 : Int)) then (bif (r74.2.1 == (0 : Int)) then ((f21_F ((120 : Int), ())).bind fun r75 => bif (r74.1 == r75.1) then ((f27_F ((r73.1.1, (r73.1.2.1, ())), ())).bind fun r76 => some (r76.1, ())) else (some (false, ()))) else (some (false, ()))) else (some (false, ()))) else (some (false, ()))) := by rw [f19_Fe]; kernel_rfl
/-! imprimatur/imprimaturref17.Stands -/
def f28_p0_y (x1 : Int) (x5 : List UInt8) (x14 : List ((Int × List UInt8))) (x15 : Int) (x16 : Int) : f28_p0_sh.den := (((), (x1, ((), ((), ((), (x5, ((), ((), ((), ((), ((), ((), ((), ((), (x14, (x15, (x16, ((), ((), ((), ((), ((), ((), ((), ((), ((), ((), ((), ())))))))))))))))))))))))))))), (), ())
def f28_p0_o0_y (x1 : Int) (x5 : List UInt8) (x14 : List ((Int × List UInt8))) (x15 : Int) (x16 : Int) : f28_p0_o0.den := (((), (x1, ((), ((), ((), (x5, ((), ((), ((), ((), ((), ((), ((), ((), (x14, (x15, (x16, ((), ((), ((), ((), ((), ((), ((), ((), ((), ((), ((), ())))))))))))))))))))))))))))), (), ())
def f28_p0_o0_x1 (z : f28_p0_o0.den) : Int := z.1.2.1
def f28_p0_o0_x5 (z : f28_p0_o0.den) : List UInt8 := z.1.2.2.2.2.2.1
def f28_p0_o0_x14 (z : f28_p0_o0.den) : List ((Int × List UInt8)) := z.1.2.2.2.2.2.2.2.2.2.2.2.2.2.2.1
def f28_p0_o0_x15 (z : f28_p0_o0.den) : Int := z.1.2.2.2.2.2.2.2.2.2.2.2.2.2.2.2.1
def f28_p0_o0_x16 (z : f28_p0_o0.den) : Int := z.1.2.2.2.2.2.2.2.2.2.2.2.2.2.2.2.2.1
@[simp] theorem f28_p0_o0_x1_y (x1 : Int) (x5 : List UInt8) (x14 : List ((Int × List UInt8))) (x15 : Int) (x16 : Int) : f28_p0_o0_x1 (f28_p0_o0_y x1 x5 x14 x15 x16) = x1 := id rfl
@[simp] theorem f28_p0_o0_x5_y (x1 : Int) (x5 : List UInt8) (x14 : List ((Int × List UInt8))) (x15 : Int) (x16 : Int) : f28_p0_o0_x5 (f28_p0_o0_y x1 x5 x14 x15 x16) = x5 := id rfl
@[simp] theorem f28_p0_o0_x14_y (x1 : Int) (x5 : List UInt8) (x14 : List ((Int × List UInt8))) (x15 : Int) (x16 : Int) : f28_p0_o0_x14 (f28_p0_o0_y x1 x5 x14 x15 x16) = x14 := id rfl
@[simp] theorem f28_p0_o0_x15_y (x1 : Int) (x5 : List UInt8) (x14 : List ((Int × List UInt8))) (x15 : Int) (x16 : Int) : f28_p0_o0_x15 (f28_p0_o0_y x1 x5 x14 x15 x16) = x15 := id rfl
@[simp] theorem f28_p0_o0_x16_y (x1 : Int) (x5 : List UInt8) (x14 : List ((Int × List UInt8))) (x15 : Int) (x16 : Int) : f28_p0_o0_x16 (f28_p0_o0_y x1 x5 x14 x15 x16) = x16 := id rfl
theorem f28_p0_eq (x1 : Int) (x5 : List UInt8) (x14 : List ((Int × List UInt8))) (x15 : Int) (x16 : Int) : f28_p0_F (f28_p0_y x1 x5 x14 x15 x16) = ((nth x14 x16).bind fun y77 => bif (y77.1 == x1) then (some ((f28_p0_o0_y x1 y77.2 x14 x15 x16))) else (some ((f28_p0_o0_y x1 x5 x14 x15 x16)))) := by kernel_rfl
def f28_p1_y (x1 : Int) (x5 : List UInt8) (x14 : List ((Int × List UInt8))) (x15 : Int) (x16 : Int) : f28_p1_sh.den := (((), (x1, ((), ((), ((), (x5, ((), ((), ((), ((), ((), ((), ((), ((), (x14, (x15, (x16, ((), ((), ((), ((), ((), ((), ((), ((), ((), ((), ((), ())))))))))))))))))))))))))))), (), ())
def f28_p1_o0_y (x5 : List UInt8) : f28_p1_o0.den := (((), ((), ((), ((), ((), (x5, ((), ((), ((), ((), ((), ((), ((), ((), ((), ((), ((), ((), ((), ((), ((), ((), ((), ((), ((), ((), ((), ((), ())))))))))))))))))))))))))))), (), ())
def f28_p1_o0_x5 (z : f28_p1_o0.den) : List UInt8 := z.1.2.2.2.2.2.1
@[simp] theorem f28_p1_o0_x5_y (x5 : List UInt8) : f28_p1_o0_x5 (f28_p1_o0_y x5) = x5 := id rfl
theorem f28_p1_eq (rec : f28_p1_sh.den → Option (OutDen f28_p1_outs)) (x1 : Int) (x5 : List UInt8) (x14 : List ((Int × List UInt8))) (x15 : Int) (x16 : Int) : f28_p1_st rec (f28_p1_y x1 x5 x14 x15 x16) = (bif (decide (x16 < x15)) then ((f28_p0_F (f28_p0_y x1 x5 x14 x15 x16)).bind fun o78 => rec (f28_p1_y (f28_p0_o0_x1 o78) (f28_p0_o0_x5 o78) (f28_p0_o0_x14 o78) (f28_p0_o0_x15 o78) (IntKind.i64.wrap ((f28_p0_o0_x16 o78) + (1 : Int))))) else (some ((f28_p1_o0_y x5)))) := by kernel_rfl
theorem f28_eq (a0_0 : List (List UInt8)) (a0_1 : List ((Int × List UInt8))) (a1 : Int) : f28_F ((a0_0, (a0_1, ())), (a1, ())) = ((nth a0_0 a1).bind fun y79 => (go f28_p1_st (f28_p1_y a1 y79 a0_1 (a0_1.length : Int) (0 : Int))).bind fun o80 => some ((f28_p1_o0_x5 o80), ())) := by kernel_rfl
/-! imprimatur/imprimaturref17.Kept -/
def f29_p0_y (x1 : Int) (x2 : List Bool) (x7 : List UInt8) (x8 : Int) (x16 : List ((Int × List UInt8))) (x17 : Int) (x18 : Int) (r1_0 : Int) (r1_1 : List UInt8) : f29_p0_sh.den := (((), (x1, (x2, ((), ((), ((), ((), (x7, (x8, ((), ((), ((), ((), ((), ((), ((), (x16, (x17, (x18, ((), ((), ((), ((), ((), ((), ((), ((), ((), ((), ((), ((), ((), ((), ((), ((), ((), ((), ((), ((), ((), ((), ((), ((), ()))))))))))))))))))))))))))))))))))))))))))), ((r1_0, (r1_1, ())), ()), ())
def f29_p0_o0_y (x1 : Int) (x2 : List Bool) (x7 : List UInt8) (x16 : List ((Int × List UInt8))) (x17 : Int) (x18 : Int) (x38 : Bool) (r1_0 : Int) (r1_1 : List UInt8) : f29_p0_o0.den := (((), (x1, (x2, ((), ((), ((), ((), (x7, ((), ((), ((), ((), ((), ((), ((), ((), (x16, (x17, (x18, ((), ((), ((), ((), ((), ((), ((), ((), ((), ((), ((), ((), ((), ((), ((), ((), ((), ((), ((), (x38, ((), ((), ((), ((), ()))))))))))))))))))))))))))))))))))))))))))), ((r1_0, (r1_1, ())), ()), ())
def f29_p0_o0_x1 (z : f29_p0_o0.den) : Int := z.1.2.1
def f29_p0_o0_x2 (z : f29_p0_o0.den) : List Bool := z.1.2.2.1
def f29_p0_o0_x7 (z : f29_p0_o0.den) : List UInt8 := z.1.2.2.2.2.2.2.2.1
def f29_p0_o0_x16 (z : f29_p0_o0.den) : List ((Int × List UInt8)) := z.1.2.2.2.2.2.2.2.2.2.2.2.2.2.2.2.2.1
def f29_p0_o0_x17 (z : f29_p0_o0.den) : Int := z.1.2.2.2.2.2.2.2.2.2.2.2.2.2.2.2.2.2.1
def f29_p0_o0_x18 (z : f29_p0_o0.den) : Int := z.1.2.2.2.2.2.2.2.2.2.2.2.2.2.2.2.2.2.2.1
def f29_p0_o0_x38 (z : f29_p0_o0.den) : Bool := z.1.2.2.2.2.2.2.2.2.2.2.2.2.2.2.2.2.2.2.2.2.2.2.2.2.2.2.2.2.2.2.2.2.2.2.2.2.2.2.1
def f29_p0_o0_r1_0 (z : f29_p0_o0.den) : Int := z.2.1.1.1
def f29_p0_o0_r1_1 (z : f29_p0_o0.den) : List UInt8 := z.2.1.1.2.1
@[simp] theorem f29_p0_o0_x1_y (x1 : Int) (x2 : List Bool) (x7 : List UInt8) (x16 : List ((Int × List UInt8))) (x17 : Int) (x18 : Int) (x38 : Bool) (r1_0 : Int) (r1_1 : List UInt8) : f29_p0_o0_x1 (f29_p0_o0_y x1 x2 x7 x16 x17 x18 x38 r1_0 r1_1) = x1 := id rfl
@[simp] theorem f29_p0_o0_x2_y (x1 : Int) (x2 : List Bool) (x7 : List UInt8) (x16 : List ((Int × List UInt8))) (x17 : Int) (x18 : Int) (x38 : Bool) (r1_0 : Int) (r1_1 : List UInt8) : f29_p0_o0_x2 (f29_p0_o0_y x1 x2 x7 x16 x17 x18 x38 r1_0 r1_1) = x2 := id rfl
@[simp] theorem f29_p0_o0_x7_y (x1 : Int) (x2 : List Bool) (x7 : List UInt8) (x16 : List ((Int × List UInt8))) (x17 : Int) (x18 : Int) (x38 : Bool) (r1_0 : Int) (r1_1 : List UInt8) : f29_p0_o0_x7 (f29_p0_o0_y x1 x2 x7 x16 x17 x18 x38 r1_0 r1_1) = x7 := id rfl
@[simp] theorem f29_p0_o0_x16_y (x1 : Int) (x2 : List Bool) (x7 : List UInt8) (x16 : List ((Int × List UInt8))) (x17 : Int) (x18 : Int) (x38 : Bool) (r1_0 : Int) (r1_1 : List UInt8) : f29_p0_o0_x16 (f29_p0_o0_y x1 x2 x7 x16 x17 x18 x38 r1_0 r1_1) = x16 := id rfl
@[simp] theorem f29_p0_o0_x17_y (x1 : Int) (x2 : List Bool) (x7 : List UInt8) (x16 : List ((Int × List UInt8))) (x17 : Int) (x18 : Int) (x38 : Bool) (r1_0 : Int) (r1_1 : List UInt8) : f29_p0_o0_x17 (f29_p0_o0_y x1 x2 x7 x16 x17 x18 x38 r1_0 r1_1) = x17 := id rfl
@[simp] theorem f29_p0_o0_x18_y (x1 : Int) (x2 : List Bool) (x7 : List UInt8) (x16 : List ((Int × List UInt8))) (x17 : Int) (x18 : Int) (x38 : Bool) (r1_0 : Int) (r1_1 : List UInt8) : f29_p0_o0_x18 (f29_p0_o0_y x1 x2 x7 x16 x17 x18 x38 r1_0 r1_1) = x18 := id rfl
@[simp] theorem f29_p0_o0_x38_y (x1 : Int) (x2 : List Bool) (x7 : List UInt8) (x16 : List ((Int × List UInt8))) (x17 : Int) (x18 : Int) (x38 : Bool) (r1_0 : Int) (r1_1 : List UInt8) : f29_p0_o0_x38 (f29_p0_o0_y x1 x2 x7 x16 x17 x18 x38 r1_0 r1_1) = x38 := id rfl
@[simp] theorem f29_p0_o0_r1_0_y (x1 : Int) (x2 : List Bool) (x7 : List UInt8) (x16 : List ((Int × List UInt8))) (x17 : Int) (x18 : Int) (x38 : Bool) (r1_0 : Int) (r1_1 : List UInt8) : f29_p0_o0_r1_0 (f29_p0_o0_y x1 x2 x7 x16 x17 x18 x38 r1_0 r1_1) = r1_0 := id rfl
@[simp] theorem f29_p0_o0_r1_1_y (x1 : Int) (x2 : List Bool) (x7 : List UInt8) (x16 : List ((Int × List UInt8))) (x17 : Int) (x18 : Int) (x38 : Bool) (r1_0 : Int) (r1_1 : List UInt8) : f29_p0_o0_r1_1 (f29_p0_o0_y x1 x2 x7 x16 x17 x18 x38 r1_0 r1_1) = r1_1 := id rfl
theorem f29_p0_eq (x1 : Int) (x2 : List Bool) (x7 : List UInt8) (x8 : Int) (x16 : List ((Int × List UInt8))) (x17 : Int) (x18 : Int) (r1_0 : Int) (r1_1 : List UInt8) : f29_p0_F (f29_p0_y x1 x2 x7 x8 x16 x17 x18 r1_0 r1_1) = (bif (r1_0 == x1) then (bif (decide (x8 < (x2.length : Int))) then ((nth x2 x8).bind fun y81 => some ((f29_p0_o0_y x1 x2 x7 x16 x17 x18 y81 r1_0 r1_1))) else (some ((f29_p0_o0_y x1 x2 x7 x16 x17 x18 false r1_0 r1_1)))) else (some ((f29_p0_o0_y x1 x2 x7 x16 x17 x18 false r1_0 r1_1)))) := by kernel_rfl
def f29_p1_y (x1 : Int) (x2 : List Bool) (x7 : List UInt8) (x16 : List ((Int × List UInt8))) (x17 : Int) (x18 : Int) : f29_p1_sh.den := (((), (x1, (x2, ((), ((), ((), ((), (x7, ((), ((), ((), ((), ((), ((), ((), ((), (x16, (x17, (x18, ((), ((), ((), ((), ((), ((), ((), ((), ((), ((), ((), ((), ((), ((), ((), ((), ((), ((), ((), ((), ((), ((), ((), ((), ()))))))))))))))))))))))))))))))))))))))))))), (), ())
def f29_p1_o0_y (x1 : Int) (x2 : List Bool) (x7 : List UInt8) (x16 : List ((Int × List UInt8))) (x17 : Int) (x18 : Int) : f29_p1_o0.den := (((), (x1, (x2, ((), ((), ((), ((), (x7, ((), ((), ((), ((), ((), ((), ((), ((), (x16, (x17, (x18, ((), ((), ((), ((), ((), ((), ((), ((), ((), ((), ((), ((), ((), ((), ((), ((), ((), ((), ((), ((), ((), ((), ((), ((), ()))))))))))))))))))))))))))))))))))))))))))), (), ())
def f29_p1_o0_x1 (z : f29_p1_o0.den) : Int := z.1.2.1
def f29_p1_o0_x2 (z : f29_p1_o0.den) : List Bool := z.1.2.2.1
def f29_p1_o0_x7 (z : f29_p1_o0.den) : List UInt8 := z.1.2.2.2.2.2.2.2.1
def f29_p1_o0_x16 (z : f29_p1_o0.den) : List ((Int × List UInt8)) := z.1.2.2.2.2.2.2.2.2.2.2.2.2.2.2.2.2.1
def f29_p1_o0_x17 (z : f29_p1_o0.den) : Int := z.1.2.2.2.2.2.2.2.2.2.2.2.2.2.2.2.2.2.1
def f29_p1_o0_x18 (z : f29_p1_o0.den) : Int := z.1.2.2.2.2.2.2.2.2.2.2.2.2.2.2.2.2.2.2.1
@[simp] theorem f29_p1_o0_x1_y (x1 : Int) (x2 : List Bool) (x7 : List UInt8) (x16 : List ((Int × List UInt8))) (x17 : Int) (x18 : Int) : f29_p1_o0_x1 (f29_p1_o0_y x1 x2 x7 x16 x17 x18) = x1 := id rfl
@[simp] theorem f29_p1_o0_x2_y (x1 : Int) (x2 : List Bool) (x7 : List UInt8) (x16 : List ((Int × List UInt8))) (x17 : Int) (x18 : Int) : f29_p1_o0_x2 (f29_p1_o0_y x1 x2 x7 x16 x17 x18) = x2 := id rfl
@[simp] theorem f29_p1_o0_x7_y (x1 : Int) (x2 : List Bool) (x7 : List UInt8) (x16 : List ((Int × List UInt8))) (x17 : Int) (x18 : Int) : f29_p1_o0_x7 (f29_p1_o0_y x1 x2 x7 x16 x17 x18) = x7 := id rfl
@[simp] theorem f29_p1_o0_x16_y (x1 : Int) (x2 : List Bool) (x7 : List UInt8) (x16 : List ((Int × List UInt8))) (x17 : Int) (x18 : Int) : f29_p1_o0_x16 (f29_p1_o0_y x1 x2 x7 x16 x17 x18) = x16 := id rfl
@[simp] theorem f29_p1_o0_x17_y (x1 : Int) (x2 : List Bool) (x7 : List UInt8) (x16 : List ((Int × List UInt8))) (x17 : Int) (x18 : Int) : f29_p1_o0_x17 (f29_p1_o0_y x1 x2 x7 x16 x17 x18) = x17 := id rfl
@[simp] theorem f29_p1_o0_x18_y (x1 : Int) (x2 : List Bool) (x7 : List UInt8) (x16 : List ((Int × List UInt8))) (x17 : Int) (x18 : Int) : f29_p1_o0_x18 (f29_p1_o0_y x1 x2 x7 x16 x17 x18) = x18 := id rfl
theorem f29_p1_eq (x1 : Int) (x2 : List Bool) (x7 : List UInt8) (x16 : List ((Int × List UInt8))) (x17 : Int) (x18 : Int) : f29_p1_F (f29_p1_y x1 x2 x7 x16 x17 x18) = ((nth x16 x18).bind fun y82 => (f29_p0_F (f29_p0_y x1 x2 x7 x18 x16 x17 x18 y82.1 y82.2)).bind fun o83 => bif (f29_p0_o0_x38 o83) then (some ((f29_p1_o0_y (f29_p0_o0_x1 o83) (f29_p0_o0_x2 o83) (f29_p0_o0_r1_1 o83) (f29_p0_o0_x16 o83) (f29_p0_o0_x17 o83) (f29_p0_o0_x18 o83)))) else (some ((f29_p1_o0_y (f29_p0_o0_x1 o83) (f29_p0_o0_x2 o83) (f29_p0_o0_x7 o83) (f29_p0_o0_x16 o83) (f29_p0_o0_x17 o83) (f29_p0_o0_x18 o83))))) := by kernel_rfl
def f29_p2_y (x1 : Int) (x2 : List Bool) (x7 : List UInt8) (x16 : List ((Int × List UInt8))) (x17 : Int) (x18 : Int) : f29_p2_sh.den := (((), (x1, (x2, ((), ((), ((), ((), (x7, ((), ((), ((), ((), ((), ((), ((), ((), (x16, (x17, (x18, ((), ((), ((), ((), ((), ((), ((), ((), ((), ((), ((), ((), ((), ((), ((), ((), ((), ((), ((), ((), ((), ((), ((), ((), ()))))))))))))))))))))))))))))))))))))))))))), (), ())
def f29_p2_o0_y (x7 : List UInt8) : f29_p2_o0.den := (((), ((), ((), ((), ((), ((), ((), (x7, ((), ((), ((), ((), ((), ((), ((), ((), ((), ((), ((), ((), ((), ((), ((), ((), ((), ((), ((), ((), ((), ((), ((), ((), ((), ((), ((), ((), ((), ((), ((), ((), ((), ((), ((), ()))))))))))))))))))))))))))))))))))))))))))), (), ())
def f29_p2_o0_x7 (z : f29_p2_o0.den) : List UInt8 := z.1.2.2.2.2.2.2.2.1
@[simp] theorem f29_p2_o0_x7_y (x7 : List UInt8) : f29_p2_o0_x7 (f29_p2_o0_y x7) = x7 := id rfl
theorem f29_p2_eq (rec : f29_p2_sh.den → Option (OutDen f29_p2_outs)) (x1 : Int) (x2 : List Bool) (x7 : List UInt8) (x16 : List ((Int × List UInt8))) (x17 : Int) (x18 : Int) : f29_p2_st rec (f29_p2_y x1 x2 x7 x16 x17 x18) = (bif (decide (x18 < x17)) then ((f29_p1_F (f29_p1_y x1 x2 x7 x16 x17 x18)).bind fun o84 => rec (f29_p2_y (f29_p1_o0_x1 o84) (f29_p1_o0_x2 o84) (f29_p1_o0_x7 o84) (f29_p1_o0_x16 o84) (f29_p1_o0_x17 o84) (IntKind.i64.wrap ((f29_p1_o0_x18 o84) + (1 : Int))))) else (some ((f29_p2_o0_y x7)))) := by kernel_rfl
theorem f29_eq (a0_0 : List (List UInt8)) (a0_1 : List ((Int × List UInt8))) (a1 : Int) (a2 : List Bool) : f29_F ((a0_0, (a0_1, ())), (a1, (a2, ()))) = ((nth a0_0 a1).bind fun y85 => (go f29_p2_st (f29_p2_y a1 a2 y85 a0_1 (a0_1.length : Int) (0 : Int))).bind fun o86 => some ((f29_p2_o0_x7 o86), ())) := by kernel_rfl

end Go.Pe.Try
