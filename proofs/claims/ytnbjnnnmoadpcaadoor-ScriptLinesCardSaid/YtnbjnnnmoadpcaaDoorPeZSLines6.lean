/- Texts of the proof, what is used of them: GSq, Tac, LoopT, S1, S2, S3, S4, S5, S6, S7. -/
import Derived.Lib.ItoaLen
import Derived.Lib.ItoaMem
import Derived.Lib.Join
import Derived.Test.YtnbjnnnmoadpcaaDoorPeZSLines5
section
namespace Go.Pe.Tryd
open Go.Proofs Go.RowKit
set_option maxRecDepth 100000
set_option linter.unusedVariables false
def h53_y (l0 : List Int) : h53_I.den := (((), ()), (((), ((), ())), ()), (l0, ()))
def h53_o_x0 (z : h53_O.den) : List UInt8 := z.1.1
def h68_y (l0 : List Int) : h68_I.den := (((), ()), (((), ((), ())), ()), (l0, ()))
def h68_o_l0 (z : h68_O.den) : List Int := z.2.2.1
def f5_p0_y (x5 : Int) (x30 : Int) (x31 : Int) (x56 : Int) (x57 : Int) (r0_0 : List (List UInt8)) (r0_1 : List UInt8) (r0_2 : Int) (r0_3 : Int) (r1_1 : List UInt8) (r1_2 : Int) (r1_3 : Int) (r2_0 : Int) (r2_2 : List Int) (l0 : List ((Int × (List (List UInt8) × List Int)))) (l1 : List (List UInt8)) : f5_p0_sh.den := (((), ((), ((), ((), ((), (x5, ((), ((), ((), ((), ((), ((), ((), ((), ((), ((), ((), ((), ((), ((), ((), ((), ((), ((), ((), ((), ((), ((), ((), ((), (x30, (x31, ((), ((), ((), ((), ((), ((), ((), ((), ((), ((), ((), ((), ((), ((), ((), ((), ((), ((), ((), ((), ((), ((), ((), ((), (x56, (x57, ((), ((), ((), ((), ((), ((), ((), ((), ((), ((), ((), ((), ((), ((), ((), ((), ((), ((), ((), ((), ((), ()))))))))))))))))))))))))))))))))))))))))))))))))))))))))))))))))))))))))))))))), ((r0_0, (r0_1, (r0_2, (r0_3, ((), ()))))), (((), (r1_1, (r1_2, (r1_3, ((), ()))))), ((r2_0, ((), (r2_2, ()))), ()))), (l0, (l1, ())))
def f5_p0_o0_y (x5 : Int) (x30 : Int) (x31 : Int) (r0_0 : List (List UInt8)) (r0_1 : List UInt8) (r0_2 : Int) (r0_3 : Int) (r1_1 : List UInt8) (r1_2 : Int) (r1_3 : Int) (r2_0 : Int) (r2_2 : List Int) (l0 : List ((Int × (List (List UInt8) × List Int)))) (l1 : List (List UInt8)) : f5_p0_o0.den := (((), ((), ((), ((), ((), (x5, ((), ((), ((), ((), ((), ((), ((), ((), ((), ((), ((), ((), ((), ((), ((), ((), ((), ((), ((), ((), ((), ((), ((), ((), (x30, (x31, ((), ((), ((), ((), ((), ((), ((), ((), ((), ((), ((), ((), ((), ((), ((), ((), ((), ((), ((), ((), ((), ((), ((), ((), ((), ((), ((), ((), ((), ((), ((), ((), ((), ((), ((), ((), ((), ((), ((), ((), ((), ((), ((), ((), ((), ((), ((), ()))))))))))))))))))))))))))))))))))))))))))))))))))))))))))))))))))))))))))))))), ((r0_0, (r0_1, (r0_2, (r0_3, ((), ()))))), (((), (r1_1, (r1_2, (r1_3, ((), ()))))), ((r2_0, ((), (r2_2, ()))), ()))), (l0, (l1, ())))
def f5_p0_o0_x5 (z : f5_p0_o0.den) : Int := z.1.2.2.2.2.2.1
def f5_p0_o0_x30 (z : f5_p0_o0.den) : Int := z.1.2.2.2.2.2.2.2.2.2.2.2.2.2.2.2.2.2.2.2.2.2.2.2.2.2.2.2.2.2.2.1
def f5_p0_o0_x31 (z : f5_p0_o0.den) : Int := z.1.2.2.2.2.2.2.2.2.2.2.2.2.2.2.2.2.2.2.2.2.2.2.2.2.2.2.2.2.2.2.2.1
def f5_p0_o0_r0_0 (z : f5_p0_o0.den) : List (List UInt8) := z.2.1.1.1
def f5_p0_o0_r0_1 (z : f5_p0_o0.den) : List UInt8 := z.2.1.1.2.1
def f5_p0_o0_r0_2 (z : f5_p0_o0.den) : Int := z.2.1.1.2.2.1
def f5_p0_o0_r0_3 (z : f5_p0_o0.den) : Int := z.2.1.1.2.2.2.1
def f5_p0_o0_r1_1 (z : f5_p0_o0.den) : List UInt8 := z.2.1.2.1.2.1
def f5_p0_o0_r1_2 (z : f5_p0_o0.den) : Int := z.2.1.2.1.2.2.1
def f5_p0_o0_r1_3 (z : f5_p0_o0.den) : Int := z.2.1.2.1.2.2.2.1
def f5_p0_o0_r2_0 (z : f5_p0_o0.den) : Int := z.2.1.2.2.1.1
def f5_p0_o0_r2_2 (z : f5_p0_o0.den) : List Int := z.2.1.2.2.1.2.2.1
def f5_p0_o0_l0 (z : f5_p0_o0.den) : List ((Int × (List (List UInt8) × List Int))) := z.2.2.1
def f5_p0_o0_l1 (z : f5_p0_o0.den) : List (List UInt8) := z.2.2.2.1
@[simp] theorem f5_p0_o0_x5_y x5 x30 x31 r0_0 r0_1 r0_2 r0_3 r1_1 r1_2 r1_3 r2_0 r2_2 l0 l1 : f5_p0_o0_x5 (f5_p0_o0_y x5 x30 x31 r0_0 r0_1 r0_2 r0_3 r1_1 r1_2 r1_3 r2_0 r2_2 l0 l1) = x5 := id rfl
@[simp] theorem f5_p0_o0_x30_y x5 x30 x31 r0_0 r0_1 r0_2 r0_3 r1_1 r1_2 r1_3 r2_0 r2_2 l0 l1 : f5_p0_o0_x30 (f5_p0_o0_y x5 x30 x31 r0_0 r0_1 r0_2 r0_3 r1_1 r1_2 r1_3 r2_0 r2_2 l0 l1) = x30 := id rfl
@[simp] theorem f5_p0_o0_x31_y x5 x30 x31 r0_0 r0_1 r0_2 r0_3 r1_1 r1_2 r1_3 r2_0 r2_2 l0 l1 : f5_p0_o0_x31 (f5_p0_o0_y x5 x30 x31 r0_0 r0_1 r0_2 r0_3 r1_1 r1_2 r1_3 r2_0 r2_2 l0 l1) = x31 := id rfl
@[simp] theorem f5_p0_o0_r0_0_y x5 x30 x31 r0_0 r0_1 r0_2 r0_3 r1_1 r1_2 r1_3 r2_0 r2_2 l0 l1 : f5_p0_o0_r0_0 (f5_p0_o0_y x5 x30 x31 r0_0 r0_1 r0_2 r0_3 r1_1 r1_2 r1_3 r2_0 r2_2 l0 l1) = r0_0 := id rfl
@[simp] theorem f5_p0_o0_r0_1_y x5 x30 x31 r0_0 r0_1 r0_2 r0_3 r1_1 r1_2 r1_3 r2_0 r2_2 l0 l1 : f5_p0_o0_r0_1 (f5_p0_o0_y x5 x30 x31 r0_0 r0_1 r0_2 r0_3 r1_1 r1_2 r1_3 r2_0 r2_2 l0 l1) = r0_1 := id rfl
@[simp] theorem f5_p0_o0_r0_2_y x5 x30 x31 r0_0 r0_1 r0_2 r0_3 r1_1 r1_2 r1_3 r2_0 r2_2 l0 l1 : f5_p0_o0_r0_2 (f5_p0_o0_y x5 x30 x31 r0_0 r0_1 r0_2 r0_3 r1_1 r1_2 r1_3 r2_0 r2_2 l0 l1) = r0_2 := id rfl
@[simp] theorem f5_p0_o0_r0_3_y x5 x30 x31 r0_0 r0_1 r0_2 r0_3 r1_1 r1_2 r1_3 r2_0 r2_2 l0 l1 : f5_p0_o0_r0_3 (f5_p0_o0_y x5 x30 x31 r0_0 r0_1 r0_2 r0_3 r1_1 r1_2 r1_3 r2_0 r2_2 l0 l1) = r0_3 := id rfl
@[simp] theorem f5_p0_o0_r1_1_y x5 x30 x31 r0_0 r0_1 r0_2 r0_3 r1_1 r1_2 r1_3 r2_0 r2_2 l0 l1 : f5_p0_o0_r1_1 (f5_p0_o0_y x5 x30 x31 r0_0 r0_1 r0_2 r0_3 r1_1 r1_2 r1_3 r2_0 r2_2 l0 l1) = r1_1 := id rfl
@[simp] theorem f5_p0_o0_r1_2_y x5 x30 x31 r0_0 r0_1 r0_2 r0_3 r1_1 r1_2 r1_3 r2_0 r2_2 l0 l1 : f5_p0_o0_r1_2 (f5_p0_o0_y x5 x30 x31 r0_0 r0_1 r0_2 r0_3 r1_1 r1_2 r1_3 r2_0 r2_2 l0 l1) = r1_2 := id rfl
@[simp] theorem f5_p0_o0_r1_3_y x5 x30 x31 r0_0 r0_1 r0_2 r0_3 r1_1 r1_2 r1_3 r2_0 r2_2 l0 l1 : f5_p0_o0_r1_3 (f5_p0_o0_y x5 x30 x31 r0_0 r0_1 r0_2 r0_3 r1_1 r1_2 r1_3 r2_0 r2_2 l0 l1) = r1_3 := id rfl
@[simp] theorem f5_p0_o0_r2_0_y x5 x30 x31 r0_0 r0_1 r0_2 r0_3 r1_1 r1_2 r1_3 r2_0 r2_2 l0 l1 : f5_p0_o0_r2_0 (f5_p0_o0_y x5 x30 x31 r0_0 r0_1 r0_2 r0_3 r1_1 r1_2 r1_3 r2_0 r2_2 l0 l1) = r2_0 := id rfl
@[simp] theorem f5_p0_o0_r2_2_y x5 x30 x31 r0_0 r0_1 r0_2 r0_3 r1_1 r1_2 r1_3 r2_0 r2_2 l0 l1 : f5_p0_o0_r2_2 (f5_p0_o0_y x5 x30 x31 r0_0 r0_1 r0_2 r0_3 r1_1 r1_2 r1_3 r2_0 r2_2 l0 l1) = r2_2 := id rfl
@[simp] theorem f5_p0_o0_l0_y x5 x30 x31 r0_0 r0_1 r0_2 r0_3 r1_1 r1_2 r1_3 r2_0 r2_2 l0 l1 : f5_p0_o0_l0 (f5_p0_o0_y x5 x30 x31 r0_0 r0_1 r0_2 r0_3 r1_1 r1_2 r1_3 r2_0 r2_2 l0 l1) = l0 := id rfl
@[simp] theorem f5_p0_o0_l1_y x5 x30 x31 r0_0 r0_1 r0_2 r0_3 r1_1 r1_2 r1_3 r2_0 r2_2 l0 l1 : f5_p0_o0_l1 (f5_p0_o0_y x5 x30 x31 r0_0 r0_1 r0_2 r0_3 r1_1 r1_2 r1_3 r2_0 r2_2 l0 l1) = l1 := id rfl
theorem f5_p0_eq rec x5 x30 x31 x56 x57 r0_0 r0_1 r0_2 r0_3 r1_1 r1_2 r1_3 r2_0 r2_2 l0 l1 : f5_p0_st rec (f5_p0_y x5 x30 x31 x56 x57 r0_0 r0_1 r0_2 r0_3 r1_1 r1_2 r1_3 r2_0 r2_2 l0 l1) = (bif (decide (x57 < x56)) then (within x57 l1.length ((l1[(Int.toNat x57)]?).bind fun e1 => cutHi e1 (minI (e1.length : Int) (3100 : Int)) fun s2 => within x57 l1.length ((l1[(Int.toNat x57)]?).bind fun e3 => rec (f5_p0_y x5 x30 x31 x56 (IntKind.i64.wrap (x57 + (1 : Int))) r0_0 r0_1 r0_2 r0_3 r1_1 r1_2 r1_3 r2_0 r2_2 l0 (l1.set (Int.toNat x57) s2))))) else (some ((f5_p0_o0_y x5 x30 x31 r0_0 r0_1 r0_2 r0_3 r1_1 r1_2 r1_3 r2_0 r2_2 l0 l1)))) := by kernel_rfl
def f5_p1_y (x30 : Int) (x31 : Int) (r0_0 : List (List UInt8)) (r0_1 : List UInt8) (r0_2 : Int) (r0_3 : Int) (r1_1 : List UInt8) (r1_2 : Int) (r1_3 : Int) (l0 : List ((Int × (List (List UInt8) × List Int)))) : f5_p1_sh.den := (((), ((), ((), ((), ((), ((), ((), ((), ((), ((), ((), ((), ((), ((), ((), ((), ((), ((), ((), ((), ((), ((), ((), ((), ((), ((), ((), ((), ((), ((), (x30, (x31, ((), ((), ((), ((), ((), ((), ((), ((), ((), ((), ((), ((), ((), ((), ((), ((), ((), ((), ((), ((), ((), ((), ((), ((), ((), ((), ((), ((), ((), ((), ((), ((), ((), ((), ((), ((), ((), ((), ((), ((), ((), ((), ((), ((), ((), ((), ((), ()))))))))))))))))))))))))))))))))))))))))))))))))))))))))))))))))))))))))))))))), ((r0_0, (r0_1, (r0_2, (r0_3, ((), ()))))), (((), (r1_1, (r1_2, (r1_3, ((), ()))))), ())), (l0, ()))
def f5_p1_o0_y (r0_0 : List (List UInt8)) (r0_1 : List UInt8) (r0_2 : Int) (r0_3 : Int) (r1_1 : List UInt8) (r1_2 : Int) (r1_3 : Int) (l0 : List ((Int × (List (List UInt8) × List Int)))) : f5_p1_o0.den := (((), ((), ((), ((), ((), ((), ((), ((), ((), ((), ((), ((), ((), ((), ((), ((), ((), ((), ((), ((), ((), ((), ((), ((), ((), ((), ((), ((), ((), ((), ((), ((), ((), ((), ((), ((), ((), ((), ((), ((), ((), ((), ((), ((), ((), ((), ((), ((), ((), ((), ((), ((), ((), ((), ((), ((), ((), ((), ((), ((), ((), ((), ((), ((), ((), ((), ((), ((), ((), ((), ((), ((), ((), ((), ((), ((), ((), ((), ((), ()))))))))))))))))))))))))))))))))))))))))))))))))))))))))))))))))))))))))))))))), ((r0_0, (r0_1, (r0_2, (r0_3, ((), ()))))), (((), (r1_1, (r1_2, (r1_3, ((), ()))))), ())), (l0, ()))
def f5_p1_o0_r0_0 (z : f5_p1_o0.den) : List (List UInt8) := z.2.1.1.1
def f5_p1_o0_r0_1 (z : f5_p1_o0.den) : List UInt8 := z.2.1.1.2.1
def f5_p1_o0_r0_2 (z : f5_p1_o0.den) : Int := z.2.1.1.2.2.1
def f5_p1_o0_r0_3 (z : f5_p1_o0.den) : Int := z.2.1.1.2.2.2.1
def f5_p1_o0_r1_1 (z : f5_p1_o0.den) : List UInt8 := z.2.1.2.1.2.1
def f5_p1_o0_r1_2 (z : f5_p1_o0.den) : Int := z.2.1.2.1.2.2.1
def f5_p1_o0_r1_3 (z : f5_p1_o0.den) : Int := z.2.1.2.1.2.2.2.1
def f5_p1_o0_l0 (z : f5_p1_o0.den) : List ((Int × (List (List UInt8) × List Int))) := z.2.2.1
@[simp] theorem f5_p1_o0_r0_0_y r0_0 r0_1 r0_2 r0_3 r1_1 r1_2 r1_3 l0 : f5_p1_o0_r0_0 (f5_p1_o0_y r0_0 r0_1 r0_2 r0_3 r1_1 r1_2 r1_3 l0) = r0_0 := id rfl
@[simp] theorem f5_p1_o0_r0_1_y r0_0 r0_1 r0_2 r0_3 r1_1 r1_2 r1_3 l0 : f5_p1_o0_r0_1 (f5_p1_o0_y r0_0 r0_1 r0_2 r0_3 r1_1 r1_2 r1_3 l0) = r0_1 := id rfl
@[simp] theorem f5_p1_o0_r0_2_y r0_0 r0_1 r0_2 r0_3 r1_1 r1_2 r1_3 l0 : f5_p1_o0_r0_2 (f5_p1_o0_y r0_0 r0_1 r0_2 r0_3 r1_1 r1_2 r1_3 l0) = r0_2 := id rfl
@[simp] theorem f5_p1_o0_r0_3_y r0_0 r0_1 r0_2 r0_3 r1_1 r1_2 r1_3 l0 : f5_p1_o0_r0_3 (f5_p1_o0_y r0_0 r0_1 r0_2 r0_3 r1_1 r1_2 r1_3 l0) = r0_3 := id rfl
@[simp] theorem f5_p1_o0_r1_1_y r0_0 r0_1 r0_2 r0_3 r1_1 r1_2 r1_3 l0 : f5_p1_o0_r1_1 (f5_p1_o0_y r0_0 r0_1 r0_2 r0_3 r1_1 r1_2 r1_3 l0) = r1_1 := id rfl
@[simp] theorem f5_p1_o0_r1_2_y r0_0 r0_1 r0_2 r0_3 r1_1 r1_2 r1_3 l0 : f5_p1_o0_r1_2 (f5_p1_o0_y r0_0 r0_1 r0_2 r0_3 r1_1 r1_2 r1_3 l0) = r1_2 := id rfl
@[simp] theorem f5_p1_o0_r1_3_y r0_0 r0_1 r0_2 r0_3 r1_1 r1_2 r1_3 l0 : f5_p1_o0_r1_3 (f5_p1_o0_y r0_0 r0_1 r0_2 r0_3 r1_1 r1_2 r1_3 l0) = r1_3 := id rfl
@[simp] theorem f5_p1_o0_l0_y r0_0 r0_1 r0_2 r0_3 r1_1 r1_2 r1_3 l0 : f5_p1_o0_l0 (f5_p1_o0_y r0_0 r0_1 r0_2 r0_3 r1_1 r1_2 r1_3 l0) = l0 := id rfl
theorem f5_p1_eq rec x30 x31 r0_0 r0_1 r0_2 r0_3 r1_1 r1_2 r1_3 l0 : f5_p1_st rec (f5_p1_y x30 x31 r0_0 r0_1 r0_2 r0_3 r1_1 r1_2 r1_3 l0) = (bif (decide (x31 < x30)) then (within x31 l0.length ((l0[(Int.toNat x31)]?).bind fun e4 => cutHi e4.2.1 (minI (e4.2.1.length : Int) (5 : Int)) fun s5 => appOk (([] : List (List UInt8)).length + s5.length) (cutHi e4.2.2 (minI (e4.2.2.length : Int) (5 : Int)) fun s6 => (go f5_p0_st (f5_p0_y x31 x30 x31 ((([] : List (List UInt8)) ++ s5).length : Int) (0 : Int) r0_0 r0_1 r0_2 r0_3 r1_1 r1_2 r1_3 e4.1 s6 l0 (([] : List (List UInt8)) ++ s5))).bind fun o7 => within (f5_p0_o0_x5 o7) (f5_p0_o0_l0 o7).length (((f5_p0_o0_l0 o7)[(Int.toNat (f5_p0_o0_x5 o7))]?).bind fun e8 => rec (f5_p1_y (f5_p0_o0_x30 o7) (IntKind.i64.wrap ((f5_p0_o0_x31 o7) + (1 : Int))) (f5_p0_o0_r0_0 o7) (f5_p0_o0_r0_1 o7) (f5_p0_o0_r0_2 o7) (f5_p0_o0_r0_3 o7) (f5_p0_o0_r1_1 o7) (f5_p0_o0_r1_2 o7) (f5_p0_o0_r1_3 o7) ((f5_p0_o0_l0 o7).set (Int.toNat (f5_p0_o0_x5 o7)) ((f5_p0_o0_r2_0 o7), ((f5_p0_o0_l1 o7), (f5_p0_o0_r2_2 o7))))))))) else (some ((f5_p1_o0_y r0_0 r0_1 r0_2 r0_3 r1_1 r1_2 r1_3 l0)))) := by kernel_rfl
theorem f5_eq a0_0 a0_1 a0_2 a0_3 a0_4 a1 : f5_F ((a0_0, (a0_1, (a0_2, (a0_3, (a0_4, ()))))), (a1, ())) = (cutHi a0_0 (minI (a0_0.length : Int) (6 : Int)) fun s9 => cutHi a0_4 (minI (a0_4.length : Int) a1) fun s10 => appOk (([] : List ((Int × (List (List UInt8) × List Int)))).length + s10.length) ((go f5_p1_st (f5_p1_y ((([] : List ((Int × (List (List UInt8) × List Int)))) ++ s10).length : Int) (0 : Int) s9 a0_1 a0_2 a0_3 ([] : List UInt8) (0 : Int) (0 : Int) (([] : List ((Int × (List (List UInt8) × List Int)))) ++ s10))).bind fun o11 => some (((f5_p1_o0_r0_0 o11), ((f5_p1_o0_r0_1 o11), ((f5_p1_o0_r0_2 o11), ((f5_p1_o0_r0_3 o11), ((f5_p1_o0_l0 o11), ()))))), ()))) := by kernel_rfl
theorem f42_eq a0 : f42_F (a0, ()) = (some (((a0.length : Int) != (32 : Int)), ())) := by kernel_rfl
def h60_y (x0 : List (List UInt8)) : h60_I.den := ((x0, (((), ()), ())), (), ())
def h60_o_y (x0 : Int) : h60_O.den := ((x0, ()), (), ())
def h60_o_x0 (z : h60_O.den) : Int := z.1.1
@[simp] theorem h60_o_x0_y x0 : h60_o_x0 (h60_o_y x0) = x0 := id rfl
def h60_p0_y (x0 : List (List UInt8)) (x7 : Int) (x8 : Int) : h60_p0_sh.den := ((x0, (((), ()), ((), ((), ((), ((), ((), (x7, (x8, ((), ((), ((), ((), ((), ((), ((), ((), ((), ((), ()))))))))))))))))))), (), ())
def h60_p0_o0_y : h60_p0_o0.den := (((), ((), ((), ((), ((), ((), ((), ((), ((), ((), ((), ((), ((), ((), ((), ((), ((), ((), ((), ()))))))))))))))))))), (), ())
def h60_p0_o1_y (x4 : Int) : h60_p0_o1.den := (((), ((), ((), ((), (x4, ((), ((), ((), ((), ((), ((), ((), ((), ((), ((), ((), ((), ((), ((), ()))))))))))))))))))), (), ())
def h60_p0_o1_x4 (z : h60_p0_o1.den) : Int := z.1.2.2.2.2.1
@[simp] theorem h60_p0_o1_x4_y x4 : h60_p0_o1_x4 (h60_p0_o1_y x4) = x4 := id rfl
theorem h60_p0_eq rec x0 x7 x8 : h60_p0_st rec (h60_p0_y x0 x7 x8) = (bif (decide (x8 < x7)) then ((nth x0 x8).bind fun y12 => (f42_F (y12, ())).bind fun r13 => bif r13.1 then (some (.inr ((h60_p0_o1_y x8)))) else (rec (h60_p0_y x0 x7 (IntKind.i64.wrap (x8 + (1 : Int)))))) else (some (.inl h60_p0_o0_y))) := by kernel_rfl
theorem h60_eq x0 : h60_F (h60_y x0) = ((go h60_p0_st (h60_p0_y x0 (x0.length : Int) (0 : Int))).bind fun o14 => (match o14 with | .inl z15 => some (h60_o_y (-1 : Int)) | .inr o16 => some (h60_o_y (h60_p0_o1_x4 o16)))) := by kernel_rfl
def h43_y (x0 : List (List UInt8)) : h43_I.den := ((x0, (((), ()), ())), (), ())
def h43_o_y (x0 : Bool) : h43_O.den := ((x0, ()), (), ())
def h43_o_x0 (z : h43_O.den) : Bool := z.1.1
@[simp] theorem h43_o_x0_y x0 : h43_o_x0 (h43_o_y x0) = x0 := id rfl
theorem h43_eq x0 : h43_F (h43_y x0) = ((h60_F (h60_y x0)).bind fun z17 => some (h43_o_y (decide ((h60_o_x0 z17) ≥ (0 : Int))))) := by kernel_rfl
theorem f21_eq a0_0 a0_1 a0_2 a0_3 a0_4 : f21_F ((a0_0, (a0_1, (a0_2, (a0_3, (a0_4, ()))))), ()) = (bif ((a0_0.length : Int) == (4 : Int)) then ((h43_F (h43_y a0_0)).bind fun z18 => bif (!(h43_o_x0 z18)) then ((f42_F (a0_1, ())).bind fun r19 => bif (!r19.1) then (bif (decide (a0_2 ≥ (1 : Int))) then (bif (decide (a0_2 ≤ (1000000 : Int))) then (bif (decide (a0_3 ≥ (1 : Int))) then (some ((decide (a0_3 ≤ (4 : Int))), ())) else (some (false, ()))) else (some (false, ()))) else (some (false, ()))) else (some (false, ()))) else (some (false, ()))) else (some (false, ()))) := by kernel_rfl
def h36_y : h36_I.den := ((), (), ())
def h36_o_y (l0 : List (((Unit × Unit) × (Int × (List UInt8 × (Int × Int)))))) : h36_O.den := (((), ()), (), (l0, ()))
def h36_o_l0 (z : h36_O.den) : List (((Unit × Unit) × (Int × (List UInt8 × (Int × Int))))) := z.2.2.1
@[simp] theorem h36_o_l0_y l0 : h36_o_l0 (h36_o_y l0) = l0 := id rfl
theorem h36_eq : h36_F h36_y = (appOk ((mpairs (.int .i64) (.prod .str (.prod (.int .i64) (.int .i64))) true ([] : List (((Unit × Unit) × (Int × (List UInt8 × (Int × Int))))))).length + 1) (lenOk (keyLen (.int .i64) (1 : Int)) (appOk ((mpairs (.int .i64) (.prod .str (.prod (.int .i64) (.int .i64))) true (mput (.int .i64) (.prod .str (.prod (.int .i64) (.int .i64))) true ([] : List (((Unit × Unit) × (Int × (List UInt8 × (Int × Int)))))) (1 : Int) (([112, 117, 98, 108, 105, 115, 104] : List UInt8), ((3 : Int), (1 : Int))))).length + 1) (lenOk (keyLen (.int .i64) (2 : Int)) (appOk ((mpairs (.int .i64) (.prod .str (.prod (.int .i64) (.int .i64))) true (mput (.int .i64) (.prod .str (.prod (.int .i64) (.int .i64))) true (mput (.int .i64) (.prod .str (.prod (.int .i64) (.int .i64))) true ([] : List (((Unit × Unit) × (Int × (List UInt8 × (Int × Int)))))) (1 : Int) (([112, 117, 98, 108, 105, 115, 104] : List UInt8), ((3 : Int), (1 : Int)))) (2 : Int) (([100, 101, 108, 101, 103] : List UInt8), ((3 : Int), (2 : Int))))).length + 1) (lenOk (keyLen (.int .i64) (3 : Int)) (appOk ((mpairs (.int .i64) (.prod .str (.prod (.int .i64) (.int .i64))) true (mput (.int .i64) (.prod .str (.prod (.int .i64) (.int .i64))) true (mput (.int .i64) (.prod .str (.prod (.int .i64) (.int .i64))) true (mput (.int .i64) (.prod .str (.prod (.int .i64) (.int .i64))) true ([] : List (((Unit × Unit) × (Int × (List UInt8 × (Int × Int)))))) (1 : Int) (([112, 117, 98, 108, 105, 115, 104] : List UInt8), ((3 : Int), (1 : Int)))) (2 : Int) (([100, 101, 108, 101, 103] : List UInt8), ((3 : Int), (2 : Int)))) (3 : Int) (([114, 111, 116, 97, 116, 101] : List UInt8), ((1 : Int), (2 : Int))))).length + 1) (lenOk (keyLen (.int .i64) (4 : Int)) (appOk ((mpairs (.int .i64) (.prod .str (.prod (.int .i64) (.int .i64))) true (mput (.int .i64) (.prod .str (.prod (.int .i64) (.int .i64))) true (mput (.int .i64) (.prod .str (.prod (.int .i64) (.int .i64))) true (mput (.int .i64) (.prod .str (.prod (.int .i64) (.int .i64))) true (mput (.int .i64) (.prod .str (.prod (.int .i64) (.int .i64))) true ([] : List (((Unit × Unit) × (Int × (List UInt8 × (Int × Int)))))) (1 : Int) (([112, 117, 98, 108, 105, 115, 104] : List UInt8), ((3 : Int), (1 : Int)))) (2 : Int) (([100, 101, 108, 101, 103] : List UInt8), ((3 : Int), (2 : Int)))) (3 : Int) (([114, 111, 116, 97, 116, 101] : List UInt8), ((1 : Int), (2 : Int)))) (4 : Int) (([115, 116, 97, 109, 112] : List UInt8), ((0 : Int), (1 : Int))))).length + 1) (lenOk (keyLen (.int .i64) (5 : Int)) (appOk ((mpairs (.int .i64) (.prod .str (.prod (.int .i64) (.int .i64))) true (mput (.int .i64) (.prod .str (.prod (.int .i64) (.int .i64))) true (mput (.int .i64) (.prod .str (.prod (.int .i64) (.int .i64))) true (mput (.int .i64) (.prod .str (.prod (.int .i64) (.int .i64))) true (mput (.int .i64) (.prod .str (.prod (.int .i64) (.int .i64))) true (mput (.int .i64) (.prod .str (.prod (.int .i64) (.int .i64))) true ([] : List (((Unit × Unit) × (Int × (List UInt8 × (Int × Int)))))) (1 : Int) (([112, 117, 98, 108, 105, 115, 104] : List UInt8), ((3 : Int), (1 : Int)))) (2 : Int) (([100, 101, 108, 101, 103] : List UInt8), ((3 : Int), (2 : Int)))) (3 : Int) (([114, 111, 116, 97, 116, 101] : List UInt8), ((1 : Int), (2 : Int)))) (4 : Int) (([115, 116, 97, 109, 112] : List UInt8), ((0 : Int), (1 : Int)))) (5 : Int) (([117, 112, 100, 97, 116, 101] : List UInt8), ((1 : Int), (1 : Int))))).length + 1) (lenOk (keyLen (.int .i64) (6 : Int)) (appOk ((mpairs (.int .i64) (.prod .str (.prod (.int .i64) (.int .i64))) true (mput (.int .i64) (.prod .str (.prod (.int .i64) (.int .i64))) true (mput (.int .i64) (.prod .str (.prod (.int .i64) (.int .i64))) true (mput (.int .i64) (.prod .str (.prod (.int .i64) (.int .i64))) true (mput (.int .i64) (.prod .str (.prod (.int .i64) (.int .i64))) true (mput (.int .i64) (.prod .str (.prod (.int .i64) (.int .i64))) true (mput (.int .i64) (.prod .str (.prod (.int .i64) (.int .i64))) true ([] : List (((Unit × Unit) × (Int × (List UInt8 × (Int × Int)))))) (1 : Int) (([112, 117, 98, 108, 105, 115, 104] : List UInt8), ((3 : Int), (1 : Int)))) (2 : Int) (([100, 101, 108, 101, 103] : List UInt8), ((3 : Int), (2 : Int)))) (3 : Int) (([114, 111, 116, 97, 116, 101] : List UInt8), ((1 : Int), (2 : Int)))) (4 : Int) (([115, 116, 97, 109, 112] : List UInt8), ((0 : Int), (1 : Int)))) (5 : Int) (([117, 112, 100, 97, 116, 101] : List UInt8), ((1 : Int), (1 : Int)))) (6 : Int) (([99, 114, 97, 115, 104] : List UInt8), ((1 : Int), (2 : Int))))).length + 1) (lenOk (keyLen (.int .i64) (7 : Int)) (appOk ((mpairs (.int .i64) (.prod .str (.prod (.int .i64) (.int .i64))) true (mput (.int .i64) (.prod .str (.prod (.int .i64) (.int .i64))) true (mput (.int .i64) (.prod .str (.prod (.int .i64) (.int .i64))) true (mput (.int .i64) (.prod .str (.prod (.int .i64) (.int .i64))) true (mput (.int .i64) (.prod .str (.prod (.int .i64) (.int .i64))) true (mput (.int .i64) (.prod .str (.prod (.int .i64) (.int .i64))) true (mput (.int .i64) (.prod .str (.prod (.int .i64) (.int .i64))) true (mput (.int .i64) (.prod .str (.prod (.int .i64) (.int .i64))) true ([] : List (((Unit × Unit) × (Int × (List UInt8 × (Int × Int)))))) (1 : Int) (([112, 117, 98, 108, 105, 115, 104] : List UInt8), ((3 : Int), (1 : Int)))) (2 : Int) (([100, 101, 108, 101, 103] : List UInt8), ((3 : Int), (2 : Int)))) (3 : Int) (([114, 111, 116, 97, 116, 101] : List UInt8), ((1 : Int), (2 : Int)))) (4 : Int) (([115, 116, 97, 109, 112] : List UInt8), ((0 : Int), (1 : Int)))) (5 : Int) (([117, 112, 100, 97, 116, 101] : List UInt8), ((1 : Int), (1 : Int)))) (6 : Int) (([99, 114, 97, 115, 104] : List UInt8), ((1 : Int), (2 : Int)))) (7 : Int) (([119, 97, 116, 99, 104] : List UInt8), ((0 : Int), (1 : Int))))).length + 1) (lenOk (keyLen (.int .i64) (8 : Int)) (some (h36_o_y (mput (.int .i64) (.prod .str (.prod (.int .i64) (.int .i64))) true (mput (.int .i64) (.prod .str (.prod (.int .i64) (.int .i64))) true (mput (.int .i64) (.prod .str (.prod (.int .i64) (.int .i64))) true (mput (.int .i64) (.prod .str (.prod (.int .i64) (.int .i64))) true (mput (.int .i64) (.prod .str (.prod (.int .i64) (.int .i64))) true (mput (.int .i64) (.prod .str (.prod (.int .i64) (.int .i64))) true (mput (.int .i64) (.prod .str (.prod (.int .i64) (.int .i64))) true (mput (.int .i64) (.prod .str (.prod (.int .i64) (.int .i64))) true ([] : List (((Unit × Unit) × (Int × (List UInt8 × (Int × Int)))))) (1 : Int) (([112, 117, 98, 108, 105, 115, 104] : List UInt8), ((3 : Int), (1 : Int)))) (2 : Int) (([100, 101, 108, 101, 103] : List UInt8), ((3 : Int), (2 : Int)))) (3 : Int) (([114, 111, 116, 97, 116, 101] : List UInt8), ((1 : Int), (2 : Int)))) (4 : Int) (([115, 116, 97, 109, 112] : List UInt8), ((0 : Int), (1 : Int)))) (5 : Int) (([117, 112, 100, 97, 116, 101] : List UInt8), ((1 : Int), (1 : Int)))) (6 : Int) (([99, 114, 97, 115, 104] : List UInt8), ((1 : Int), (2 : Int)))) (7 : Int) (([119, 97, 116, 99, 104] : List UInt8), ((0 : Int), (1 : Int)))) (8 : Int) (([109, 105, 114, 114, 111, 114] : List UInt8), ((2 : Int), (1 : Int)))))))))))))))))))))) := by kernel_rfl
theorem f45_eq a0 : f45_F (a0, ()) = (some ((decide ((a0.length : Int) > (3000 : Int))), ())) := by kernel_rfl
def h60a_y (x0 : List (List UInt8)) : h60a_I.den := ((x0, (((), ()), ())), (), ())
def h60a_o_y (x0 : Int) : h60a_O.den := ((x0, ()), (), ())
def h60a_o_x0 (z : h60a_O.den) : Int := z.1.1
@[simp] theorem h60a_o_x0_y x0 : h60a_o_x0 (h60a_o_y x0) = x0 := id rfl
def h60a_p0_y (x0 : List (List UInt8)) (x7 : Int) (x8 : Int) : h60a_p0_sh.den := ((x0, (((), ()), ((), ((), ((), ((), ((), (x7, (x8, ((), ((), ((), ((), ((), ((), ((), ((), ((), ((), ()))))))))))))))))))), (), ())
def h60a_p0_o0_y : h60a_p0_o0.den := (((), ((), ((), ((), ((), ((), ((), ((), ((), ((), ((), ((), ((), ((), ((), ((), ((), ((), ((), ()))))))))))))))))))), (), ())
def h60a_p0_o1_y (x4 : Int) : h60a_p0_o1.den := (((), ((), ((), ((), (x4, ((), ((), ((), ((), ((), ((), ((), ((), ((), ((), ((), ((), ((), ((), ()))))))))))))))))))), (), ())
def h60a_p0_o1_x4 (z : h60a_p0_o1.den) : Int := z.1.2.2.2.2.1
@[simp] theorem h60a_p0_o1_x4_y x4 : h60a_p0_o1_x4 (h60a_p0_o1_y x4) = x4 := id rfl
theorem h60a_p0_eq rec x0 x7 x8 : h60a_p0_st rec (h60a_p0_y x0 x7 x8) = (bif (decide (x8 < x7)) then ((nth x0 x8).bind fun y20 => (f45_F (y20, ())).bind fun r21 => bif r21.1 then (some (.inr ((h60a_p0_o1_y x8)))) else (rec (h60a_p0_y x0 x7 (IntKind.i64.wrap (x8 + (1 : Int)))))) else (some (.inl h60a_p0_o0_y))) := by kernel_rfl
theorem h60a_eq x0 : h60a_F (h60a_y x0) = ((go h60a_p0_st (h60a_p0_y x0 (x0.length : Int) (0 : Int))).bind fun o22 => (match o22 with | .inl z23 => some (h60a_o_y (-1 : Int)) | .inr o24 => some (h60a_o_y (h60a_p0_o1_x4 o24)))) := by kernel_rfl
def h43a_y (x0 : List (List UInt8)) : h43a_I.den := ((x0, (((), ()), ())), (), ())
def h43a_o_y (x0 : Bool) : h43a_O.den := ((x0, ()), (), ())
def h43a_o_x0 (z : h43a_O.den) : Bool := z.1.1
@[simp] theorem h43a_o_x0_y x0 : h43a_o_x0 (h43a_o_y x0) = x0 := id rfl
theorem h43a_eq x0 : h43a_F (h43a_y x0) = ((h60a_F (h60a_y x0)).bind fun z25 => some (h43a_o_y (decide ((h60a_o_x0 z25) ≥ (0 : Int))))) := by kernel_rfl
theorem f47_eq a0 : f47_F (a0, ()) = (bif (decide (a0 < (0 : Int))) then (some (true, ())) else (some ((decide (a0 > (1099511627776 : Int))), ()))) := by kernel_rfl
def h61_y (x0 : List Int) : h61_I.den := ((x0, (((), ()), ())), (), ())
def h61_o_y (x0 : Int) : h61_O.den := ((x0, ()), (), ())
def h61_o_x0 (z : h61_O.den) : Int := z.1.1
@[simp] theorem h61_o_x0_y x0 : h61_o_x0 (h61_o_y x0) = x0 := id rfl
def h61_p0_y (x0 : List Int) (x7 : Int) (x8 : Int) : h61_p0_sh.den := ((x0, (((), ()), ((), ((), ((), ((), ((), (x7, (x8, ((), ((), ((), ((), ((), ((), ((), ((), ((), ((), ()))))))))))))))))))), (), ())
def h61_p0_o0_y : h61_p0_o0.den := (((), ((), ((), ((), ((), ((), ((), ((), ((), ((), ((), ((), ((), ((), ((), ((), ((), ((), ((), ()))))))))))))))))))), (), ())
def h61_p0_o1_y (x4 : Int) : h61_p0_o1.den := (((), ((), ((), ((), (x4, ((), ((), ((), ((), ((), ((), ((), ((), ((), ((), ((), ((), ((), ((), ()))))))))))))))))))), (), ())
def h61_p0_o1_x4 (z : h61_p0_o1.den) : Int := z.1.2.2.2.2.1
@[simp] theorem h61_p0_o1_x4_y x4 : h61_p0_o1_x4 (h61_p0_o1_y x4) = x4 := id rfl
theorem h61_p0_eq rec x0 x7 x8 : h61_p0_st rec (h61_p0_y x0 x7 x8) = (bif (decide (x8 < x7)) then ((nth x0 x8).bind fun y26 => (f47_F (y26, ())).bind fun r27 => bif r27.1 then (some (.inr ((h61_p0_o1_y x8)))) else (rec (h61_p0_y x0 x7 (IntKind.i64.wrap (x8 + (1 : Int)))))) else (some (.inl h61_p0_o0_y))) := by kernel_rfl
theorem h61_eq x0 : h61_F (h61_y x0) = ((go h61_p0_st (h61_p0_y x0 (x0.length : Int) (0 : Int))).bind fun o28 => (match o28 with | .inl z29 => some (h61_o_y (-1 : Int)) | .inr o30 => some (h61_o_y (h61_p0_o1_x4 o30)))) := by kernel_rfl
def h46_y (x0 : List Int) : h46_I.den := ((x0, (((), ()), ())), (), ())
def h46_o_y (x0 : Bool) : h46_O.den := ((x0, ()), (), ())
def h46_o_x0 (z : h46_O.den) : Bool := z.1.1
@[simp] theorem h46_o_x0_y x0 : h46_o_x0 (h46_o_y x0) = x0 := id rfl
theorem h46_eq x0 : h46_F (h46_y x0) = ((h61_F (h61_y x0)).bind fun z31 => some (h46_o_y (decide ((h61_o_x0 z31) ≥ (0 : Int))))) := by kernel_rfl
theorem f49_eq a0 : f49_F (a0, ()) = (bif (a0 != (48 : Int)) then (some ((a0 != (49 : Int)), ())) else (some (false, ()))) := by kernel_rfl
def h62_y (x0 : List Int) : h62_I.den := ((x0, (((), ()), ())), (), ())
def h62_o_y (x0 : Int) : h62_O.den := ((x0, ()), (), ())
def h62_o_x0 (z : h62_O.den) : Int := z.1.1
@[simp] theorem h62_o_x0_y x0 : h62_o_x0 (h62_o_y x0) = x0 := id rfl
def h62_p0_y (x0 : List Int) (x7 : Int) (x8 : Int) : h62_p0_sh.den := ((x0, (((), ()), ((), ((), ((), ((), ((), (x7, (x8, ((), ((), ((), ((), ((), ((), ((), ((), ((), ((), ()))))))))))))))))))), (), ())
def h62_p0_o0_y : h62_p0_o0.den := (((), ((), ((), ((), ((), ((), ((), ((), ((), ((), ((), ((), ((), ((), ((), ((), ((), ((), ((), ()))))))))))))))))))), (), ())
def h62_p0_o1_y (x4 : Int) : h62_p0_o1.den := (((), ((), ((), ((), (x4, ((), ((), ((), ((), ((), ((), ((), ((), ((), ((), ((), ((), ((), ((), ()))))))))))))))))))), (), ())
def h62_p0_o1_x4 (z : h62_p0_o1.den) : Int := z.1.2.2.2.2.1
@[simp] theorem h62_p0_o1_x4_y x4 : h62_p0_o1_x4 (h62_p0_o1_y x4) = x4 := id rfl
theorem h62_p0_eq rec x0 x7 x8 : h62_p0_st rec (h62_p0_y x0 x7 x8) = (bif (decide (x8 < x7)) then ((nth x0 x8).bind fun y32 => (f49_F (y32, ())).bind fun r33 => bif r33.1 then (some (.inr ((h62_p0_o1_y x8)))) else (rec (h62_p0_y x0 x7 (IntKind.i64.wrap (x8 + (1 : Int)))))) else (some (.inl h62_p0_o0_y))) := by kernel_rfl
theorem h62_eq x0 : h62_F (h62_y x0) = ((go h62_p0_st (h62_p0_y x0 (x0.length : Int) (0 : Int))).bind fun o34 => (match o34 with | .inl z35 => some (h62_o_y (-1 : Int)) | .inr o36 => some (h62_o_y (h62_p0_o1_x4 o36)))) := by kernel_rfl
def h48_y (x0 : List Int) : h48_I.den := ((x0, (((), ()), ())), (), ())
def h48_o_y (x0 : Bool) : h48_O.den := ((x0, ()), (), ())
def h48_o_x0 (z : h48_O.den) : Bool := z.1.1
@[simp] theorem h48_o_x0_y x0 : h48_o_x0 (h48_o_y x0) = x0 := id rfl
theorem h48_eq x0 : h48_F (h48_y x0) = ((h62_F (h62_y x0)).bind fun z37 => some (h48_o_y (decide ((h62_o_x0 z37) ≥ (0 : Int))))) := by kernel_rfl
def f24_p0_y (r0_0 : Int) (r0_1 : List (List UInt8)) (r0_2 : List Int) : f24_p0_sh.den := (((), ((), ((), ((), ((), ((), ((), ((), ((), ((), ((), ((), ((), ((), ((), ((), ((), ((), ((), ((), ((), ((), ((), ((), ((), ((), ((), ((), ((), ((), ((), ((), ((), ((), ((), ((), ((), ((), ((), ((), ((), ((), ((), ((), ((), ((), ((), ((), ((), ((), ((), ((), ((), ((), ((), ((), ((), ((), ((), ((), ((), ((), ((), ()))))))))))))))))))))))))))))))))))))))))))))))))))))))))))))))), ((r0_0, (r0_1, (r0_2, ()))), ()), ())
def f24_p0_o0_y (x37 : Bool) (r0_0 : Int) (r0_1 : List (List UInt8)) (r0_2 : List Int) : f24_p0_o0.den := (((), ((), ((), ((), ((), ((), ((), ((), ((), ((), ((), ((), ((), ((), ((), ((), ((), ((), ((), ((), ((), ((), ((), ((), ((), ((), ((), ((), ((), ((), ((), ((), ((), ((), ((), ((), ((), (x37, ((), ((), ((), ((), ((), ((), ((), ((), ((), ((), ((), ((), ((), ((), ((), ((), ((), ((), ((), ((), ((), ((), ((), ((), ((), ()))))))))))))))))))))))))))))))))))))))))))))))))))))))))))))))), ((r0_0, (r0_1, (r0_2, ()))), ()), ())
def f24_p0_o0_x37 (z : f24_p0_o0.den) : Bool := z.1.2.2.2.2.2.2.2.2.2.2.2.2.2.2.2.2.2.2.2.2.2.2.2.2.2.2.2.2.2.2.2.2.2.2.2.2.2.1
def f24_p0_o0_r0_0 (z : f24_p0_o0.den) : Int := z.2.1.1.1
def f24_p0_o0_r0_1 (z : f24_p0_o0.den) : List (List UInt8) := z.2.1.1.2.1
def f24_p0_o0_r0_2 (z : f24_p0_o0.den) : List Int := z.2.1.1.2.2.1
@[simp] theorem f24_p0_o0_x37_y x37 r0_0 r0_1 r0_2 : f24_p0_o0_x37 (f24_p0_o0_y x37 r0_0 r0_1 r0_2) = x37 := id rfl
@[simp] theorem f24_p0_o0_r0_0_y x37 r0_0 r0_1 r0_2 : f24_p0_o0_r0_0 (f24_p0_o0_y x37 r0_0 r0_1 r0_2) = r0_0 := id rfl
@[simp] theorem f24_p0_o0_r0_1_y x37 r0_0 r0_1 r0_2 : f24_p0_o0_r0_1 (f24_p0_o0_y x37 r0_0 r0_1 r0_2) = r0_1 := id rfl
@[simp] theorem f24_p0_o0_r0_2_y x37 r0_0 r0_1 r0_2 : f24_p0_o0_r0_2 (f24_p0_o0_y x37 r0_0 r0_1 r0_2) = r0_2 := id rfl
theorem f24_p0_eq r0_0 r0_1 r0_2 : f24_p0_F (f24_p0_y r0_0 r0_1 r0_2) = ((h43a_F (h43a_y r0_1)).bind fun z38 => bif (h43a_o_x0 z38) then (some ((f24_p0_o0_y true r0_0 r0_1 r0_2))) else ((h46_F (h46_y r0_2)).bind fun z39 => some ((f24_p0_o0_y (h46_o_x0 z39) r0_0 r0_1 r0_2)))) := by kernel_rfl
def f24_p1_y (x4 : Bool) (r0_0 : Int) (r0_1 : List (List UInt8)) (r0_2 : List Int) (r1_0 : List UInt8) (r1_1 : Int) (r1_2 : Int) : f24_p1_sh.den := (((), ((), ((), ((), (x4, ((), ((), ((), ((), ((), ((), ((), ((), ((), ((), ((), ((), ((), ((), ((), ((), ((), ((), ((), ((), ((), ((), ((), ((), ((), ((), ((), ((), ((), ((), ((), ((), ((), ((), ((), ((), ((), ((), ((), ((), ((), ((), ((), ((), ((), ((), ((), ((), ((), ((), ((), ((), ((), ((), ((), ((), ((), ((), ()))))))))))))))))))))))))))))))))))))))))))))))))))))))))))))))), ((r0_0, (r0_1, (r0_2, ()))), ((r1_0, (r1_1, (r1_2, ()))), ())), ())
def f24_p1_o0_y (x29 : Bool) (r0_0 : Int) (r0_1 : List (List UInt8)) (r0_2 : List Int) : f24_p1_o0.den := (((), ((), ((), ((), ((), ((), ((), ((), ((), ((), ((), ((), ((), ((), ((), ((), ((), ((), ((), ((), ((), ((), ((), ((), ((), ((), ((), ((), ((), (x29, ((), ((), ((), ((), ((), ((), ((), ((), ((), ((), ((), ((), ((), ((), ((), ((), ((), ((), ((), ((), ((), ((), ((), ((), ((), ((), ((), ((), ((), ((), ((), ((), ((), ()))))))))))))))))))))))))))))))))))))))))))))))))))))))))))))))), ((r0_0, (r0_1, (r0_2, ()))), ()), ())
def f24_p1_o0_x29 (z : f24_p1_o0.den) : Bool := z.1.2.2.2.2.2.2.2.2.2.2.2.2.2.2.2.2.2.2.2.2.2.2.2.2.2.2.2.2.2.1
def f24_p1_o0_r0_0 (z : f24_p1_o0.den) : Int := z.2.1.1.1
def f24_p1_o0_r0_1 (z : f24_p1_o0.den) : List (List UInt8) := z.2.1.1.2.1
def f24_p1_o0_r0_2 (z : f24_p1_o0.den) : List Int := z.2.1.1.2.2.1
@[simp] theorem f24_p1_o0_x29_y x29 r0_0 r0_1 r0_2 : f24_p1_o0_x29 (f24_p1_o0_y x29 r0_0 r0_1 r0_2) = x29 := id rfl
@[simp] theorem f24_p1_o0_r0_0_y x29 r0_0 r0_1 r0_2 : f24_p1_o0_r0_0 (f24_p1_o0_y x29 r0_0 r0_1 r0_2) = r0_0 := id rfl
@[simp] theorem f24_p1_o0_r0_1_y x29 r0_0 r0_1 r0_2 : f24_p1_o0_r0_1 (f24_p1_o0_y x29 r0_0 r0_1 r0_2) = r0_1 := id rfl
@[simp] theorem f24_p1_o0_r0_2_y x29 r0_0 r0_1 r0_2 : f24_p1_o0_r0_2 (f24_p1_o0_y x29 r0_0 r0_1 r0_2) = r0_2 := id rfl
theorem f24_p1_eq x4 r0_0 r0_1 r0_2 r1_0 r1_1 r1_2 : f24_p1_F (f24_p1_y x4 r0_0 r0_1 r0_2 r1_0 r1_1 r1_2) = (bif (!x4) then (some ((f24_p1_o0_y true r0_0 r0_1 r0_2))) else (bif ((r0_1.length : Int) != r1_1) then (some ((f24_p1_o0_y true r0_0 r0_1 r0_2))) else (some ((f24_p1_o0_y ((r0_2.length : Int) != r1_2) r0_0 r0_1 r0_2))))) := by kernel_rfl
theorem f24_eq a0_0 a0_1 a0_2 : f24_F ((a0_0, (a0_1, (a0_2, ()))), ()) = ((h36_F h36_y).bind fun z40 => (f24_p1_F (f24_p1_y (mget (.int .i64) (.prod .str (.prod (.int .i64) (.int .i64))) true (h36_o_l0 z40) a0_0).isSome a0_0 a0_1 a0_2 ((mget (.int .i64) (.prod .str (.prod (.int .i64) (.int .i64))) true (h36_o_l0 z40) a0_0).getD (([] : List UInt8), ((0 : Int), (0 : Int)))).1 ((mget (.int .i64) (.prod .str (.prod (.int .i64) (.int .i64))) true (h36_o_l0 z40) a0_0).getD (([] : List UInt8), ((0 : Int), (0 : Int)))).2.1 ((mget (.int .i64) (.prod .str (.prod (.int .i64) (.int .i64))) true (h36_o_l0 z40) a0_0).getD (([] : List UInt8), ((0 : Int), (0 : Int)))).2.2)).bind fun o41 => bif (f24_p1_o0_x29 o41) then (some (false, ())) else ((f24_p0_F (f24_p0_y (f24_p1_o0_r0_0 o41) (f24_p1_o0_r0_1 o41) (f24_p1_o0_r0_2 o41))).bind fun o42 => bif (f24_p0_o0_x37 o42) then (some (false, ())) else (bif ((f24_p0_o0_r0_0 o42) == (2 : Int)) then ((nth (f24_p0_o0_r0_2 o42) (1 : Int)).bind fun y43 => some ((decide (y43 ≤ (1 : Int))), ())) else (bif ((f24_p0_o0_r0_0 o42) == (8 : Int)) then ((nth (f24_p0_o0_r0_2 o42) (0 : Int)).bind fun y44 => some ((decide (y44 ≤ (1 : Int))), ())) else (bif ((f24_p0_o0_r0_0 o42) == (6 : Int)) then ((nth (f24_p0_o0_r0_1 o42) (0 : Int)).bind fun y45 => (h48_F (h48_y (bytesOf y45))).bind fun z46 => some ((!(h48_o_x0 z46)), ())) else (some (true, ()))))))) := by kernel_rfl
theorem f23_eq a0_0 a0_1 a0_2 : f23_F ((a0_0, (a0_1, (a0_2, ()))), ()) = ((f24_F ((a0_0, (a0_1, (a0_2, ()))), ())).bind fun r47 => some ((!r47.1), ())) := by kernel_rfl
def h44_y (x0 : List ((Int × (List (List UInt8) × List Int)))) : h44_I.den := ((x0, (((), ()), ())), (), ())
def h44_o_y (x0 : Int) : h44_O.den := ((x0, ()), (), ())
def h44_o_x0 (z : h44_O.den) : Int := z.1.1
@[simp] theorem h44_o_x0_y x0 : h44_o_x0 (h44_o_y x0) = x0 := id rfl
def h44_p0_y (x0 : List ((Int × (List (List UInt8) × List Int)))) (x7 : Int) (x8 : Int) : h44_p0_sh.den := ((x0, (((), ()), ((), ((), ((), ((), ((), (x7, (x8, ((), ((), ((), ((), ((), ((), ((), ((), ((), ((), ()))))))))))))))))))), (), ())
def h44_p0_o0_y : h44_p0_o0.den := (((), ((), ((), ((), ((), ((), ((), ((), ((), ((), ((), ((), ((), ((), ((), ((), ((), ((), ((), ()))))))))))))))))))), (), ())
def h44_p0_o1_y (x4 : Int) : h44_p0_o1.den := (((), ((), ((), ((), (x4, ((), ((), ((), ((), ((), ((), ((), ((), ((), ((), ((), ((), ((), ((), ()))))))))))))))))))), (), ())
def h44_p0_o1_x4 (z : h44_p0_o1.den) : Int := z.1.2.2.2.2.1
@[simp] theorem h44_p0_o1_x4_y x4 : h44_p0_o1_x4 (h44_p0_o1_y x4) = x4 := id rfl
theorem h44_p0_eq rec x0 x7 x8 : h44_p0_st rec (h44_p0_y x0 x7 x8) = (bif (decide (x8 < x7)) then ((nth x0 x8).bind fun y48 => (f23_F ((y48.1, (y48.2.1, (y48.2.2, ()))), ())).bind fun r49 => bif r49.1 then (some (.inr ((h44_p0_o1_y x8)))) else (rec (h44_p0_y x0 x7 (IntKind.i64.wrap (x8 + (1 : Int)))))) else (some (.inl h44_p0_o0_y))) := by kernel_rfl
theorem h44_eq x0 : h44_F (h44_y x0) = ((go h44_p0_st (h44_p0_y x0 (x0.length : Int) (0 : Int))).bind fun o50 => (match o50 with | .inl z51 => some (h44_o_y (-1 : Int)) | .inr o52 => some (h44_o_y (h44_p0_o1_x4 o52)))) := by kernel_rfl
def h22_y (x0 : List ((Int × (List (List UInt8) × List Int)))) : h22_I.den := ((x0, (((), ()), ())), (), ())
def h22_o_y (x0 : Bool) : h22_O.den := ((x0, ()), (), ())
def h22_o_x0 (z : h22_O.den) : Bool := z.1.1
@[simp] theorem h22_o_x0_y x0 : h22_o_x0 (h22_o_y x0) = x0 := id rfl
theorem h22_eq x0 : h22_F (h22_y x0) = ((h44_F (h44_y x0)).bind fun z53 => some (h22_o_y (decide ((h44_o_x0 z53) ≥ (0 : Int))))) := by kernel_rfl
theorem f10_eq a0_0 a0_1 a0_2 a0_3 a0_4 : f10_F ((a0_0, (a0_1, (a0_2, (a0_3, (a0_4, ()))))), ()) = ((f21_F ((a0_0, (a0_1, (a0_2, (a0_3, (a0_4, ()))))), ())).bind fun r54 => bif r54.1 then (bif (decide ((a0_4.length : Int) ≤ (200 : Int))) then ((h22_F (h22_y a0_4)).bind fun z55 => some ((!(h22_o_x0 z55)), ())) else (some (false, ()))) else (some (false, ()))) := by kernel_rfl
def h52a_y (x1 : Int) (l0 : List Int) : h52a_I.den := (((), (x1, ())), (((), ((), ())), ()), (l0, ()))
def h52a_o_y (l0 : List Int) : h52a_O.den := (((), ()), (((), ((), ())), ()), (l0, ()))
def h52a_o_l0 (z : h52a_O.den) : List Int := z.2.2.1
@[simp] theorem h52a_o_l0_y l0 : h52a_o_l0 (h52a_o_y l0) = l0 := id rfl
theorem h52a_eq x1 l0 : h52a_F (h52a_y x1 l0) = ((h68_F (h68_y l0)).bind fun z57 => appOk ((h68_o_l0 z57).length + [x1].length) (some (h52a_o_y ((h68_o_l0 z57) ++ [x1])))) := by kernel_rfl
def f34_p0_y (x0 : List UInt8) (x6 : Int) (x7 : Int) (l0 : List Int) : f34_p0_sh.den := ((x0, ((), ((), ((), ((), ((), (x6, (x7, ((), ((), ((), ((), ((), ((), ((), ((), ((), ((), ((), ((), ((), ((), ((), ((), ())))))))))))))))))))))))), (((), ((), ())), ()), (l0, ()))
def f34_p0_o0_y (l0 : List Int) : f34_p0_o0.den := (((), ((), ((), ((), ((), ((), ((), ((), ((), ((), ((), ((), ((), ((), ((), ((), ((), ((), ((), ((), ((), ((), ((), ((), ())))))))))))))))))))))))), (((), ((), ())), ()), (l0, ()))
def f34_p0_o0_l0 (z : f34_p0_o0.den) : List Int := z.2.2.1
@[simp] theorem f34_p0_o0_l0_y l0 : f34_p0_o0_l0 (f34_p0_o0_y l0) = l0 := id rfl
theorem f34_p0_eq rec x0 x6 x7 l0 : f34_p0_st rec (f34_p0_y x0 x6 x7 l0) = (bif (decide (x7 < x6)) then ((nth x0 x7).bind fun c58 => (nth ([48, 49, 50, 51, 52, 53, 54, 55, 56, 57, 97, 98, 99, 100, 101, 102] : List UInt8) (Int.fdiv (c58.toNat : Int) (2 ^ (min (Int.toNat (4 : Int)) 8)))).bind fun c59 => (h52a_F (h52a_y (c59.toNat : Int) l0)).bind fun z60 => (nth x0 x7).bind fun c61 => (nth ([48, 49, 50, 51, 52, 53, 54, 55, 56, 57, 97, 98, 99, 100, 101, 102] : List UInt8) (IntKind.u8.wrap (((BitVec.ofInt 8 (c61.toNat : Int) &&& BitVec.ofInt 8 (15 : Int)).toNat : Int)))).bind fun c62 => (h52a_F (h52a_y (c62.toNat : Int) (h52a_o_l0 z60))).bind fun z63 => rec (f34_p0_y x0 x6 (IntKind.i64.wrap (x7 + (1 : Int))) (h52a_o_l0 z63))) else (some ((f34_p0_o0_y l0)))) := by kernel_rfl
theorem f34_eq a0 : f34_F (a0, ()) = ((go f34_p0_st (f34_p0_y a0 (a0.length : Int) (0 : Int) ([] : List (Int)))).bind fun o64 => (h53_F (h53_y (f34_p0_o0_l0 o64))).bind fun z65 => some ((h53_o_x0 z65), ())) := by kernel_rfl
def f15_p0_y (x8 : List (List UInt8)) (x9 : Int) (x10 : Int) (r0_0 : List (List UInt8)) (r0_1 : List UInt8) (r0_2 : Int) (r0_3 : Int) (r0_4 : List ((Int × (List (List UInt8) × List Int)))) (l0 : List (List UInt8)) : f15_p0_sh.den := (((), ((), ((), ((), ((), ((), ((), ((), (x8, (x9, (x10, ((), ((), ((), ((), ((), ((), ((), ((), ((), ((), ((), ((), ((), ((), ((), ((), ((), ((), ((), ((), ((), ((), ((), ())))))))))))))))))))))))))))))))))), ((r0_0, (r0_1, (r0_2, (r0_3, (r0_4, ()))))), ()), (l0, ()))
def f15_p0_o0_y (r0_0 : List (List UInt8)) (r0_1 : List UInt8) (r0_2 : Int) (r0_3 : Int) (r0_4 : List ((Int × (List (List UInt8) × List Int)))) (l0 : List (List UInt8)) : f15_p0_o0.den := (((), ((), ((), ((), ((), ((), ((), ((), ((), ((), ((), ((), ((), ((), ((), ((), ((), ((), ((), ((), ((), ((), ((), ((), ((), ((), ((), ((), ((), ((), ((), ((), ((), ((), ())))))))))))))))))))))))))))))))))), ((r0_0, (r0_1, (r0_2, (r0_3, (r0_4, ()))))), ()), (l0, ()))
def f15_p0_o0_r0_0 (z : f15_p0_o0.den) : List (List UInt8) := z.2.1.1.1
def f15_p0_o0_r0_1 (z : f15_p0_o0.den) : List UInt8 := z.2.1.1.2.1
def f15_p0_o0_r0_2 (z : f15_p0_o0.den) : Int := z.2.1.1.2.2.1
def f15_p0_o0_r0_3 (z : f15_p0_o0.den) : Int := z.2.1.1.2.2.2.1
def f15_p0_o0_r0_4 (z : f15_p0_o0.den) : List ((Int × (List (List UInt8) × List Int))) := z.2.1.1.2.2.2.2.1
def f15_p0_o0_l0 (z : f15_p0_o0.den) : List (List UInt8) := z.2.2.1
@[simp] theorem f15_p0_o0_r0_0_y r0_0 r0_1 r0_2 r0_3 r0_4 l0 : f15_p0_o0_r0_0 (f15_p0_o0_y r0_0 r0_1 r0_2 r0_3 r0_4 l0) = r0_0 := id rfl
@[simp] theorem f15_p0_o0_r0_1_y r0_0 r0_1 r0_2 r0_3 r0_4 l0 : f15_p0_o0_r0_1 (f15_p0_o0_y r0_0 r0_1 r0_2 r0_3 r0_4 l0) = r0_1 := id rfl
@[simp] theorem f15_p0_o0_r0_2_y r0_0 r0_1 r0_2 r0_3 r0_4 l0 : f15_p0_o0_r0_2 (f15_p0_o0_y r0_0 r0_1 r0_2 r0_3 r0_4 l0) = r0_2 := id rfl
@[simp] theorem f15_p0_o0_r0_3_y r0_0 r0_1 r0_2 r0_3 r0_4 l0 : f15_p0_o0_r0_3 (f15_p0_o0_y r0_0 r0_1 r0_2 r0_3 r0_4 l0) = r0_3 := id rfl
@[simp] theorem f15_p0_o0_r0_4_y r0_0 r0_1 r0_2 r0_3 r0_4 l0 : f15_p0_o0_r0_4 (f15_p0_o0_y r0_0 r0_1 r0_2 r0_3 r0_4 l0) = r0_4 := id rfl
@[simp] theorem f15_p0_o0_l0_y r0_0 r0_1 r0_2 r0_3 r0_4 l0 : f15_p0_o0_l0 (f15_p0_o0_y r0_0 r0_1 r0_2 r0_3 r0_4 l0) = l0 := id rfl
theorem f15_p0_eq rec x8 x9 x10 r0_0 r0_1 r0_2 r0_3 r0_4 l0 : f15_p0_st rec (f15_p0_y x8 x9 x10 r0_0 r0_1 r0_2 r0_3 r0_4 l0) = (bif (decide (x10 < x9)) then ((nth x8 x10).bind fun y66 => (f34_F (y66, ())).bind fun r67 => appOk (l0.length + [r67.1].length) (rec (f15_p0_y x8 x9 (IntKind.i64.wrap (x10 + (1 : Int))) r0_0 r0_1 r0_2 r0_3 r0_4 (l0 ++ [r67.1])))) else (some ((f15_p0_o0_y r0_0 r0_1 r0_2 r0_3 r0_4 l0)))) := by kernel_rfl
theorem f15_eq a0_0 a0_1 a0_2 a0_3 a0_4 : f15_F ((a0_0, (a0_1, (a0_2, (a0_3, (a0_4, ()))))), ()) = ((go f15_p0_st (f15_p0_y a0_0 (a0_0.length : Int) (0 : Int) a0_0 a0_1 a0_2 a0_3 a0_4 ([([115, 121, 115, 116, 101, 109] : List UInt8)] : List (List UInt8)))).bind fun o68 => (f34_F ((f15_p0_o0_r0_1 o68), ())).bind fun r69 => (itoaF ((f15_p0_o0_r0_2 o68), ())).bind fun r70 => (itoaF ((f15_p0_o0_r0_3 o68), ())).bind fun r71 => appOk ((f15_p0_o0_l0 o68).length + [r69.1, r70.1, r71.1].length) ((joinF (((f15_p0_o0_l0 o68) ++ [r69.1, r70.1, r71.1]), (([32] : List UInt8), ()))).bind fun r72 => some (r72.1, ()))) := by kernel_rfl
def f16_p0_y (x29 : List Int) (x30 : Int) (x31 : Int) (l1 : List (List UInt8)) : f16_p0_sh.den := (((), ((), ((), ((), ((), ((), ((), ((), ((), ((), ((), ((), ((), ((), ((), ((), ((), ((), ((), ((), ((), ((), ((), ((), ((), ((), ((), ((), ((), (x29, (x30, (x31, ((), ((), ((), ((), ((), ((), ((), ((), ((), ((), ((), ()))))))))))))))))))))))))))))))))))))))))))), (), (l1, ()))
def f16_p0_o0_y (l1 : List (List UInt8)) : f16_p0_o0.den := (((), ((), ((), ((), ((), ((), ((), ((), ((), ((), ((), ((), ((), ((), ((), ((), ((), ((), ((), ((), ((), ((), ((), ((), ((), ((), ((), ((), ((), ((), ((), ((), ((), ((), ((), ((), ((), ((), ((), ((), ((), ((), ((), ()))))))))))))))))))))))))))))))))))))))))))), (), (l1, ()))
def f16_p0_o0_l1 (z : f16_p0_o0.den) : List (List UInt8) := z.2.2.1
@[simp] theorem f16_p0_o0_l1_y l1 : f16_p0_o0_l1 (f16_p0_o0_y l1) = l1 := id rfl
theorem f16_p0_eq rec x29 x30 x31 l1 : f16_p0_st rec (f16_p0_y x29 x30 x31 l1) = (bif (decide (x31 < x30)) then ((nth x29 x31).bind fun y73 => (itoaF (y73, ())).bind fun r74 => appOk (l1.length + [r74.1].length) (rec (f16_p0_y x29 x30 (IntKind.i64.wrap (x31 + (1 : Int))) (l1 ++ [r74.1])))) else (some ((f16_p0_o0_y l1)))) := by kernel_rfl
def f16_p1_y (x15 : List (List UInt8)) (x16 : Int) (x17 : Int) (r0_0 : Int) (r0_1 : List (List UInt8)) (r0_2 : List Int) (l1 : List (List UInt8)) : f16_p1_sh.den := (((), ((), ((), ((), ((), ((), ((), ((), ((), ((), ((), ((), ((), ((), ((), (x15, (x16, (x17, ((), ((), ((), ((), ((), ((), ((), ((), ((), ((), ((), ((), ((), ((), ((), ((), ((), ((), ((), ((), ((), ((), ((), ((), ((), ()))))))))))))))))))))))))))))))))))))))))))), ((r0_0, (r0_1, (r0_2, ()))), ()), (l1, ()))
def f16_p1_o0_y (r0_0 : Int) (r0_1 : List (List UInt8)) (r0_2 : List Int) (l1 : List (List UInt8)) : f16_p1_o0.den := (((), ((), ((), ((), ((), ((), ((), ((), ((), ((), ((), ((), ((), ((), ((), ((), ((), ((), ((), ((), ((), ((), ((), ((), ((), ((), ((), ((), ((), ((), ((), ((), ((), ((), ((), ((), ((), ((), ((), ((), ((), ((), ((), ()))))))))))))))))))))))))))))))))))))))))))), ((r0_0, (r0_1, (r0_2, ()))), ()), (l1, ()))
def f16_p1_o0_r0_0 (z : f16_p1_o0.den) : Int := z.2.1.1.1
def f16_p1_o0_r0_1 (z : f16_p1_o0.den) : List (List UInt8) := z.2.1.1.2.1
def f16_p1_o0_r0_2 (z : f16_p1_o0.den) : List Int := z.2.1.1.2.2.1
def f16_p1_o0_l1 (z : f16_p1_o0.den) : List (List UInt8) := z.2.2.1
@[simp] theorem f16_p1_o0_r0_0_y r0_0 r0_1 r0_2 l1 : f16_p1_o0_r0_0 (f16_p1_o0_y r0_0 r0_1 r0_2 l1) = r0_0 := id rfl
@[simp] theorem f16_p1_o0_r0_1_y r0_0 r0_1 r0_2 l1 : f16_p1_o0_r0_1 (f16_p1_o0_y r0_0 r0_1 r0_2 l1) = r0_1 := id rfl
@[simp] theorem f16_p1_o0_r0_2_y r0_0 r0_1 r0_2 l1 : f16_p1_o0_r0_2 (f16_p1_o0_y r0_0 r0_1 r0_2 l1) = r0_2 := id rfl
@[simp] theorem f16_p1_o0_l1_y r0_0 r0_1 r0_2 l1 : f16_p1_o0_l1 (f16_p1_o0_y r0_0 r0_1 r0_2 l1) = l1 := id rfl
theorem f16_p1_eq rec x15 x16 x17 r0_0 r0_1 r0_2 l1 : f16_p1_st rec (f16_p1_y x15 x16 x17 r0_0 r0_1 r0_2 l1) = (bif (decide (x17 < x16)) then ((nth x15 x17).bind fun y75 => (f34_F (y75, ())).bind fun r76 => if ([120] : List UInt8).length + r76.1.length ≤ 4611686018427387904 then (appOk (l1.length + [(([120] : List UInt8) ++ r76.1)].length) (rec (f16_p1_y x15 x16 (IntKind.i64.wrap (x17 + (1 : Int))) r0_0 r0_1 r0_2 (l1 ++ [(([120] : List UInt8) ++ r76.1)])))) else none) else (some ((f16_p1_o0_y r0_0 r0_1 r0_2 l1)))) := by kernel_rfl
theorem f16_eq a0_0 a0_1 a0_2 : f16_F ((a0_0, (a0_1, (a0_2, ()))), ()) = ((h36_F h36_y).bind fun z77 => (go f16_p1_st (f16_p1_y a0_1 (a0_1.length : Int) (0 : Int) a0_0 a0_1 a0_2 ([((mget (.int .i64) (.prod .str (.prod (.int .i64) (.int .i64))) true (h36_o_l0 z77) a0_0).getD (([] : List UInt8), ((0 : Int), (0 : Int)))).1] : List (List UInt8)))).bind fun o78 => (go f16_p0_st (f16_p0_y (f16_p1_o0_r0_2 o78) ((f16_p1_o0_r0_2 o78).length : Int) (0 : Int) (f16_p1_o0_l1 o78))).bind fun o79 => (joinF ((f16_p0_o0_l1 o79), (([32] : List UInt8), ()))).bind fun r80 => some (r80.1, ())) := by kernel_rfl
def f6_p0_y (x4 : List UInt8) (x14 : List ((Int × (List (List UInt8) × List Int)))) (x15 : Int) (x16 : Int) : f6_p0_sh.den := (((), ((), ((), ((), (x4, ((), ((), ((), ((), ((), ((), ((), ((), ((), (x14, (x15, (x16, ((), ((), ((), ((), ((), ((), ((), ((), ((), ((), ()))))))))))))))))))))))))))), (), ())
def f6_p0_o0_y (x4 : List UInt8) : f6_p0_o0.den := (((), ((), ((), ((), (x4, ((), ((), ((), ((), ((), ((), ((), ((), ((), ((), ((), ((), ((), ((), ((), ((), ((), ((), ((), ((), ((), ((), ()))))))))))))))))))))))))))), (), ())
def f6_p0_o0_x4 (z : f6_p0_o0.den) : List UInt8 := z.1.2.2.2.2.1
@[simp] theorem f6_p0_o0_x4_y x4 : f6_p0_o0_x4 (f6_p0_o0_y x4) = x4 := id rfl
theorem f6_p0_eq rec x4 x14 x15 x16 : f6_p0_st rec (f6_p0_y x4 x14 x15 x16) = (bif (decide (x16 < x15)) then ((nth x14 x16).bind fun y81 => (f16_F ((y81.1, (y81.2.1, (y81.2.2, ()))), ())).bind fun r82 => if r82.1.length + ([10] : List UInt8).length ≤ 4611686018427387904 then (if x4.length + (r82.1 ++ ([10] : List UInt8)).length ≤ 4611686018427387904 then (rec (f6_p0_y (x4 ++ (r82.1 ++ ([10] : List UInt8))) x14 x15 (IntKind.i64.wrap (x16 + (1 : Int))))) else none) else none) else (some ((f6_p0_o0_y x4)))) := by kernel_rfl
theorem f6_eq a0_0 a0_1 a0_2 a0_3 a0_4 : f6_F ((a0_0, (a0_1, (a0_2, (a0_3, (a0_4, ()))))), ()) = ((f10_F ((a0_0, (a0_1, (a0_2, (a0_3, (a0_4, ()))))), ())).bind fun r83 => bif (!r83.1) then (some (([] : List UInt8), ((1 : Int), ()))) else ((f15_F ((a0_0, (a0_1, (a0_2, (a0_3, (a0_4, ()))))), ())).bind fun r84 => if r84.1.length + ([10] : List UInt8).length ≤ 4611686018427387904 then ((go f6_p0_st (f6_p0_y (r84.1 ++ ([10] : List UInt8)) a0_4 (a0_4.length : Int) (0 : Int))).bind fun o85 => some ((f6_p0_o0_x4 o85), ((0 : Int), ()))) else none)) := by kernel_rfl
def f57_p0_y (x0 : List UInt8) (x5 : Int) (x6 : Int) (l0 : List Int) : f57_p0_sh.den := ((x0, ((), ((), ((), ((), (x5, (x6, ((), ((), ((), ((), ((), ((), ((), ((), ((), ((), ((), ((), ((), ((), ((), ((), ((), ((), ((), ((), ((), ((), ((), ((), ((), ((), ((), ((), ((), ())))))))))))))))))))))))))))))))))))), (), (l0, ()))
def f57_p0_o0_y (x0 : List UInt8) (x5 : Int) (x6 : Int) (x23 : Bool) (l0 : List Int) : f57_p0_o0.den := ((x0, ((), ((), ((), ((), (x5, (x6, ((), ((), ((), ((), ((), ((), ((), ((), ((), ((), ((), ((), ((), ((), ((), ((), (x23, ((), ((), ((), ((), ((), ((), ((), ((), ((), ((), ((), ((), ())))))))))))))))))))))))))))))))))))), (), (l0, ()))
def f57_p0_o0_x0 (z : f57_p0_o0.den) : List UInt8 := z.1.1
def f57_p0_o0_x5 (z : f57_p0_o0.den) : Int := z.1.2.2.2.2.2.1
def f57_p0_o0_x6 (z : f57_p0_o0.den) : Int := z.1.2.2.2.2.2.2.1
def f57_p0_o0_x23 (z : f57_p0_o0.den) : Bool := z.1.2.2.2.2.2.2.2.2.2.2.2.2.2.2.2.2.2.2.2.2.2.2.2.1
def f57_p0_o0_l0 (z : f57_p0_o0.den) : List Int := z.2.2.1
@[simp] theorem f57_p0_o0_x0_y x0 x5 x6 x23 l0 : f57_p0_o0_x0 (f57_p0_o0_y x0 x5 x6 x23 l0) = x0 := id rfl
@[simp] theorem f57_p0_o0_x5_y x0 x5 x6 x23 l0 : f57_p0_o0_x5 (f57_p0_o0_y x0 x5 x6 x23 l0) = x5 := id rfl
@[simp] theorem f57_p0_o0_x6_y x0 x5 x6 x23 l0 : f57_p0_o0_x6 (f57_p0_o0_y x0 x5 x6 x23 l0) = x6 := id rfl
@[simp] theorem f57_p0_o0_x23_y x0 x5 x6 x23 l0 : f57_p0_o0_x23 (f57_p0_o0_y x0 x5 x6 x23 l0) = x23 := id rfl
@[simp] theorem f57_p0_o0_l0_y x0 x5 x6 x23 l0 : f57_p0_o0_l0 (f57_p0_o0_y x0 x5 x6 x23 l0) = l0 := id rfl
theorem f57_p0_eq x0 x5 x6 l0 : f57_p0_F (f57_p0_y x0 x5 x6 l0) = (bif (decide (x5 < (0 : Int))) then (some ((f57_p0_o0_y x0 x5 x6 true l0))) else (some ((f57_p0_o0_y x0 x5 x6 (decide (x6 < (0 : Int))) l0)))) := by kernel_rfl
def f57_p1_y (x0 : List UInt8) (l0 : List Int) : f57_p1_sh.den := ((x0, ((), ((), ((), ((), ((), ((), ((), ((), ((), ((), ((), ((), ((), ((), ((), ((), ((), ((), ((), ((), ((), ((), ((), ((), ((), ((), ((), ((), ((), ((), ((), ((), ((), ((), ((), ())))))))))))))))))))))))))))))))))))), (), (l0, ()))
def f57_p1_o0_y (x0 : List UInt8) (l0 : List Int) : f57_p1_o0.den := ((x0, ((), ((), ((), ((), ((), ((), ((), ((), ((), ((), ((), ((), ((), ((), ((), ((), ((), ((), ((), ((), ((), ((), ((), ((), ((), ((), ((), ((), ((), ((), ((), ((), ((), ((), ((), ())))))))))))))))))))))))))))))))))))), (), (l0, ()))
def f57_p1_o0_x0 (z : f57_p1_o0.den) : List UInt8 := z.1.1
def f57_p1_o0_l0 (z : f57_p1_o0.den) : List Int := z.2.2.1
@[simp] theorem f57_p1_o0_x0_y x0 l0 : f57_p1_o0_x0 (f57_p1_o0_y x0 l0) = x0 := id rfl
@[simp] theorem f57_p1_o0_l0_y x0 l0 : f57_p1_o0_l0 (f57_p1_o0_y x0 l0) = l0 := id rfl
def f57_p1_o1_y (x2 : List UInt8) (x3 : Int) : f57_p1_o1.den := (((), ((), (x2, (x3, ((), ((), ((), ((), ((), ((), ((), ((), ((), ((), ((), ((), ((), ((), ((), ((), ((), ((), ((), ((), ((), ((), ((), ((), ((), ((), ((), ((), ((), ((), ((), ((), ())))))))))))))))))))))))))))))))))))), (), ())
def f57_p1_o1_x2 (z : f57_p1_o1.den) : List UInt8 := z.1.2.2.1
def f57_p1_o1_x3 (z : f57_p1_o1.den) : Int := z.1.2.2.2.1
theorem f57_p1_eq rec x0 l0 : f57_p1_st rec (f57_p1_y x0 l0) = (bif (decide ((x0.length : Int) ≥ (2 : Int))) then ((nth x0 (0 : Int)).bind fun c86 => (indexF (([48, 49, 50, 51, 52, 53, 54, 55, 56, 57, 97, 98, 99, 100, 101, 102] : List UInt8), ((c86.toNat : Int), ()))).bind fun r87 => (nth x0 (1 : Int)).bind fun c88 => (indexF (([48, 49, 50, 51, 52, 53, 54, 55, 56, 57, 97, 98, 99, 100, 101, 102] : List UInt8), ((c88.toNat : Int), ()))).bind fun r89 => (f57_p0_F (f57_p0_y x0 r87.1 r89.1 l0)).bind fun o90 => bif (f57_p0_o0_x23 o90) then (some (.inr ((f57_p1_o1_y ([] : List UInt8) (4 : Int))))) else (appOk ((f57_p0_o0_l0 o90).length + [(IntKind.u8.wrap (IntKind.i64.wrap (((BitVec.ofInt 64 (IntKind.i64.wrap ((f57_p0_o0_x5 o90) * 2 ^ (min (Int.toNat (4 : Int)) 64))) ||| BitVec.ofInt 64 (f57_p0_o0_x6 o90)).toNat : Int))))].length) (cutLo (f57_p0_o0_x0 o90) (2 : Int) fun s91 => rec (f57_p1_y s91 ((f57_p0_o0_l0 o90) ++ [(IntKind.u8.wrap (IntKind.i64.wrap (((BitVec.ofInt 64 (IntKind.i64.wrap ((f57_p0_o0_x5 o90) * 2 ^ (min (Int.toNat (4 : Int)) 64))) ||| BitVec.ofInt 64 (f57_p0_o0_x6 o90)).toNat : Int))))]))))) else (some (.inl (f57_p1_o0_y x0 l0)))) := by kernel_rfl
theorem f57_eq a0 : f57_F (a0, ()) = ((go f57_p1_st (f57_p1_y a0 ([] : List (Int)))).bind fun o92 => (match o92 with | .inl z93 => bif ((f57_p1_o0_x0 z93) != ([] : List UInt8)) then (some (([] : List UInt8), ((4 : Int), ()))) else (some ((strOf (f57_p1_o0_l0 z93)), ((0 : Int), ()))) | .inr o94 => some ((f57_p1_o1_x2 o94), ((f57_p1_o1_x3 o94), ())))) := by kernel_rfl
theorem f38_eq a0 : f38_F (a0, ()) = ((f57_F (a0, ())).bind fun r95 => some (r95.1, ())) := by kernel_rfl
def h17_y (x0 : List UInt8) : h17_I.den := ((x0, ()), (), ())
def h17_o_y (x0_1 : List UInt8) (x0_2 : Int) (x0_3 : Int) (x1 : Bool) (l0 : List (List UInt8)) : h17_O.den := ((((), (x0_1, (x0_2, (x0_3, ((), ()))))), (x1, ())), (), (l0, ()))
def h17_o_x0_1 (z : h17_O.den) : List UInt8 := z.1.1.2.1
def h17_o_x0_2 (z : h17_O.den) : Int := z.1.1.2.2.1
def h17_o_x0_3 (z : h17_O.den) : Int := z.1.1.2.2.2.1
def h17_o_x1 (z : h17_O.den) : Bool := z.1.2.1
def h17_o_l0 (z : h17_O.den) : List (List UInt8) := z.2.2.1
@[simp] theorem h17_o_x0_1_y x0_1 x0_2 x0_3 x1 l0 : h17_o_x0_1 (h17_o_y x0_1 x0_2 x0_3 x1 l0) = x0_1 := id rfl
@[simp] theorem h17_o_x0_2_y x0_1 x0_2 x0_3 x1 l0 : h17_o_x0_2 (h17_o_y x0_1 x0_2 x0_3 x1 l0) = x0_2 := id rfl
@[simp] theorem h17_o_x0_3_y x0_1 x0_2 x0_3 x1 l0 : h17_o_x0_3 (h17_o_y x0_1 x0_2 x0_3 x1 l0) = x0_3 := id rfl
@[simp] theorem h17_o_x1_y x0_1 x0_2 x0_3 x1 l0 : h17_o_x1 (h17_o_y x0_1 x0_2 x0_3 x1 l0) = x1 := id rfl
@[simp] theorem h17_o_l0_y x0_1 x0_2 x0_3 x1 l0 : h17_o_l0 (h17_o_y x0_1 x0_2 x0_3 x1 l0) = l0 := id rfl
def h17_p0_y (x0 : List UInt8) (x28 : List (List UInt8)) (x29 : Int) (x30 : Int) (r0_1 : List UInt8) (r0_2 : Int) (r0_3 : Int) (r1_1 : List UInt8) (r1_2 : Int) (r1_3 : Int) (l0 : List (List UInt8)) : h17_p0_sh.den := ((x0, ((), ((), ((), ((), ((), ((), ((), ((), ((), ((), ((), ((), ((), ((), ((), ((), ((), ((), ((), ((), ((), ((), ((), ((), ((), ((), ((), (x28, (x29, (x30, ((), ((), ((), ((), ((), ((), ((), ((), ((), ((), ((), ((), ((), ((), ((), ((), ((), ((), ((), ((), ()))))))))))))))))))))))))))))))))))))))))))))))))))), (((), (r0_1, (r0_2, (r0_3, ((), ()))))), (((), (r1_1, (r1_2, (r1_3, ((), ()))))), ())), (l0, ()))
def h17_p0_o0_y (x0 : List UInt8) (r0_1 : List UInt8) (r0_2 : Int) (r0_3 : Int) (r1_1 : List UInt8) (r1_2 : Int) (r1_3 : Int) (l0 : List (List UInt8)) : h17_p0_o0.den := ((x0, ((), ((), ((), ((), ((), ((), ((), ((), ((), ((), ((), ((), ((), ((), ((), ((), ((), ((), ((), ((), ((), ((), ((), ((), ((), ((), ((), ((), ((), ((), ((), ((), ((), ((), ((), ((), ((), ((), ((), ((), ((), ((), ((), ((), ((), ((), ((), ((), ((), ((), ()))))))))))))))))))))))))))))))))))))))))))))))))))), (((), (r0_1, (r0_2, (r0_3, ((), ()))))), (((), (r1_1, (r1_2, (r1_3, ((), ()))))), ())), (l0, ()))
def h17_p0_o0_x0 (z : h17_p0_o0.den) : List UInt8 := z.1.1
def h17_p0_o0_r0_1 (z : h17_p0_o0.den) : List UInt8 := z.2.1.1.2.1
def h17_p0_o0_r0_2 (z : h17_p0_o0.den) : Int := z.2.1.1.2.2.1
def h17_p0_o0_r0_3 (z : h17_p0_o0.den) : Int := z.2.1.1.2.2.2.1
def h17_p0_o0_r1_1 (z : h17_p0_o0.den) : List UInt8 := z.2.1.2.1.2.1
def h17_p0_o0_r1_2 (z : h17_p0_o0.den) : Int := z.2.1.2.1.2.2.1
def h17_p0_o0_r1_3 (z : h17_p0_o0.den) : Int := z.2.1.2.1.2.2.2.1
def h17_p0_o0_l0 (z : h17_p0_o0.den) : List (List UInt8) := z.2.2.1
@[simp] theorem h17_p0_o0_x0_y x0 r0_1 r0_2 r0_3 r1_1 r1_2 r1_3 l0 : h17_p0_o0_x0 (h17_p0_o0_y x0 r0_1 r0_2 r0_3 r1_1 r1_2 r1_3 l0) = x0 := id rfl
@[simp] theorem h17_p0_o0_r0_1_y x0 r0_1 r0_2 r0_3 r1_1 r1_2 r1_3 l0 : h17_p0_o0_r0_1 (h17_p0_o0_y x0 r0_1 r0_2 r0_3 r1_1 r1_2 r1_3 l0) = r0_1 := id rfl
@[simp] theorem h17_p0_o0_r0_2_y x0 r0_1 r0_2 r0_3 r1_1 r1_2 r1_3 l0 : h17_p0_o0_r0_2 (h17_p0_o0_y x0 r0_1 r0_2 r0_3 r1_1 r1_2 r1_3 l0) = r0_2 := id rfl
@[simp] theorem h17_p0_o0_r0_3_y x0 r0_1 r0_2 r0_3 r1_1 r1_2 r1_3 l0 : h17_p0_o0_r0_3 (h17_p0_o0_y x0 r0_1 r0_2 r0_3 r1_1 r1_2 r1_3 l0) = r0_3 := id rfl
@[simp] theorem h17_p0_o0_r1_1_y x0 r0_1 r0_2 r0_3 r1_1 r1_2 r1_3 l0 : h17_p0_o0_r1_1 (h17_p0_o0_y x0 r0_1 r0_2 r0_3 r1_1 r1_2 r1_3 l0) = r1_1 := id rfl
@[simp] theorem h17_p0_o0_r1_2_y x0 r0_1 r0_2 r0_3 r1_1 r1_2 r1_3 l0 : h17_p0_o0_r1_2 (h17_p0_o0_y x0 r0_1 r0_2 r0_3 r1_1 r1_2 r1_3 l0) = r1_2 := id rfl
@[simp] theorem h17_p0_o0_r1_3_y x0 r0_1 r0_2 r0_3 r1_1 r1_2 r1_3 l0 : h17_p0_o0_r1_3 (h17_p0_o0_y x0 r0_1 r0_2 r0_3 r1_1 r1_2 r1_3 l0) = r1_3 := id rfl
@[simp] theorem h17_p0_o0_l0_y x0 r0_1 r0_2 r0_3 r1_1 r1_2 r1_3 l0 : h17_p0_o0_l0 (h17_p0_o0_y x0 r0_1 r0_2 r0_3 r1_1 r1_2 r1_3 l0) = l0 := id rfl
theorem h17_p0_eq rec x0 x28 x29 x30 r0_1 r0_2 r0_3 r1_1 r1_2 r1_3 l0 : h17_p0_st rec (h17_p0_y x0 x28 x29 x30 r0_1 r0_2 r0_3 r1_1 r1_2 r1_3 l0) = (bif (decide (x30 < x29)) then ((nth x28 x30).bind fun y96 => (f38_F (y96, ())).bind fun r97 => appOk (l0.length + [r97.1].length) (rec (h17_p0_y x0 x28 x29 (IntKind.i64.wrap (x30 + (1 : Int))) r0_1 r0_2 r0_3 r1_1 r1_2 r1_3 (l0 ++ [r97.1])))) else (some ((h17_p0_o0_y x0 r0_1 r0_2 r0_3 r1_1 r1_2 r1_3 l0)))) := by kernel_rfl
theorem h17_eq x0 : h17_F (h17_y x0) = ((splitF (x0, (([32] : List UInt8), ()))).bind fun r98 => bif ((r98.1.length : Int) != (8 : Int)) then (some (h17_o_y ([] : List UInt8) (0 : Int) (0 : Int) false ([] : List (List UInt8)))) else ((nth r98.1 (5 : Int)).bind fun y99 => (f38_F (y99, ())).bind fun r100 => (nth r98.1 (6 : Int)).bind fun y101 => (numberF (y101, ())).bind fun r102 => (nth r98.1 (7 : Int)).bind fun y103 => (numberF (y103, ())).bind fun r104 => cutMid r98.1 (1 : Int) (5 : Int) fun s105 => (go h17_p0_st (h17_p0_y x0 s105 (s105.length : Int) (0 : Int) ([] : List UInt8) (0 : Int) (0 : Int) r100.1 r102.1 r104.1 ([] : List (List UInt8)))).bind fun o106 => (f21_F (((h17_p0_o0_l0 o106), ((h17_p0_o0_r1_1 o106), ((h17_p0_o0_r1_2 o106), ((h17_p0_o0_r1_3 o106), (([] : List ((Int × (List (List UInt8) × List Int)))), ()))))), ())).bind fun r107 => bif r107.1 then ((f15_F (((h17_p0_o0_l0 o106), ((h17_p0_o0_r1_1 o106), ((h17_p0_o0_r1_2 o106), ((h17_p0_o0_r1_3 o106), (([] : List ((Int × (List (List UInt8) × List Int)))), ()))))), ())).bind fun r108 => some (h17_o_y (h17_p0_o0_r1_1 o106) (h17_p0_o0_r1_2 o106) (h17_p0_o0_r1_3 o106) (r108.1 == (h17_p0_o0_x0 o106)) (h17_p0_o0_l0 o106))) else (some (h17_o_y (h17_p0_o0_r1_1 o106) (h17_p0_o0_r1_2 o106) (h17_p0_o0_r1_3 o106) false (h17_p0_o0_l0 o106))))) := by kernel_rfl
def f18_p0_y (x0 : List UInt8) (x39 : List (List UInt8)) (x40 : Int) (x41 : Int) (r0_0 : Int) (r1_0 : List UInt8) (r1_1 : Int) (r1_2 : Int) (r2_0 : Int) (l0 : List (List UInt8)) (l1 : List Int) : f18_p0_sh.den := ((x0, ((), ((), ((), ((), ((), ((), ((), ((), ((), ((), ((), ((), ((), ((), ((), ((), ((), ((), ((), ((), ((), ((), ((), ((), ((), ((), ((), ((), ((), ((), ((), ((), ((), ((), ((), ((), ((), ((), (x39, (x40, (x41, ((), ((), ((), ((), ((), ((), ((), ((), ((), ((), ((), ((), ((), ((), ((), ((), ((), ((), ((), ((), ((), ((), ((), ((), ((), ((), ((), ((), ((), ((), ((), ((), ((), ((), ())))))))))))))))))))))))))))))))))))))))))))))))))))))))))))))))))))))))))))), ((r0_0, ((), ((), ()))), ((r1_0, (r1_1, (r1_2, ()))), ((r2_0, ((), ((), ()))), ()))), (l0, (l1, ())))
def f18_p0_o0_y (x0 : List UInt8) (x39 : List (List UInt8)) (x40 : Int) (x41 : Int) (r0_0 : Int) (r1_0 : List UInt8) (r1_1 : Int) (r1_2 : Int) (r2_0 : Int) (l0 : List (List UInt8)) (l1 : List Int) : f18_p0_o0.den := ((x0, ((), ((), ((), ((), ((), ((), ((), ((), ((), ((), ((), ((), ((), ((), ((), ((), ((), ((), ((), ((), ((), ((), ((), ((), ((), ((), ((), ((), ((), ((), ((), ((), ((), ((), ((), ((), ((), ((), (x39, (x40, (x41, ((), ((), ((), ((), ((), ((), ((), ((), ((), ((), ((), ((), ((), ((), ((), ((), ((), ((), ((), ((), ((), ((), ((), ((), ((), ((), ((), ((), ((), ((), ((), ((), ((), ((), ())))))))))))))))))))))))))))))))))))))))))))))))))))))))))))))))))))))))))))), ((r0_0, ((), ((), ()))), ((r1_0, (r1_1, (r1_2, ()))), ((r2_0, ((), ((), ()))), ()))), (l0, (l1, ())))
def f18_p0_o0_x0 (z : f18_p0_o0.den) : List UInt8 := z.1.1
def f18_p0_o0_x39 (z : f18_p0_o0.den) : List (List UInt8) := z.1.2.2.2.2.2.2.2.2.2.2.2.2.2.2.2.2.2.2.2.2.2.2.2.2.2.2.2.2.2.2.2.2.2.2.2.2.2.2.2.1
def f18_p0_o0_x40 (z : f18_p0_o0.den) : Int := z.1.2.2.2.2.2.2.2.2.2.2.2.2.2.2.2.2.2.2.2.2.2.2.2.2.2.2.2.2.2.2.2.2.2.2.2.2.2.2.2.2.1
def f18_p0_o0_x41 (z : f18_p0_o0.den) : Int := z.1.2.2.2.2.2.2.2.2.2.2.2.2.2.2.2.2.2.2.2.2.2.2.2.2.2.2.2.2.2.2.2.2.2.2.2.2.2.2.2.2.2.1
def f18_p0_o0_r0_0 (z : f18_p0_o0.den) : Int := z.2.1.1.1
def f18_p0_o0_r1_0 (z : f18_p0_o0.den) : List UInt8 := z.2.1.2.1.1
def f18_p0_o0_r1_1 (z : f18_p0_o0.den) : Int := z.2.1.2.1.2.1
def f18_p0_o0_r1_2 (z : f18_p0_o0.den) : Int := z.2.1.2.1.2.2.1
def f18_p0_o0_r2_0 (z : f18_p0_o0.den) : Int := z.2.1.2.2.1.1
def f18_p0_o0_l0 (z : f18_p0_o0.den) : List (List UInt8) := z.2.2.1
def f18_p0_o0_l1 (z : f18_p0_o0.den) : List Int := z.2.2.2.1
@[simp] theorem f18_p0_o0_x0_y x0 x39 x40 x41 r0_0 r1_0 r1_1 r1_2 r2_0 l0 l1 : f18_p0_o0_x0 (f18_p0_o0_y x0 x39 x40 x41 r0_0 r1_0 r1_1 r1_2 r2_0 l0 l1) = x0 := id rfl
@[simp] theorem f18_p0_o0_x39_y x0 x39 x40 x41 r0_0 r1_0 r1_1 r1_2 r2_0 l0 l1 : f18_p0_o0_x39 (f18_p0_o0_y x0 x39 x40 x41 r0_0 r1_0 r1_1 r1_2 r2_0 l0 l1) = x39 := id rfl
@[simp] theorem f18_p0_o0_x40_y x0 x39 x40 x41 r0_0 r1_0 r1_1 r1_2 r2_0 l0 l1 : f18_p0_o0_x40 (f18_p0_o0_y x0 x39 x40 x41 r0_0 r1_0 r1_1 r1_2 r2_0 l0 l1) = x40 := id rfl
@[simp] theorem f18_p0_o0_x41_y x0 x39 x40 x41 r0_0 r1_0 r1_1 r1_2 r2_0 l0 l1 : f18_p0_o0_x41 (f18_p0_o0_y x0 x39 x40 x41 r0_0 r1_0 r1_1 r1_2 r2_0 l0 l1) = x41 := id rfl
@[simp] theorem f18_p0_o0_r0_0_y x0 x39 x40 x41 r0_0 r1_0 r1_1 r1_2 r2_0 l0 l1 : f18_p0_o0_r0_0 (f18_p0_o0_y x0 x39 x40 x41 r0_0 r1_0 r1_1 r1_2 r2_0 l0 l1) = r0_0 := id rfl
@[simp] theorem f18_p0_o0_r1_0_y x0 x39 x40 x41 r0_0 r1_0 r1_1 r1_2 r2_0 l0 l1 : f18_p0_o0_r1_0 (f18_p0_o0_y x0 x39 x40 x41 r0_0 r1_0 r1_1 r1_2 r2_0 l0 l1) = r1_0 := id rfl
@[simp] theorem f18_p0_o0_r1_1_y x0 x39 x40 x41 r0_0 r1_0 r1_1 r1_2 r2_0 l0 l1 : f18_p0_o0_r1_1 (f18_p0_o0_y x0 x39 x40 x41 r0_0 r1_0 r1_1 r1_2 r2_0 l0 l1) = r1_1 := id rfl
@[simp] theorem f18_p0_o0_r1_2_y x0 x39 x40 x41 r0_0 r1_0 r1_1 r1_2 r2_0 l0 l1 : f18_p0_o0_r1_2 (f18_p0_o0_y x0 x39 x40 x41 r0_0 r1_0 r1_1 r1_2 r2_0 l0 l1) = r1_2 := id rfl
@[simp] theorem f18_p0_o0_r2_0_y x0 x39 x40 x41 r0_0 r1_0 r1_1 r1_2 r2_0 l0 l1 : f18_p0_o0_r2_0 (f18_p0_o0_y x0 x39 x40 x41 r0_0 r1_0 r1_1 r1_2 r2_0 l0 l1) = r2_0 := id rfl
@[simp] theorem f18_p0_o0_l0_y x0 x39 x40 x41 r0_0 r1_0 r1_1 r1_2 r2_0 l0 l1 : f18_p0_o0_l0 (f18_p0_o0_y x0 x39 x40 x41 r0_0 r1_0 r1_1 r1_2 r2_0 l0 l1) = l0 := id rfl
@[simp] theorem f18_p0_o0_l1_y x0 x39 x40 x41 r0_0 r1_0 r1_1 r1_2 r2_0 l0 l1 : f18_p0_o0_l1 (f18_p0_o0_y x0 x39 x40 x41 r0_0 r1_0 r1_1 r1_2 r2_0 l0 l1) = l1 := id rfl
theorem f18_p0_eq x0 x39 x40 x41 r0_0 r1_0 r1_1 r1_2 r2_0 l0 l1 : f18_p0_F (f18_p0_y x0 x39 x40 x41 r0_0 r1_0 r1_1 r1_2 r2_0 l0 l1) = ((nth x39 x41).bind fun y109 => bif (decide (x41 < r1_1)) then ((trimF (y109, (([120] : List UInt8), ()))).bind fun r110 => (f38_F (r110.1, ())).bind fun r111 => appOk (l0.length + [r111.1].length) (some ((f18_p0_o0_y x0 x39 x40 x41 r0_0 r1_0 r1_1 r1_2 r2_0 (l0 ++ [r111.1]) l1)))) else ((numberF (y109, ())).bind fun r112 => appOk (l1.length + [r112.1].length) (some ((f18_p0_o0_y x0 x39 x40 x41 r0_0 r1_0 r1_1 r1_2 r2_0 l0 (l1 ++ [r112.1])))))) := by kernel_rfl
def f18_p1_y (x0 : List UInt8) (x39 : List (List UInt8)) (x40 : Int) (x41 : Int) (r0_0 : Int) (r1_0 : List UInt8) (r1_1 : Int) (r1_2 : Int) (r2_0 : Int) (l0 : List (List UInt8)) (l1 : List Int) : f18_p1_sh.den := ((x0, ((), ((), ((), ((), ((), ((), ((), ((), ((), ((), ((), ((), ((), ((), ((), ((), ((), ((), ((), ((), ((), ((), ((), ((), ((), ((), ((), ((), ((), ((), ((), ((), ((), ((), ((), ((), ((), ((), (x39, (x40, (x41, ((), ((), ((), ((), ((), ((), ((), ((), ((), ((), ((), ((), ((), ((), ((), ((), ((), ((), ((), ((), ((), ((), ((), ((), ((), ((), ((), ((), ((), ((), ((), ((), ((), ((), ())))))))))))))))))))))))))))))))))))))))))))))))))))))))))))))))))))))))))))), ((r0_0, ((), ((), ()))), ((r1_0, (r1_1, (r1_2, ()))), ((r2_0, ((), ((), ()))), ()))), (l0, (l1, ())))
def f18_p1_o0_y (x0 : List UInt8) (r0_0 : Int) (r2_0 : Int) (l0 : List (List UInt8)) (l1 : List Int) : f18_p1_o0.den := ((x0, ((), ((), ((), ((), ((), ((), ((), ((), ((), ((), ((), ((), ((), ((), ((), ((), ((), ((), ((), ((), ((), ((), ((), ((), ((), ((), ((), ((), ((), ((), ((), ((), ((), ((), ((), ((), ((), ((), ((), ((), ((), ((), ((), ((), ((), ((), ((), ((), ((), ((), ((), ((), ((), ((), ((), ((), ((), ((), ((), ((), ((), ((), ((), ((), ((), ((), ((), ((), ((), ((), ((), ((), ((), ((), ((), ())))))))))))))))))))))))))))))))))))))))))))))))))))))))))))))))))))))))))))), ((r0_0, ((), ((), ()))), ((r2_0, ((), ((), ()))), ())), (l0, (l1, ())))
def f18_p1_o0_x0 (z : f18_p1_o0.den) : List UInt8 := z.1.1
def f18_p1_o0_r0_0 (z : f18_p1_o0.den) : Int := z.2.1.1.1
def f18_p1_o0_r2_0 (z : f18_p1_o0.den) : Int := z.2.1.2.1.1
def f18_p1_o0_l0 (z : f18_p1_o0.den) : List (List UInt8) := z.2.2.1
def f18_p1_o0_l1 (z : f18_p1_o0.den) : List Int := z.2.2.2.1
@[simp] theorem f18_p1_o0_x0_y x0 r0_0 r2_0 l0 l1 : f18_p1_o0_x0 (f18_p1_o0_y x0 r0_0 r2_0 l0 l1) = x0 := id rfl
@[simp] theorem f18_p1_o0_r0_0_y x0 r0_0 r2_0 l0 l1 : f18_p1_o0_r0_0 (f18_p1_o0_y x0 r0_0 r2_0 l0 l1) = r0_0 := id rfl
@[simp] theorem f18_p1_o0_r2_0_y x0 r0_0 r2_0 l0 l1 : f18_p1_o0_r2_0 (f18_p1_o0_y x0 r0_0 r2_0 l0 l1) = r2_0 := id rfl
@[simp] theorem f18_p1_o0_l0_y x0 r0_0 r2_0 l0 l1 : f18_p1_o0_l0 (f18_p1_o0_y x0 r0_0 r2_0 l0 l1) = l0 := id rfl
@[simp] theorem f18_p1_o0_l1_y x0 r0_0 r2_0 l0 l1 : f18_p1_o0_l1 (f18_p1_o0_y x0 r0_0 r2_0 l0 l1) = l1 := id rfl
theorem f18_p1_eq rec x0 x39 x40 x41 r0_0 r1_0 r1_1 r1_2 r2_0 l0 l1 : f18_p1_st rec (f18_p1_y x0 x39 x40 x41 r0_0 r1_0 r1_1 r1_2 r2_0 l0 l1) = (bif (decide (x41 < x40)) then ((f18_p0_F (f18_p0_y x0 x39 x40 x41 r0_0 r1_0 r1_1 r1_2 r2_0 l0 l1)).bind fun o113 => rec (f18_p1_y (f18_p0_o0_x0 o113) (f18_p0_o0_x39 o113) (f18_p0_o0_x40 o113) (IntKind.i64.wrap ((f18_p0_o0_x41 o113) + (1 : Int))) (f18_p0_o0_r0_0 o113) (f18_p0_o0_r1_0 o113) (f18_p0_o0_r1_1 o113) (f18_p0_o0_r1_2 o113) (f18_p0_o0_r2_0 o113) (f18_p0_o0_l0 o113) (f18_p0_o0_l1 o113))) else (some ((f18_p1_o0_y x0 r0_0 r2_0 l0 l1)))) := by kernel_rfl
def f18_p2_y (x0 : List UInt8) (x4 : List (List UInt8)) (r0_0 : Int) : f18_p2_sh.den := ((x0, ((), ((), ((), (x4, ((), ((), ((), ((), ((), ((), ((), ((), ((), ((), ((), ((), ((), ((), ((), ((), ((), ((), ((), ((), ((), ((), ((), ((), ((), ((), ((), ((), ((), ((), ((), ((), ((), ((), ((), ((), ((), ((), ((), ((), ((), ((), ((), ((), ((), ((), ((), ((), ((), ((), ((), ((), ((), ((), ((), ((), ((), ((), ((), ((), ((), ((), ((), ((), ((), ((), ((), ((), ((), ((), ((), ())))))))))))))))))))))))))))))))))))))))))))))))))))))))))))))))))))))))))))), ((r0_0, ((), ((), ()))), ()), ())
def f18_p2_o0_y (r0_0 : Int) : f18_p2_o0.den := (((), ((), ((), ((), ((), ((), ((), ((), ((), ((), ((), ((), ((), ((), ((), ((), ((), ((), ((), ((), ((), ((), ((), ((), ((), ((), ((), ((), ((), ((), ((), ((), ((), ((), ((), ((), ((), ((), ((), ((), ((), ((), ((), ((), ((), ((), ((), ((), ((), ((), ((), ((), ((), ((), ((), ((), ((), ((), ((), ((), ((), ((), ((), ((), ((), ((), ((), ((), ((), ((), ((), ((), ((), ((), ((), ((), ())))))))))))))))))))))))))))))))))))))))))))))))))))))))))))))))))))))))))))), ((r0_0, ((), ((), ()))), ()), ())
def f18_p2_o1_y (x3 : Bool) (r0_0 : Int) (l0 : List (List UInt8)) (l1 : List Int) : f18_p2_o1.den := (((), ((), ((), (x3, ((), ((), ((), ((), ((), ((), ((), ((), ((), ((), ((), ((), ((), ((), ((), ((), ((), ((), ((), ((), ((), ((), ((), ((), ((), ((), ((), ((), ((), ((), ((), ((), ((), ((), ((), ((), ((), ((), ((), ((), ((), ((), ((), ((), ((), ((), ((), ((), ((), ((), ((), ((), ((), ((), ((), ((), ((), ((), ((), ((), ((), ((), ((), ((), ((), ((), ((), ((), ((), ((), ((), ((), ())))))))))))))))))))))))))))))))))))))))))))))))))))))))))))))))))))))))))))), ((r0_0, ((), ((), ()))), ()), (l0, (l1, ())))
def f18_p2_o1_x3 (z : f18_p2_o1.den) : Bool := z.1.2.2.2.1
def f18_p2_o1_r0_0 (z : f18_p2_o1.den) : Int := z.2.1.1.1
def f18_p2_o1_l0 (z : f18_p2_o1.den) : List (List UInt8) := z.2.2.1
def f18_p2_o1_l1 (z : f18_p2_o1.den) : List Int := z.2.2.2.1
@[simp] theorem f18_p2_o1_x3_y x3 r0_0 l0 l1 : f18_p2_o1_x3 (f18_p2_o1_y x3 r0_0 l0 l1) = x3 := id rfl
@[simp] theorem f18_p2_o1_r0_0_y x3 r0_0 l0 l1 : f18_p2_o1_r0_0 (f18_p2_o1_y x3 r0_0 l0 l1) = r0_0 := id rfl
@[simp] theorem f18_p2_o1_l0_y x3 r0_0 l0 l1 : f18_p2_o1_l0 (f18_p2_o1_y x3 r0_0 l0 l1) = l0 := id rfl
@[simp] theorem f18_p2_o1_l1_y x3 r0_0 l0 l1 : f18_p2_o1_l1 (f18_p2_o1_y x3 r0_0 l0 l1) = l1 := id rfl
def f18_p2_h_y (x0 : List UInt8) (x4 : List (List UInt8)) (r0_0 : Int) : f18_p2_hd.den := ((x0, ((), ((), ((), (x4, ((), ((), ((), ((), ((), ((), ((), ((), ((), ((), ((), ((), ((), ((), ((), ((), ((), ((), ((), ((), ((), ((), ((), ((), ((), ((), ((), ((), ((), ((), ((), ((), ((), ((), ((), ((), ((), ((), ((), ((), ((), ((), ((), ((), ((), ((), ((), ((), ((), ((), ((), ((), ((), ((), ((), ((), ((), ((), ((), ((), ((), ((), ((), ((), ((), ((), ((), ((), ((), ((), ((), ())))))))))))))))))))))))))))))))))))))))))))))))))))))))))))))))))))))))))))), ((r0_0, ((), ((), ()))), ()), ())
theorem f18_p2_eq x0 x4 r0_0 : f18_p2_F (f18_p2_y x0 x4 r0_0) = ((h36_F h36_y).bind fun z114 => mr (f18_p2_st (f18_p2_h_y x0 x4 r0_0)) (f18_p2_fin (f18_p2_h_y x0 x4 r0_0)) (mpairs (.int .i64) (.prod .str (.prod (.int .i64) (.int .i64))) true (h36_o_l0 z114)) (f18_p2_h_y x0 x4 r0_0)) := by kernel_rfl
theorem f18_p2_fin_eq x0 x4 r0_0 : f18_p2_fin (f18_p2_h_y x0 x4 r0_0) = (some (.inl (f18_p2_o0_y r0_0))) := by kernel_rfl
theorem f18_p2_st_eq x0 x4 r0_0 w : f18_p2_st (f18_p2_h_y x0 x4 r0_0) w = ((nth x4 (0 : Int)).bind fun y115 => bif (w.2.1 != y115) then (some (.inl (f18_p2_h_y x0 x4 r0_0))) else (bif ((x4.length : Int) != (IntKind.i64.wrap ((IntKind.i64.wrap ((1 : Int) + w.2.2.1)) + w.2.2.2))) then (some (.inl (f18_p2_h_y x0 x4 r0_0))) else (cutLo x4 (1 : Int) fun s116 => (go f18_p1_st (f18_p1_y x0 s116 (s116.length : Int) (0 : Int) r0_0 w.2.1 w.2.2.1 w.2.2.2 w.1 ([] : List (List UInt8)) ([] : List (Int)))).bind fun o117 => (f24_F (((f18_p1_o0_r2_0 o117), ((f18_p1_o0_l0 o117), ((f18_p1_o0_l1 o117), ()))), ())).bind fun r118 => bif r118.1 then ((f16_F (((f18_p1_o0_r2_0 o117), ((f18_p1_o0_l0 o117), ((f18_p1_o0_l1 o117), ()))), ())).bind fun r119 => some (.inr ((.inr ((f18_p2_o1_y (r119.1 == (f18_p1_o0_x0 o117)) (f18_p1_o0_r2_0 o117) (f18_p1_o0_l0 o117) (f18_p1_o0_l1 o117))))))) else (some (.inr ((.inr ((f18_p2_o1_y false (f18_p1_o0_r2_0 o117) (f18_p1_o0_l0 o117) (f18_p1_o0_l1 o117)))))))))) := by kernel_rfl
theorem f18_eq a0 : f18_F (a0, ()) = ((splitF (a0, (([32] : List UInt8), ()))).bind fun r120 => (f18_p2_F (f18_p2_y a0 r120.1 (0 : Int))).bind fun o121 => (match o121 with | .inl z122 => some (((0 : Int), (([] : List (List UInt8)), (([] : List Int), ()))), (false, ())) | .inr o123 => some (((f18_p2_o1_r0_0 o123), ((f18_p2_o1_l0 o123), ((f18_p2_o1_l1 o123), ()))), ((f18_p2_o1_x3 o123), ())))) := by kernel_rfl
def f7_p0_y (x6 : List UInt8) (x7 : Bool) (x10 : Int) (x12 : Bool) (r0_1 : List UInt8) (r0_2 : Int) (r0_3 : Int) (r1_1 : List UInt8) (r1_2 : Int) (r1_3 : Int) (r2_0 : Int) (r2_1 : List (List UInt8)) (r2_2 : List Int) (l0 : List (List UInt8)) (l1 : List ((Int × (List (List UInt8) × List Int)))) : f7_p0_sh.den := (((), ((), ((), ((), ((), ((), (x6, (x7, ((), ((), (x10, ((), (x12, ((), ((), ((), ((), ((), ((), ((), ((), ((), ((), ((), ((), ((), ((), ((), ((), ((), ((), ((), ((), ((), ((), ((), ((), ((), ((), ((), ((), ((), ((), ((), ((), ((), ((), ((), ((), ((), ((), ((), ((), ((), ((), ((), ((), ((), ((), ((), ((), ((), ((), ((), ((), ((), ((), ()))))))))))))))))))))))))))))))))))))))))))))))))))))))))))))))))))), (((), (r0_1, (r0_2, (r0_3, ((), ()))))), (((), (r1_1, (r1_2, (r1_3, ((), ()))))), ((r2_0, (r2_1, (r2_2, ()))), ()))), (l0, (l1, ())))
def f7_p0_o0_y (x6 : List UInt8) (x10 : Int) (x57 : Bool) (r0_1 : List UInt8) (r0_2 : Int) (r0_3 : Int) (r1_1 : List UInt8) (r1_2 : Int) (r1_3 : Int) (r2_0 : Int) (r2_1 : List (List UInt8)) (r2_2 : List Int) (l0 : List (List UInt8)) (l1 : List ((Int × (List (List UInt8) × List Int)))) : f7_p0_o0.den := (((), ((), ((), ((), ((), ((), (x6, ((), ((), ((), (x10, ((), ((), ((), ((), ((), ((), ((), ((), ((), ((), ((), ((), ((), ((), ((), ((), ((), ((), ((), ((), ((), ((), ((), ((), ((), ((), ((), ((), ((), ((), ((), ((), ((), ((), ((), ((), ((), ((), ((), ((), ((), ((), ((), ((), ((), ((), (x57, ((), ((), ((), ((), ((), ((), ((), ((), ((), ()))))))))))))))))))))))))))))))))))))))))))))))))))))))))))))))))))), (((), (r0_1, (r0_2, (r0_3, ((), ()))))), (((), (r1_1, (r1_2, (r1_3, ((), ()))))), ((r2_0, (r2_1, (r2_2, ()))), ()))), (l0, (l1, ())))
def f7_p0_o0_x6 (z : f7_p0_o0.den) : List UInt8 := z.1.2.2.2.2.2.2.1
def f7_p0_o0_x10 (z : f7_p0_o0.den) : Int := z.1.2.2.2.2.2.2.2.2.2.2.1
def f7_p0_o0_x57 (z : f7_p0_o0.den) : Bool := z.1.2.2.2.2.2.2.2.2.2.2.2.2.2.2.2.2.2.2.2.2.2.2.2.2.2.2.2.2.2.2.2.2.2.2.2.2.2.2.2.2.2.2.2.2.2.2.2.2.2.2.2.2.2.2.2.2.2.1
def f7_p0_o0_r0_1 (z : f7_p0_o0.den) : List UInt8 := z.2.1.1.2.1
def f7_p0_o0_r0_2 (z : f7_p0_o0.den) : Int := z.2.1.1.2.2.1
def f7_p0_o0_r0_3 (z : f7_p0_o0.den) : Int := z.2.1.1.2.2.2.1
def f7_p0_o0_r1_1 (z : f7_p0_o0.den) : List UInt8 := z.2.1.2.1.2.1
def f7_p0_o0_r1_2 (z : f7_p0_o0.den) : Int := z.2.1.2.1.2.2.1
def f7_p0_o0_r1_3 (z : f7_p0_o0.den) : Int := z.2.1.2.1.2.2.2.1
def f7_p0_o0_r2_0 (z : f7_p0_o0.den) : Int := z.2.1.2.2.1.1
def f7_p0_o0_r2_1 (z : f7_p0_o0.den) : List (List UInt8) := z.2.1.2.2.1.2.1
def f7_p0_o0_r2_2 (z : f7_p0_o0.den) : List Int := z.2.1.2.2.1.2.2.1
def f7_p0_o0_l0 (z : f7_p0_o0.den) : List (List UInt8) := z.2.2.1
def f7_p0_o0_l1 (z : f7_p0_o0.den) : List ((Int × (List (List UInt8) × List Int))) := z.2.2.2.1
@[simp] theorem f7_p0_o0_x6_y x6 x10 x57 r0_1 r0_2 r0_3 r1_1 r1_2 r1_3 r2_0 r2_1 r2_2 l0 l1 : f7_p0_o0_x6 (f7_p0_o0_y x6 x10 x57 r0_1 r0_2 r0_3 r1_1 r1_2 r1_3 r2_0 r2_1 r2_2 l0 l1) = x6 := id rfl
@[simp] theorem f7_p0_o0_x10_y x6 x10 x57 r0_1 r0_2 r0_3 r1_1 r1_2 r1_3 r2_0 r2_1 r2_2 l0 l1 : f7_p0_o0_x10 (f7_p0_o0_y x6 x10 x57 r0_1 r0_2 r0_3 r1_1 r1_2 r1_3 r2_0 r2_1 r2_2 l0 l1) = x10 := id rfl
@[simp] theorem f7_p0_o0_x57_y x6 x10 x57 r0_1 r0_2 r0_3 r1_1 r1_2 r1_3 r2_0 r2_1 r2_2 l0 l1 : f7_p0_o0_x57 (f7_p0_o0_y x6 x10 x57 r0_1 r0_2 r0_3 r1_1 r1_2 r1_3 r2_0 r2_1 r2_2 l0 l1) = x57 := id rfl
@[simp] theorem f7_p0_o0_r0_1_y x6 x10 x57 r0_1 r0_2 r0_3 r1_1 r1_2 r1_3 r2_0 r2_1 r2_2 l0 l1 : f7_p0_o0_r0_1 (f7_p0_o0_y x6 x10 x57 r0_1 r0_2 r0_3 r1_1 r1_2 r1_3 r2_0 r2_1 r2_2 l0 l1) = r0_1 := id rfl
@[simp] theorem f7_p0_o0_r0_2_y x6 x10 x57 r0_1 r0_2 r0_3 r1_1 r1_2 r1_3 r2_0 r2_1 r2_2 l0 l1 : f7_p0_o0_r0_2 (f7_p0_o0_y x6 x10 x57 r0_1 r0_2 r0_3 r1_1 r1_2 r1_3 r2_0 r2_1 r2_2 l0 l1) = r0_2 := id rfl
@[simp] theorem f7_p0_o0_r0_3_y x6 x10 x57 r0_1 r0_2 r0_3 r1_1 r1_2 r1_3 r2_0 r2_1 r2_2 l0 l1 : f7_p0_o0_r0_3 (f7_p0_o0_y x6 x10 x57 r0_1 r0_2 r0_3 r1_1 r1_2 r1_3 r2_0 r2_1 r2_2 l0 l1) = r0_3 := id rfl
@[simp] theorem f7_p0_o0_r1_1_y x6 x10 x57 r0_1 r0_2 r0_3 r1_1 r1_2 r1_3 r2_0 r2_1 r2_2 l0 l1 : f7_p0_o0_r1_1 (f7_p0_o0_y x6 x10 x57 r0_1 r0_2 r0_3 r1_1 r1_2 r1_3 r2_0 r2_1 r2_2 l0 l1) = r1_1 := id rfl
@[simp] theorem f7_p0_o0_r1_2_y x6 x10 x57 r0_1 r0_2 r0_3 r1_1 r1_2 r1_3 r2_0 r2_1 r2_2 l0 l1 : f7_p0_o0_r1_2 (f7_p0_o0_y x6 x10 x57 r0_1 r0_2 r0_3 r1_1 r1_2 r1_3 r2_0 r2_1 r2_2 l0 l1) = r1_2 := id rfl
@[simp] theorem f7_p0_o0_r1_3_y x6 x10 x57 r0_1 r0_2 r0_3 r1_1 r1_2 r1_3 r2_0 r2_1 r2_2 l0 l1 : f7_p0_o0_r1_3 (f7_p0_o0_y x6 x10 x57 r0_1 r0_2 r0_3 r1_1 r1_2 r1_3 r2_0 r2_1 r2_2 l0 l1) = r1_3 := id rfl
@[simp] theorem f7_p0_o0_r2_0_y x6 x10 x57 r0_1 r0_2 r0_3 r1_1 r1_2 r1_3 r2_0 r2_1 r2_2 l0 l1 : f7_p0_o0_r2_0 (f7_p0_o0_y x6 x10 x57 r0_1 r0_2 r0_3 r1_1 r1_2 r1_3 r2_0 r2_1 r2_2 l0 l1) = r2_0 := id rfl
@[simp] theorem f7_p0_o0_r2_1_y x6 x10 x57 r0_1 r0_2 r0_3 r1_1 r1_2 r1_3 r2_0 r2_1 r2_2 l0 l1 : f7_p0_o0_r2_1 (f7_p0_o0_y x6 x10 x57 r0_1 r0_2 r0_3 r1_1 r1_2 r1_3 r2_0 r2_1 r2_2 l0 l1) = r2_1 := id rfl
@[simp] theorem f7_p0_o0_r2_2_y x6 x10 x57 r0_1 r0_2 r0_3 r1_1 r1_2 r1_3 r2_0 r2_1 r2_2 l0 l1 : f7_p0_o0_r2_2 (f7_p0_o0_y x6 x10 x57 r0_1 r0_2 r0_3 r1_1 r1_2 r1_3 r2_0 r2_1 r2_2 l0 l1) = r2_2 := id rfl
@[simp] theorem f7_p0_o0_l0_y x6 x10 x57 r0_1 r0_2 r0_3 r1_1 r1_2 r1_3 r2_0 r2_1 r2_2 l0 l1 : f7_p0_o0_l0 (f7_p0_o0_y x6 x10 x57 r0_1 r0_2 r0_3 r1_1 r1_2 r1_3 r2_0 r2_1 r2_2 l0 l1) = l0 := id rfl
@[simp] theorem f7_p0_o0_l1_y x6 x10 x57 r0_1 r0_2 r0_3 r1_1 r1_2 r1_3 r2_0 r2_1 r2_2 l0 l1 : f7_p0_o0_l1 (f7_p0_o0_y x6 x10 x57 r0_1 r0_2 r0_3 r1_1 r1_2 r1_3 r2_0 r2_1 r2_2 l0 l1) = l1 := id rfl
theorem f7_p0_eq x6 x7 x10 x12 r0_1 r0_2 r0_3 r1_1 r1_2 r1_3 r2_0 r2_1 r2_2 l0 l1 : f7_p0_F (f7_p0_y x6 x7 x10 x12 r0_1 r0_2 r0_3 r1_1 r1_2 r1_3 r2_0 r2_1 r2_2 l0 l1) = (bif (!x7) then (some ((f7_p0_o0_y x6 x10 true r0_1 r0_2 r0_3 r1_1 r1_2 r1_3 r2_0 r2_1 r2_2 l0 l1))) else (bif (!x12) then (some ((f7_p0_o0_y x6 x10 true r0_1 r0_2 r0_3 r1_1 r1_2 r1_3 r2_0 r2_1 r2_2 l0 l1))) else (some ((f7_p0_o0_y x6 x10 ((l1.length : Int) == (200 : Int)) r0_1 r0_2 r0_3 r1_1 r1_2 r1_3 r2_0 r2_1 r2_2 l0 l1))))) := by kernel_rfl
def f7_p1_y (x6 : List UInt8) (x10 : Int) (r0_1 : List UInt8) (r0_2 : Int) (r0_3 : Int) (r1_1 : List UInt8) (r1_2 : Int) (r1_3 : Int) (l0 : List (List UInt8)) (l1 : List ((Int × (List (List UInt8) × List Int)))) : f7_p1_sh.den := (((), ((), ((), ((), ((), ((), (x6, ((), ((), ((), (x10, ((), ((), ((), ((), ((), ((), ((), ((), ((), ((), ((), ((), ((), ((), ((), ((), ((), ((), ((), ((), ((), ((), ((), ((), ((), ((), ((), ((), ((), ((), ((), ((), ((), ((), ((), ((), ((), ((), ((), ((), ((), ((), ((), ((), ((), ((), ((), ((), ((), ((), ((), ((), ((), ((), ((), ((), ()))))))))))))))))))))))))))))))))))))))))))))))))))))))))))))))))))), (((), (r0_1, (r0_2, (r0_3, ((), ()))))), (((), (r1_1, (r1_2, (r1_3, ((), ()))))), ())), (l0, (l1, ())))
def f7_p1_o0_y (r0_1 : List UInt8) (r0_2 : Int) (r0_3 : Int) (r1_1 : List UInt8) (r1_2 : Int) (r1_3 : Int) (l0 : List (List UInt8)) (l1 : List ((Int × (List (List UInt8) × List Int)))) : f7_p1_o0.den := (((), ((), ((), ((), ((), ((), ((), ((), ((), ((), ((), ((), ((), ((), ((), ((), ((), ((), ((), ((), ((), ((), ((), ((), ((), ((), ((), ((), ((), ((), ((), ((), ((), ((), ((), ((), ((), ((), ((), ((), ((), ((), ((), ((), ((), ((), ((), ((), ((), ((), ((), ((), ((), ((), ((), ((), ((), ((), ((), ((), ((), ((), ((), ((), ((), ((), ((), ()))))))))))))))))))))))))))))))))))))))))))))))))))))))))))))))))))), (((), (r0_1, (r0_2, (r0_3, ((), ()))))), (((), (r1_1, (r1_2, (r1_3, ((), ()))))), ())), (l0, (l1, ())))
def f7_p1_o0_r0_1 (z : f7_p1_o0.den) : List UInt8 := z.2.1.1.2.1
def f7_p1_o0_r0_2 (z : f7_p1_o0.den) : Int := z.2.1.1.2.2.1
def f7_p1_o0_r0_3 (z : f7_p1_o0.den) : Int := z.2.1.1.2.2.2.1
def f7_p1_o0_r1_1 (z : f7_p1_o0.den) : List UInt8 := z.2.1.2.1.2.1
def f7_p1_o0_r1_2 (z : f7_p1_o0.den) : Int := z.2.1.2.1.2.2.1
def f7_p1_o0_r1_3 (z : f7_p1_o0.den) : Int := z.2.1.2.1.2.2.2.1
def f7_p1_o0_l0 (z : f7_p1_o0.den) : List (List UInt8) := z.2.2.1
def f7_p1_o0_l1 (z : f7_p1_o0.den) : List ((Int × (List (List UInt8) × List Int))) := z.2.2.2.1
@[simp] theorem f7_p1_o0_r0_1_y r0_1 r0_2 r0_3 r1_1 r1_2 r1_3 l0 l1 : f7_p1_o0_r0_1 (f7_p1_o0_y r0_1 r0_2 r0_3 r1_1 r1_2 r1_3 l0 l1) = r0_1 := id rfl
@[simp] theorem f7_p1_o0_r0_2_y r0_1 r0_2 r0_3 r1_1 r1_2 r1_3 l0 l1 : f7_p1_o0_r0_2 (f7_p1_o0_y r0_1 r0_2 r0_3 r1_1 r1_2 r1_3 l0 l1) = r0_2 := id rfl
@[simp] theorem f7_p1_o0_r0_3_y r0_1 r0_2 r0_3 r1_1 r1_2 r1_3 l0 l1 : f7_p1_o0_r0_3 (f7_p1_o0_y r0_1 r0_2 r0_3 r1_1 r1_2 r1_3 l0 l1) = r0_3 := id rfl
@[simp] theorem f7_p1_o0_r1_1_y r0_1 r0_2 r0_3 r1_1 r1_2 r1_3 l0 l1 : f7_p1_o0_r1_1 (f7_p1_o0_y r0_1 r0_2 r0_3 r1_1 r1_2 r1_3 l0 l1) = r1_1 := id rfl
@[simp] theorem f7_p1_o0_r1_2_y r0_1 r0_2 r0_3 r1_1 r1_2 r1_3 l0 l1 : f7_p1_o0_r1_2 (f7_p1_o0_y r0_1 r0_2 r0_3 r1_1 r1_2 r1_3 l0 l1) = r1_2 := id rfl
@[simp] theorem f7_p1_o0_r1_3_y r0_1 r0_2 r0_3 r1_1 r1_2 r1_3 l0 l1 : f7_p1_o0_r1_3 (f7_p1_o0_y r0_1 r0_2 r0_3 r1_1 r1_2 r1_3 l0 l1) = r1_3 := id rfl
@[simp] theorem f7_p1_o0_l0_y r0_1 r0_2 r0_3 r1_1 r1_2 r1_3 l0 l1 : f7_p1_o0_l0 (f7_p1_o0_y r0_1 r0_2 r0_3 r1_1 r1_2 r1_3 l0 l1) = l0 := id rfl
@[simp] theorem f7_p1_o0_l1_y r0_1 r0_2 r0_3 r1_1 r1_2 r1_3 l0 l1 : f7_p1_o0_l1 (f7_p1_o0_y r0_1 r0_2 r0_3 r1_1 r1_2 r1_3 l0 l1) = l1 := id rfl
def f7_p1_o1_y (x3 : Int) (x4 : Int) (r0_1 : List UInt8) (r0_2 : Int) (r0_3 : Int) : f7_p1_o1.den := (((), ((), ((), (x3, (x4, ((), ((), ((), ((), ((), ((), ((), ((), ((), ((), ((), ((), ((), ((), ((), ((), ((), ((), ((), ((), ((), ((), ((), ((), ((), ((), ((), ((), ((), ((), ((), ((), ((), ((), ((), ((), ((), ((), ((), ((), ((), ((), ((), ((), ((), ((), ((), ((), ((), ((), ((), ((), ((), ((), ((), ((), ((), ((), ((), ((), ((), ((), ()))))))))))))))))))))))))))))))))))))))))))))))))))))))))))))))))))), (((), (r0_1, (r0_2, (r0_3, ((), ()))))), ()), ())
def f7_p1_o1_x3 (z : f7_p1_o1.den) : Int := z.1.2.2.2.1
def f7_p1_o1_x4 (z : f7_p1_o1.den) : Int := z.1.2.2.2.2.1
def f7_p1_o1_r0_1 (z : f7_p1_o1.den) : List UInt8 := z.2.1.1.2.1
def f7_p1_o1_r0_2 (z : f7_p1_o1.den) : Int := z.2.1.1.2.2.1
def f7_p1_o1_r0_3 (z : f7_p1_o1.den) : Int := z.2.1.1.2.2.2.1
@[simp] theorem f7_p1_o1_x3_y x3 x4 r0_1 r0_2 r0_3 : f7_p1_o1_x3 (f7_p1_o1_y x3 x4 r0_1 r0_2 r0_3) = x3 := id rfl
@[simp] theorem f7_p1_o1_x4_y x3 x4 r0_1 r0_2 r0_3 : f7_p1_o1_x4 (f7_p1_o1_y x3 x4 r0_1 r0_2 r0_3) = x4 := id rfl
@[simp] theorem f7_p1_o1_r0_1_y x3 x4 r0_1 r0_2 r0_3 : f7_p1_o1_r0_1 (f7_p1_o1_y x3 x4 r0_1 r0_2 r0_3) = r0_1 := id rfl
@[simp] theorem f7_p1_o1_r0_2_y x3 x4 r0_1 r0_2 r0_3 : f7_p1_o1_r0_2 (f7_p1_o1_y x3 x4 r0_1 r0_2 r0_3) = r0_2 := id rfl
@[simp] theorem f7_p1_o1_r0_3_y x3 x4 r0_1 r0_2 r0_3 : f7_p1_o1_r0_3 (f7_p1_o1_y x3 x4 r0_1 r0_2 r0_3) = r0_3 := id rfl
theorem f7_p1_eq rec x6 x10 r0_1 r0_2 r0_3 r1_1 r1_2 r1_3 l0 l1 : f7_p1_st rec (f7_p1_y x6 x10 r0_1 r0_2 r0_3 r1_1 r1_2 r1_3 l0 l1) = (bif (x6 != ([] : List UInt8)) then ((cutF (x6, (([10] : List UInt8), ()))).bind fun r124 => (f18_F (r124.1, ())).bind fun r125 => (f7_p0_F (f7_p0_y r124.2.1 r124.2.2.1 x10 r125.2.1 r0_1 r0_2 r0_3 r1_1 r1_2 r1_3 r125.1.1 r125.1.2.1 r125.1.2.2.1 l0 l1)).bind fun o126 => bif (f7_p0_o0_x57 o126) then (some (.inr ((f7_p1_o1_y (250 : Int) (f7_p0_o0_x10 o126) ([] : List UInt8) (0 : Int) (0 : Int))))) else (appOk ((f7_p0_o0_l1 o126).length + [((f7_p0_o0_r2_0 o126), ((f7_p0_o0_r2_1 o126), (f7_p0_o0_r2_2 o126)))].length) (rec (f7_p1_y (f7_p0_o0_x6 o126) (IntKind.i64.wrap ((f7_p0_o0_x10 o126) + (1 : Int))) (f7_p0_o0_r0_1 o126) (f7_p0_o0_r0_2 o126) (f7_p0_o0_r0_3 o126) (f7_p0_o0_r1_1 o126) (f7_p0_o0_r1_2 o126) (f7_p0_o0_r1_3 o126) (f7_p0_o0_l0 o126) ((f7_p0_o0_l1 o126) ++ [((f7_p0_o0_r2_0 o126), ((f7_p0_o0_r2_1 o126), (f7_p0_o0_r2_2 o126)))]))))) else (some (.inl (f7_p1_o0_y r0_1 r0_2 r0_3 r1_1 r1_2 r1_3 l0 l1)))) := by kernel_rfl
def f7_p2_y (x6 : List UInt8) (x7 : Bool) (x9 : Bool) (r0_1 : List UInt8) (r0_2 : Int) (r0_3 : Int) (r1_1 : List UInt8) (r1_2 : Int) (r1_3 : Int) (l0 : List (List UInt8)) : f7_p2_sh.den := (((), ((), ((), ((), ((), ((), (x6, (x7, ((), (x9, ((), ((), ((), ((), ((), ((), ((), ((), ((), ((), ((), ((), ((), ((), ((), ((), ((), ((), ((), ((), ((), ((), ((), ((), ((), ((), ((), ((), ((), ((), ((), ((), ((), ((), ((), ((), ((), ((), ((), ((), ((), ((), ((), ((), ((), ((), ((), ((), ((), ((), ((), ((), ((), ((), ((), ((), ((), ()))))))))))))))))))))))))))))))))))))))))))))))))))))))))))))))))))), (((), (r0_1, (r0_2, (r0_3, ((), ()))))), (((), (r1_1, (r1_2, (r1_3, ((), ()))))), ())), (l0, ()))
def f7_p2_o0_y (x6 : List UInt8) (x29 : Bool) (r0_1 : List UInt8) (r0_2 : Int) (r0_3 : Int) (r1_1 : List UInt8) (r1_2 : Int) (r1_3 : Int) (l0 : List (List UInt8)) : f7_p2_o0.den := (((), ((), ((), ((), ((), ((), (x6, ((), ((), ((), ((), ((), ((), ((), ((), ((), ((), ((), ((), ((), ((), ((), ((), ((), ((), ((), ((), ((), ((), (x29, ((), ((), ((), ((), ((), ((), ((), ((), ((), ((), ((), ((), ((), ((), ((), ((), ((), ((), ((), ((), ((), ((), ((), ((), ((), ((), ((), ((), ((), ((), ((), ((), ((), ((), ((), ((), ((), ()))))))))))))))))))))))))))))))))))))))))))))))))))))))))))))))))))), (((), (r0_1, (r0_2, (r0_3, ((), ()))))), (((), (r1_1, (r1_2, (r1_3, ((), ()))))), ())), (l0, ()))
def f7_p2_o0_x6 (z : f7_p2_o0.den) : List UInt8 := z.1.2.2.2.2.2.2.1
def f7_p2_o0_x29 (z : f7_p2_o0.den) : Bool := z.1.2.2.2.2.2.2.2.2.2.2.2.2.2.2.2.2.2.2.2.2.2.2.2.2.2.2.2.2.2.1
def f7_p2_o0_r0_1 (z : f7_p2_o0.den) : List UInt8 := z.2.1.1.2.1
def f7_p2_o0_r0_2 (z : f7_p2_o0.den) : Int := z.2.1.1.2.2.1
def f7_p2_o0_r0_3 (z : f7_p2_o0.den) : Int := z.2.1.1.2.2.2.1
def f7_p2_o0_r1_1 (z : f7_p2_o0.den) : List UInt8 := z.2.1.2.1.2.1
def f7_p2_o0_r1_2 (z : f7_p2_o0.den) : Int := z.2.1.2.1.2.2.1
def f7_p2_o0_r1_3 (z : f7_p2_o0.den) : Int := z.2.1.2.1.2.2.2.1
def f7_p2_o0_l0 (z : f7_p2_o0.den) : List (List UInt8) := z.2.2.1
@[simp] theorem f7_p2_o0_x6_y x6 x29 r0_1 r0_2 r0_3 r1_1 r1_2 r1_3 l0 : f7_p2_o0_x6 (f7_p2_o0_y x6 x29 r0_1 r0_2 r0_3 r1_1 r1_2 r1_3 l0) = x6 := id rfl
@[simp] theorem f7_p2_o0_x29_y x6 x29 r0_1 r0_2 r0_3 r1_1 r1_2 r1_3 l0 : f7_p2_o0_x29 (f7_p2_o0_y x6 x29 r0_1 r0_2 r0_3 r1_1 r1_2 r1_3 l0) = x29 := id rfl
@[simp] theorem f7_p2_o0_r0_1_y x6 x29 r0_1 r0_2 r0_3 r1_1 r1_2 r1_3 l0 : f7_p2_o0_r0_1 (f7_p2_o0_y x6 x29 r0_1 r0_2 r0_3 r1_1 r1_2 r1_3 l0) = r0_1 := id rfl
@[simp] theorem f7_p2_o0_r0_2_y x6 x29 r0_1 r0_2 r0_3 r1_1 r1_2 r1_3 l0 : f7_p2_o0_r0_2 (f7_p2_o0_y x6 x29 r0_1 r0_2 r0_3 r1_1 r1_2 r1_3 l0) = r0_2 := id rfl
@[simp] theorem f7_p2_o0_r0_3_y x6 x29 r0_1 r0_2 r0_3 r1_1 r1_2 r1_3 l0 : f7_p2_o0_r0_3 (f7_p2_o0_y x6 x29 r0_1 r0_2 r0_3 r1_1 r1_2 r1_3 l0) = r0_3 := id rfl
@[simp] theorem f7_p2_o0_r1_1_y x6 x29 r0_1 r0_2 r0_3 r1_1 r1_2 r1_3 l0 : f7_p2_o0_r1_1 (f7_p2_o0_y x6 x29 r0_1 r0_2 r0_3 r1_1 r1_2 r1_3 l0) = r1_1 := id rfl
@[simp] theorem f7_p2_o0_r1_2_y x6 x29 r0_1 r0_2 r0_3 r1_1 r1_2 r1_3 l0 : f7_p2_o0_r1_2 (f7_p2_o0_y x6 x29 r0_1 r0_2 r0_3 r1_1 r1_2 r1_3 l0) = r1_2 := id rfl
@[simp] theorem f7_p2_o0_r1_3_y x6 x29 r0_1 r0_2 r0_3 r1_1 r1_2 r1_3 l0 : f7_p2_o0_r1_3 (f7_p2_o0_y x6 x29 r0_1 r0_2 r0_3 r1_1 r1_2 r1_3 l0) = r1_3 := id rfl
@[simp] theorem f7_p2_o0_l0_y x6 x29 r0_1 r0_2 r0_3 r1_1 r1_2 r1_3 l0 : f7_p2_o0_l0 (f7_p2_o0_y x6 x29 r0_1 r0_2 r0_3 r1_1 r1_2 r1_3 l0) = l0 := id rfl
theorem f7_p2_eq x6 x7 x9 r0_1 r0_2 r0_3 r1_1 r1_2 r1_3 l0 : f7_p2_F (f7_p2_y x6 x7 x9 r0_1 r0_2 r0_3 r1_1 r1_2 r1_3 l0) = (bif (!x7) then (some ((f7_p2_o0_y x6 true r0_1 r0_2 r0_3 r1_1 r1_2 r1_3 l0))) else (some ((f7_p2_o0_y x6 (!x9) r0_1 r0_2 r0_3 r1_1 r1_2 r1_3 l0)))) := by kernel_rfl
theorem f7_eq a0 : f7_F (a0, ()) = ((cutF (a0, (([10] : List UInt8), ()))).bind fun r127 => (h17_F (h17_y r127.1)).bind fun z128 => (f7_p2_F (f7_p2_y r127.2.1 r127.2.2.1 (h17_o_x1 z128) ([] : List UInt8) (0 : Int) (0 : Int) (h17_o_x0_1 z128) (h17_o_x0_2 z128) (h17_o_x0_3 z128) (h17_o_l0 z128))).bind fun o129 => bif (f7_p2_o0_x29 o129) then (some ((([] : List (List UInt8)), (([] : List UInt8), ((0 : Int), ((0 : Int), (([] : List ((Int × (List (List UInt8) × List Int)))), ()))))), ((250 : Int), ((1 : Int), ())))) else ((go f7_p1_st (f7_p1_y (f7_p2_o0_x6 o129) (2 : Int) (f7_p2_o0_r0_1 o129) (f7_p2_o0_r0_2 o129) (f7_p2_o0_r0_3 o129) (f7_p2_o0_r1_1 o129) (f7_p2_o0_r1_2 o129) (f7_p2_o0_r1_3 o129) (f7_p2_o0_l0 o129) ([] : List ((Int × (List (List UInt8) × List Int)))))).bind fun o130 => (match o130 with | .inl z131 => some (((f7_p1_o0_l0 z131), ((f7_p1_o0_r1_1 z131), ((f7_p1_o0_r1_2 z131), ((f7_p1_o0_r1_3 z131), ((f7_p1_o0_l1 z131), ()))))), ((0 : Int), ((0 : Int), ()))) | .inr o132 => some ((([] : List (List UInt8)), ((f7_p1_o1_r0_1 o132), ((f7_p1_o1_r0_2 o132), ((f7_p1_o1_r0_3 o132), (([] : List ((Int × (List (List UInt8) × List Int)))), ()))))), ((f7_p1_o1_x3 o132), ((f7_p1_o1_x4 o132), ())))))) := by kernel_rfl
theorem f41_eq a0 : f41_F (a0, ()) = (if (strOf [(IntKind.u8.wrap a0)]).length + ([48, 49, 50, 51, 52, 53, 54, 55, 56, 57, 97, 98, 99, 100, 101, 102, 48, 49, 50, 51, 52, 53, 54, 55, 56, 57, 97, 98, 99, 100, 101] : List UInt8).length ≤ 4611686018427387904 then (some (((strOf [(IntKind.u8.wrap a0)]) ++ ([48, 49, 50, 51, 52, 53, 54, 55, 56, 57, 97, 98, 99, 100, 101, 102, 48, 49, 50, 51, 52, 53, 54, 55, 56, 57, 97, 98, 99, 100, 101] : List UInt8)), ())) else none) := by kernel_rfl
theorem f20_eq : f20_F () = ((f41_L ((1 : Int), ())).bind fun r152 => (f41_L ((2 : Int), ())).bind fun r153 => (f41_L ((3 : Int), ())).bind fun r154 => (f41_L ((4 : Int), ())).bind fun r155 => (f41_L ((5 : Int), ())).bind fun r156 => some (([r152.1, r153.1, r154.1, r155.1], (r156.1, ((30 : Int), ((2 : Int), (([] : List ((Int × (List (List UInt8) × List Int)))), ()))))), ())) := by rw [f20_Fe]; kernel_rfl
theorem f9_eq : f9_F () = ((f20_F ()).bind fun r157 => (f6_L ((r157.1.1, (r157.1.2.1, (r157.1.2.2.1, (r157.1.2.2.2.1, (r157.1.2.2.2.2.1, ()))))), ())).bind fun r158 => (f7_L (r158.1, ())).bind fun r159 => bif (r158.2.1 == (0 : Int)) then (bif (r159.2.1 == (0 : Int)) then (bif ((r159.1.1.length : Int) == (4 : Int)) then (bif (r159.1.2.2.2.1 == (2 : Int)) then ((f10_L ((r159.1.1, (r159.1.2.1, (r159.1.2.2.1, (r159.1.2.2.2.1, (r159.1.2.2.2.2.1, ()))))), ())).bind fun r160 => some (r160.1, ())) else (some (false, ()))) else (some (false, ()))) else (some (false, ()))) else (some (false, ()))) := by rw [f9_Fe]; kernel_rfl
theorem f29_eq a0 : f29_F (a0, ()) = ((nth [(0 : Int), (3 : Int), (3 : Int), (1 : Int), (0 : Int), (1 : Int), (1 : Int), (0 : Int), (2 : Int)] a0).bind fun y176 => some (y176, ())) := by kernel_rfl
theorem f30_eq a0 : f30_F (a0, ()) = ((nth [(0 : Int), (1 : Int), (2 : Int), (2 : Int), (1 : Int), (1 : Int), (2 : Int), (1 : Int), (1 : Int)] a0).bind fun y177 => some (y177, ())) := by kernel_rfl
def f13_p0_y (x7 : List UInt8) (x8 : Int) : f13_p0_sh.den := (((), ((), ((), ((), ((), ((), ((), (x7, (x8, ((), ((), ((), ((), ((), ((), ((), ((), ((), ((), ((), ((), ((), ((), ((), ((), ((), ((), ((), ((), ((), ((), ((), ((), ((), ((), ((), ((), ((), ((), ((), ((), ((), ((), ((), ((), ((), ((), ((), ((), ((), ((), ((), ((), ((), ((), ((), ((), ((), ((), ((), ((), ((), ((), ((), ((), ((), ((), ((), ((), ((), ((), ((), ((), ((), ((), ((), ((), ((), ((), ((), ((), ((), ((), ((), ((), ((), ((), ((), ((), ((), ((), ((), ((), ((), ((), ((), ((), ((), ((), ((), ((), ((), ((), ((), ((), ()))))))))))))))))))))))))))))))))))))))))))))))))))))))))))))))))))))))))))))))))))))))))))))))))))))))))), (), ())
def f13_p0_o0_y (x7 : List UInt8) (x8 : Int) (x104 : Bool) : f13_p0_o0.den := (((), ((), ((), ((), ((), ((), ((), (x7, (x8, ((), ((), ((), ((), ((), ((), ((), ((), ((), ((), ((), ((), ((), ((), ((), ((), ((), ((), ((), ((), ((), ((), ((), ((), ((), ((), ((), ((), ((), ((), ((), ((), ((), ((), ((), ((), ((), ((), ((), ((), ((), ((), ((), ((), ((), ((), ((), ((), ((), ((), ((), ((), ((), ((), ((), ((), ((), ((), ((), ((), ((), ((), ((), ((), ((), ((), ((), ((), ((), ((), ((), ((), ((), ((), ((), ((), ((), ((), ((), ((), ((), ((), ((), ((), ((), ((), ((), ((), ((), ((), ((), ((), ((), ((), ((), (x104, ()))))))))))))))))))))))))))))))))))))))))))))))))))))))))))))))))))))))))))))))))))))))))))))))))))))))))), (), ())
def f13_p0_o0_x7 (z : f13_p0_o0.den) : List UInt8 := z.1.2.2.2.2.2.2.2.1
def f13_p0_o0_x8 (z : f13_p0_o0.den) : Int := z.1.2.2.2.2.2.2.2.2.1
def f13_p0_o0_x104 (z : f13_p0_o0.den) : Bool := z.1.2.2.2.2.2.2.2.2.2.2.2.2.2.2.2.2.2.2.2.2.2.2.2.2.2.2.2.2.2.2.2.2.2.2.2.2.2.2.2.2.2.2.2.2.2.2.2.2.2.2.2.2.2.2.2.2.2.2.2.2.2.2.2.2.2.2.2.2.2.2.2.2.2.2.2.2.2.2.2.2.2.2.2.2.2.2.2.2.2.2.2.2.2.2.2.2.2.2.2.2.2.2.2.2.1
@[simp] theorem f13_p0_o0_x7_y x7 x8 x104 : f13_p0_o0_x7 (f13_p0_o0_y x7 x8 x104) = x7 := id rfl
@[simp] theorem f13_p0_o0_x8_y x7 x8 x104 : f13_p0_o0_x8 (f13_p0_o0_y x7 x8 x104) = x8 := id rfl
@[simp] theorem f13_p0_o0_x104_y x7 x8 x104 : f13_p0_o0_x104 (f13_p0_o0_y x7 x8 x104) = x104 := id rfl
theorem f13_p0_eq x7 x8 : f13_p0_F (f13_p0_y x7 x8) = ((nth x7 x8).bind fun c178 => bif ((c178.toNat : Int) != (48 : Int)) then ((nth x7 x8).bind fun c179 => some ((f13_p0_o0_y x7 x8 ((c179.toNat : Int) != (49 : Int))))) else (some ((f13_p0_o0_y x7 x8 false)))) := by kernel_rfl
def f13_p1_y (x6 : Int) (x47 : List Int) (x48 : Int) (x49 : Int) (r0_0 : Int) (r0_1 : List (List UInt8)) (r0_2 : List Int) : f13_p1_sh.den := (((), ((), ((), ((), ((), ((), (x6, ((), ((), ((), ((), ((), ((), ((), ((), ((), ((), ((), ((), ((), ((), ((), ((), ((), ((), ((), ((), ((), ((), ((), ((), ((), ((), ((), ((), ((), ((), ((), ((), ((), ((), ((), ((), ((), ((), ((), ((), (x47, (x48, (x49, ((), ((), ((), ((), ((), ((), ((), ((), ((), ((), ((), ((), ((), ((), ((), ((), ((), ((), ((), ((), ((), ((), ((), ((), ((), ((), ((), ((), ((), ((), ((), ((), ((), ((), ((), ((), ((), ((), ((), ((), ((), ((), ((), ((), ((), ((), ((), ((), ((), ((), ((), ((), ((), ((), ((), ()))))))))))))))))))))))))))))))))))))))))))))))))))))))))))))))))))))))))))))))))))))))))))))))))))))))))), ((r0_0, (r0_1, (r0_2, ()))), ()), ())
def f13_p1_o0_y (x47 : List Int) (x48 : Int) (x49 : Int) (x58 : Bool) (r0_0 : Int) (r0_1 : List (List UInt8)) (r0_2 : List Int) : f13_p1_o0.den := (((), ((), ((), ((), ((), ((), ((), ((), ((), ((), ((), ((), ((), ((), ((), ((), ((), ((), ((), ((), ((), ((), ((), ((), ((), ((), ((), ((), ((), ((), ((), ((), ((), ((), ((), ((), ((), ((), ((), ((), ((), ((), ((), ((), ((), ((), ((), (x47, (x48, (x49, ((), ((), ((), ((), ((), ((), ((), ((), (x58, ((), ((), ((), ((), ((), ((), ((), ((), ((), ((), ((), ((), ((), ((), ((), ((), ((), ((), ((), ((), ((), ((), ((), ((), ((), ((), ((), ((), ((), ((), ((), ((), ((), ((), ((), ((), ((), ((), ((), ((), ((), ((), ((), ((), ((), ((), ()))))))))))))))))))))))))))))))))))))))))))))))))))))))))))))))))))))))))))))))))))))))))))))))))))))))))), ((r0_0, (r0_1, (r0_2, ()))), ()), ())
def f13_p1_o0_x47 (z : f13_p1_o0.den) : List Int := z.1.2.2.2.2.2.2.2.2.2.2.2.2.2.2.2.2.2.2.2.2.2.2.2.2.2.2.2.2.2.2.2.2.2.2.2.2.2.2.2.2.2.2.2.2.2.2.2.1
def f13_p1_o0_x48 (z : f13_p1_o0.den) : Int := z.1.2.2.2.2.2.2.2.2.2.2.2.2.2.2.2.2.2.2.2.2.2.2.2.2.2.2.2.2.2.2.2.2.2.2.2.2.2.2.2.2.2.2.2.2.2.2.2.2.1
def f13_p1_o0_x49 (z : f13_p1_o0.den) : Int := z.1.2.2.2.2.2.2.2.2.2.2.2.2.2.2.2.2.2.2.2.2.2.2.2.2.2.2.2.2.2.2.2.2.2.2.2.2.2.2.2.2.2.2.2.2.2.2.2.2.2.1
def f13_p1_o0_x58 (z : f13_p1_o0.den) : Bool := z.1.2.2.2.2.2.2.2.2.2.2.2.2.2.2.2.2.2.2.2.2.2.2.2.2.2.2.2.2.2.2.2.2.2.2.2.2.2.2.2.2.2.2.2.2.2.2.2.2.2.2.2.2.2.2.2.2.2.2.1
def f13_p1_o0_r0_0 (z : f13_p1_o0.den) : Int := z.2.1.1.1
def f13_p1_o0_r0_1 (z : f13_p1_o0.den) : List (List UInt8) := z.2.1.1.2.1
def f13_p1_o0_r0_2 (z : f13_p1_o0.den) : List Int := z.2.1.1.2.2.1
@[simp] theorem f13_p1_o0_x47_y x47 x48 x49 x58 r0_0 r0_1 r0_2 : f13_p1_o0_x47 (f13_p1_o0_y x47 x48 x49 x58 r0_0 r0_1 r0_2) = x47 := id rfl
@[simp] theorem f13_p1_o0_x48_y x47 x48 x49 x58 r0_0 r0_1 r0_2 : f13_p1_o0_x48 (f13_p1_o0_y x47 x48 x49 x58 r0_0 r0_1 r0_2) = x48 := id rfl
@[simp] theorem f13_p1_o0_x49_y x47 x48 x49 x58 r0_0 r0_1 r0_2 : f13_p1_o0_x49 (f13_p1_o0_y x47 x48 x49 x58 r0_0 r0_1 r0_2) = x49 := id rfl
@[simp] theorem f13_p1_o0_x58_y x47 x48 x49 x58 r0_0 r0_1 r0_2 : f13_p1_o0_x58 (f13_p1_o0_y x47 x48 x49 x58 r0_0 r0_1 r0_2) = x58 := id rfl
@[simp] theorem f13_p1_o0_r0_0_y x47 x48 x49 x58 r0_0 r0_1 r0_2 : f13_p1_o0_r0_0 (f13_p1_o0_y x47 x48 x49 x58 r0_0 r0_1 r0_2) = r0_0 := id rfl
@[simp] theorem f13_p1_o0_r0_1_y x47 x48 x49 x58 r0_0 r0_1 r0_2 : f13_p1_o0_r0_1 (f13_p1_o0_y x47 x48 x49 x58 r0_0 r0_1 r0_2) = r0_1 := id rfl
@[simp] theorem f13_p1_o0_r0_2_y x47 x48 x49 x58 r0_0 r0_1 r0_2 : f13_p1_o0_r0_2 (f13_p1_o0_y x47 x48 x49 x58 r0_0 r0_1 r0_2) = r0_2 := id rfl
theorem f13_p1_eq x6 x47 x48 x49 r0_0 r0_1 r0_2 : f13_p1_F (f13_p1_y x6 x47 x48 x49 r0_0 r0_1 r0_2) = (bif (decide (x6 < (0 : Int))) then (some ((f13_p1_o0_y x47 x48 x49 true r0_0 r0_1 r0_2))) else (some ((f13_p1_o0_y x47 x48 x49 (decide (x6 > (1099511627776 : Int))) r0_0 r0_1 r0_2)))) := by kernel_rfl
def f13_p2_y (x7 : List UInt8) (x8 : Int) : f13_p2_sh.den := (((), ((), ((), ((), ((), ((), ((), (x7, (x8, ((), ((), ((), ((), ((), ((), ((), ((), ((), ((), ((), ((), ((), ((), ((), ((), ((), ((), ((), ((), ((), ((), ((), ((), ((), ((), ((), ((), ((), ((), ((), ((), ((), ((), ((), ((), ((), ((), ((), ((), ((), ((), ((), ((), ((), ((), ((), ((), ((), ((), ((), ((), ((), ((), ((), ((), ((), ((), ((), ((), ((), ((), ((), ((), ((), ((), ((), ((), ((), ((), ((), ((), ((), ((), ((), ((), ((), ((), ((), ((), ((), ((), ((), ((), ((), ((), ((), ((), ((), ((), ((), ((), ((), ((), ((), ((), ()))))))))))))))))))))))))))))))))))))))))))))))))))))))))))))))))))))))))))))))))))))))))))))))))))))))))), (), ())
def f13_p2_o0_y : f13_p2_o0.den := (((), ((), ((), ((), ((), ((), ((), ((), ((), ((), ((), ((), ((), ((), ((), ((), ((), ((), ((), ((), ((), ((), ((), ((), ((), ((), ((), ((), ((), ((), ((), ((), ((), ((), ((), ((), ((), ((), ((), ((), ((), ((), ((), ((), ((), ((), ((), ((), ((), ((), ((), ((), ((), ((), ((), ((), ((), ((), ((), ((), ((), ((), ((), ((), ((), ((), ((), ((), ((), ((), ((), ((), ((), ((), ((), ((), ((), ((), ((), ((), ((), ((), ((), ((), ((), ((), ((), ((), ((), ((), ((), ((), ((), ((), ((), ((), ((), ((), ((), ((), ((), ((), ((), ((), ((), ()))))))))))))))))))))))))))))))))))))))))))))))))))))))))))))))))))))))))))))))))))))))))))))))))))))))))), (), ())
def f13_p2_o1_y (x2 : Bool) : f13_p2_o1.den := (((), ((), (x2, ((), ((), ((), ((), ((), ((), ((), ((), ((), ((), ((), ((), ((), ((), ((), ((), ((), ((), ((), ((), ((), ((), ((), ((), ((), ((), ((), ((), ((), ((), ((), ((), ((), ((), ((), ((), ((), ((), ((), ((), ((), ((), ((), ((), ((), ((), ((), ((), ((), ((), ((), ((), ((), ((), ((), ((), ((), ((), ((), ((), ((), ((), ((), ((), ((), ((), ((), ((), ((), ((), ((), ((), ((), ((), ((), ((), ((), ((), ((), ((), ((), ((), ((), ((), ((), ((), ((), ((), ((), ((), ((), ((), ((), ((), ((), ((), ((), ((), ((), ((), ((), ((), ()))))))))))))))))))))))))))))))))))))))))))))))))))))))))))))))))))))))))))))))))))))))))))))))))))))))))), (), ())
def f13_p2_o1_x2 (z : f13_p2_o1.den) : Bool := z.1.2.2.1
@[simp] theorem f13_p2_o1_x2_y x2 : f13_p2_o1_x2 (f13_p2_o1_y x2) = x2 := id rfl
theorem f13_p2_eq rec x7 x8 : f13_p2_st rec (f13_p2_y x7 x8) = (bif (decide (x8 < (x7.length : Int))) then ((f13_p0_F (f13_p0_y x7 x8)).bind fun o180 => bif (f13_p0_o0_x104 o180) then (some (.inr ((f13_p2_o1_y false)))) else (rec (f13_p2_y (f13_p0_o0_x7 o180) (IntKind.i64.wrap ((f13_p0_o0_x8 o180) + (1 : Int)))))) else (some (.inl f13_p2_o0_y))) := by kernel_rfl
def f13_p3_y (x47 : List Int) (x48 : Int) (x49 : Int) (r0_0 : Int) (r0_1 : List (List UInt8)) (r0_2 : List Int) : f13_p3_sh.den := (((), ((), ((), ((), ((), ((), ((), ((), ((), ((), ((), ((), ((), ((), ((), ((), ((), ((), ((), ((), ((), ((), ((), ((), ((), ((), ((), ((), ((), ((), ((), ((), ((), ((), ((), ((), ((), ((), ((), ((), ((), ((), ((), ((), ((), ((), ((), (x47, (x48, (x49, ((), ((), ((), ((), ((), ((), ((), ((), ((), ((), ((), ((), ((), ((), ((), ((), ((), ((), ((), ((), ((), ((), ((), ((), ((), ((), ((), ((), ((), ((), ((), ((), ((), ((), ((), ((), ((), ((), ((), ((), ((), ((), ((), ((), ((), ((), ((), ((), ((), ((), ((), ((), ((), ((), ((), ()))))))))))))))))))))))))))))))))))))))))))))))))))))))))))))))))))))))))))))))))))))))))))))))))))))))))), ((r0_0, (r0_1, (r0_2, ()))), ()), ())
def f13_p3_o0_y (r0_0 : Int) (r0_1 : List (List UInt8)) (r0_2 : List Int) : f13_p3_o0.den := (((), ((), ((), ((), ((), ((), ((), ((), ((), ((), ((), ((), ((), ((), ((), ((), ((), ((), ((), ((), ((), ((), ((), ((), ((), ((), ((), ((), ((), ((), ((), ((), ((), ((), ((), ((), ((), ((), ((), ((), ((), ((), ((), ((), ((), ((), ((), ((), ((), ((), ((), ((), ((), ((), ((), ((), ((), ((), ((), ((), ((), ((), ((), ((), ((), ((), ((), ((), ((), ((), ((), ((), ((), ((), ((), ((), ((), ((), ((), ((), ((), ((), ((), ((), ((), ((), ((), ((), ((), ((), ((), ((), ((), ((), ((), ((), ((), ((), ((), ((), ((), ((), ((), ((), ((), ()))))))))))))))))))))))))))))))))))))))))))))))))))))))))))))))))))))))))))))))))))))))))))))))))))))))))), ((r0_0, (r0_1, (r0_2, ()))), ()), ())
def f13_p3_o0_r0_0 (z : f13_p3_o0.den) : Int := z.2.1.1.1
def f13_p3_o0_r0_1 (z : f13_p3_o0.den) : List (List UInt8) := z.2.1.1.2.1
def f13_p3_o0_r0_2 (z : f13_p3_o0.den) : List Int := z.2.1.1.2.2.1
@[simp] theorem f13_p3_o0_r0_0_y r0_0 r0_1 r0_2 : f13_p3_o0_r0_0 (f13_p3_o0_y r0_0 r0_1 r0_2) = r0_0 := id rfl
@[simp] theorem f13_p3_o0_r0_1_y r0_0 r0_1 r0_2 : f13_p3_o0_r0_1 (f13_p3_o0_y r0_0 r0_1 r0_2) = r0_1 := id rfl
@[simp] theorem f13_p3_o0_r0_2_y r0_0 r0_1 r0_2 : f13_p3_o0_r0_2 (f13_p3_o0_y r0_0 r0_1 r0_2) = r0_2 := id rfl
def f13_p3_o1_y (x2 : Bool) : f13_p3_o1.den := (((), ((), (x2, ((), ((), ((), ((), ((), ((), ((), ((), ((), ((), ((), ((), ((), ((), ((), ((), ((), ((), ((), ((), ((), ((), ((), ((), ((), ((), ((), ((), ((), ((), ((), ((), ((), ((), ((), ((), ((), ((), ((), ((), ((), ((), ((), ((), ((), ((), ((), ((), ((), ((), ((), ((), ((), ((), ((), ((), ((), ((), ((), ((), ((), ((), ((), ((), ((), ((), ((), ((), ((), ((), ((), ((), ((), ((), ((), ((), ((), ((), ((), ((), ((), ((), ((), ((), ((), ((), ((), ((), ((), ((), ((), ((), ((), ((), ((), ((), ((), ((), ((), ((), ((), ((), ()))))))))))))))))))))))))))))))))))))))))))))))))))))))))))))))))))))))))))))))))))))))))))))))))))))))))), (), ())
def f13_p3_o1_x2 (z : f13_p3_o1.den) : Bool := z.1.2.2.1
@[simp] theorem f13_p3_o1_x2_y x2 : f13_p3_o1_x2 (f13_p3_o1_y x2) = x2 := id rfl
theorem f13_p3_eq rec x47 x48 x49 r0_0 r0_1 r0_2 : f13_p3_st rec (f13_p3_y x47 x48 x49 r0_0 r0_1 r0_2) = (bif (decide (x49 < x48)) then ((nth x47 x49).bind fun y181 => (f13_p1_F (f13_p1_y y181 x47 x48 x49 r0_0 r0_1 r0_2)).bind fun o182 => bif (f13_p1_o0_x58 o182) then (some (.inr ((f13_p3_o1_y false)))) else (rec (f13_p3_y (f13_p1_o0_x47 o182) (f13_p1_o0_x48 o182) (IntKind.i64.wrap ((f13_p1_o0_x49 o182) + (1 : Int))) (f13_p1_o0_r0_0 o182) (f13_p1_o0_r0_1 o182) (f13_p1_o0_r0_2 o182)))) else (some (.inl (f13_p3_o0_y r0_0 r0_1 r0_2)))) := by kernel_rfl
def f13_p4_y (r0_0 : Int) (r0_1 : List (List UInt8)) (r0_2 : List Int) : f13_p4_sh.den := (((), ((), ((), ((), ((), ((), ((), ((), ((), ((), ((), ((), ((), ((), ((), ((), ((), ((), ((), ((), ((), ((), ((), ((), ((), ((), ((), ((), ((), ((), ((), ((), ((), ((), ((), ((), ((), ((), ((), ((), ((), ((), ((), ((), ((), ((), ((), ((), ((), ((), ((), ((), ((), ((), ((), ((), ((), ((), ((), ((), ((), ((), ((), ((), ((), ((), ((), ((), ((), ((), ((), ((), ((), ((), ((), ((), ((), ((), ((), ((), ((), ((), ((), ((), ((), ((), ((), ((), ((), ((), ((), ((), ((), ((), ((), ((), ((), ((), ((), ((), ((), ((), ((), ((), ((), ()))))))))))))))))))))))))))))))))))))))))))))))))))))))))))))))))))))))))))))))))))))))))))))))))))))))))), ((r0_0, (r0_1, (r0_2, ()))), ()), ())
def f13_p4_o0_y (x81 : Bool) (r0_0 : Int) (r0_1 : List (List UInt8)) (r0_2 : List Int) : f13_p4_o0.den := (((), ((), ((), ((), ((), ((), ((), ((), ((), ((), ((), ((), ((), ((), ((), ((), ((), ((), ((), ((), ((), ((), ((), ((), ((), ((), ((), ((), ((), ((), ((), ((), ((), ((), ((), ((), ((), ((), ((), ((), ((), ((), ((), ((), ((), ((), ((), ((), ((), ((), ((), ((), ((), ((), ((), ((), ((), ((), ((), ((), ((), ((), ((), ((), ((), ((), ((), ((), ((), ((), ((), ((), ((), ((), ((), ((), ((), ((), ((), ((), ((), (x81, ((), ((), ((), ((), ((), ((), ((), ((), ((), ((), ((), ((), ((), ((), ((), ((), ((), ((), ((), ((), ((), ((), ((), ()))))))))))))))))))))))))))))))))))))))))))))))))))))))))))))))))))))))))))))))))))))))))))))))))))))))))), ((r0_0, (r0_1, (r0_2, ()))), ()), ())
def f13_p4_o0_x81 (z : f13_p4_o0.den) : Bool := z.1.2.2.2.2.2.2.2.2.2.2.2.2.2.2.2.2.2.2.2.2.2.2.2.2.2.2.2.2.2.2.2.2.2.2.2.2.2.2.2.2.2.2.2.2.2.2.2.2.2.2.2.2.2.2.2.2.2.2.2.2.2.2.2.2.2.2.2.2.2.2.2.2.2.2.2.2.2.2.2.2.2.1
def f13_p4_o0_r0_0 (z : f13_p4_o0.den) : Int := z.2.1.1.1
def f13_p4_o0_r0_1 (z : f13_p4_o0.den) : List (List UInt8) := z.2.1.1.2.1
def f13_p4_o0_r0_2 (z : f13_p4_o0.den) : List Int := z.2.1.1.2.2.1
@[simp] theorem f13_p4_o0_x81_y x81 r0_0 r0_1 r0_2 : f13_p4_o0_x81 (f13_p4_o0_y x81 r0_0 r0_1 r0_2) = x81 := id rfl
@[simp] theorem f13_p4_o0_r0_0_y x81 r0_0 r0_1 r0_2 : f13_p4_o0_r0_0 (f13_p4_o0_y x81 r0_0 r0_1 r0_2) = r0_0 := id rfl
@[simp] theorem f13_p4_o0_r0_1_y x81 r0_0 r0_1 r0_2 : f13_p4_o0_r0_1 (f13_p4_o0_y x81 r0_0 r0_1 r0_2) = r0_1 := id rfl
@[simp] theorem f13_p4_o0_r0_2_y x81 r0_0 r0_1 r0_2 : f13_p4_o0_r0_2 (f13_p4_o0_y x81 r0_0 r0_1 r0_2) = r0_2 := id rfl
theorem f13_p4_eq r0_0 r0_1 r0_2 : f13_p4_F (f13_p4_y r0_0 r0_1 r0_2) = (bif (r0_0 == (2 : Int)) then ((nth r0_2 (1 : Int)).bind fun y183 => bif (decide (y183 > (1 : Int))) then (some ((f13_p4_o0_y true r0_0 r0_1 r0_2))) else (bif (r0_0 == (8 : Int)) then ((nth r0_2 (0 : Int)).bind fun y184 => some ((f13_p4_o0_y (decide (y184 > (1 : Int))) r0_0 r0_1 r0_2))) else (some ((f13_p4_o0_y false r0_0 r0_1 r0_2))))) else (bif (r0_0 == (8 : Int)) then ((nth r0_2 (0 : Int)).bind fun y185 => some ((f13_p4_o0_y (decide (y185 > (1 : Int))) r0_0 r0_1 r0_2))) else (some ((f13_p4_o0_y false r0_0 r0_1 r0_2))))) := by kernel_rfl
def f13_p5_y (r0_0 : Int) (r0_1 : List (List UInt8)) (r0_2 : List Int) : f13_p5_sh.den := (((), ((), ((), ((), ((), ((), ((), ((), ((), ((), ((), ((), ((), ((), ((), ((), ((), ((), ((), ((), ((), ((), ((), ((), ((), ((), ((), ((), ((), ((), ((), ((), ((), ((), ((), ((), ((), ((), ((), ((), ((), ((), ((), ((), ((), ((), ((), ((), ((), ((), ((), ((), ((), ((), ((), ((), ((), ((), ((), ((), ((), ((), ((), ((), ((), ((), ((), ((), ((), ((), ((), ((), ((), ((), ((), ((), ((), ((), ((), ((), ((), ((), ((), ((), ((), ((), ((), ((), ((), ((), ((), ((), ((), ((), ((), ((), ((), ((), ((), ((), ((), ((), ((), ((), ((), ()))))))))))))))))))))))))))))))))))))))))))))))))))))))))))))))))))))))))))))))))))))))))))))))))))))))))), ((r0_0, (r0_1, (r0_2, ()))), ()), ())
def f13_p5_o0_y (x2 : Bool) : f13_p5_o0.den := (((), ((), (x2, ((), ((), ((), ((), ((), ((), ((), ((), ((), ((), ((), ((), ((), ((), ((), ((), ((), ((), ((), ((), ((), ((), ((), ((), ((), ((), ((), ((), ((), ((), ((), ((), ((), ((), ((), ((), ((), ((), ((), ((), ((), ((), ((), ((), ((), ((), ((), ((), ((), ((), ((), ((), ((), ((), ((), ((), ((), ((), ((), ((), ((), ((), ((), ((), ((), ((), ((), ((), ((), ((), ((), ((), ((), ((), ((), ((), ((), ((), ((), ((), ((), ((), ((), ((), ((), ((), ((), ((), ((), ((), ((), ((), ((), ((), ((), ((), ((), ((), ((), ((), ((), ((), ()))))))))))))))))))))))))))))))))))))))))))))))))))))))))))))))))))))))))))))))))))))))))))))))))))))))))), (), ())
def f13_p5_o0_x2 (z : f13_p5_o0.den) : Bool := z.1.2.2.1
@[simp] theorem f13_p5_o0_x2_y x2 : f13_p5_o0_x2 (f13_p5_o0_y x2) = x2 := id rfl
def f13_p5_o1_y : f13_p5_o1.den := (((), ((), ((), ((), ((), ((), ((), ((), ((), ((), ((), ((), ((), ((), ((), ((), ((), ((), ((), ((), ((), ((), ((), ((), ((), ((), ((), ((), ((), ((), ((), ((), ((), ((), ((), ((), ((), ((), ((), ((), ((), ((), ((), ((), ((), ((), ((), ((), ((), ((), ((), ((), ((), ((), ((), ((), ((), ((), ((), ((), ((), ((), ((), ((), ((), ((), ((), ((), ((), ((), ((), ((), ((), ((), ((), ((), ((), ((), ((), ((), ((), ((), ((), ((), ((), ((), ((), ((), ((), ((), ((), ((), ((), ((), ((), ((), ((), ((), ((), ((), ((), ((), ((), ((), ((), ()))))))))))))))))))))))))))))))))))))))))))))))))))))))))))))))))))))))))))))))))))))))))))))))))))))))))), (), ())
theorem f13_p5_eq r0_0 r0_1 r0_2 : f13_p5_F (f13_p5_y r0_0 r0_1 r0_2) = (bif (r0_0 == (6 : Int)) then ((nth r0_1 (0 : Int)).bind fun y186 => (go f13_p2_st (f13_p2_y y186 (0 : Int))).bind fun o187 => (match o187 with | .inl z188 => some (.inr (f13_p5_o1_y)) | .inr o189 => some (.inl (f13_p5_o0_y (f13_p2_o1_x2 o189))))) else (some (.inr (f13_p5_o1_y)))) := by kernel_rfl
def f13_p6_y (x36 : List (List UInt8)) (x37 : Int) (x38 : Int) (r0_0 : Int) (r0_1 : List (List UInt8)) (r0_2 : List Int) : f13_p6_sh.den := (((), ((), ((), ((), ((), ((), ((), ((), ((), ((), ((), ((), ((), ((), ((), ((), ((), ((), ((), ((), ((), ((), ((), ((), ((), ((), ((), ((), ((), ((), ((), ((), ((), ((), ((), ((), (x36, (x37, (x38, ((), ((), ((), ((), ((), ((), ((), ((), ((), ((), ((), ((), ((), ((), ((), ((), ((), ((), ((), ((), ((), ((), ((), ((), ((), ((), ((), ((), ((), ((), ((), ((), ((), ((), ((), ((), ((), ((), ((), ((), ((), ((), ((), ((), ((), ((), ((), ((), ((), ((), ((), ((), ((), ((), ((), ((), ((), ((), ((), ((), ((), ((), ((), ((), ((), ((), ()))))))))))))))))))))))))))))))))))))))))))))))))))))))))))))))))))))))))))))))))))))))))))))))))))))))))), ((r0_0, (r0_1, (r0_2, ()))), ()), ())
def f13_p6_o0_y (r0_0 : Int) (r0_1 : List (List UInt8)) (r0_2 : List Int) : f13_p6_o0.den := (((), ((), ((), ((), ((), ((), ((), ((), ((), ((), ((), ((), ((), ((), ((), ((), ((), ((), ((), ((), ((), ((), ((), ((), ((), ((), ((), ((), ((), ((), ((), ((), ((), ((), ((), ((), ((), ((), ((), ((), ((), ((), ((), ((), ((), ((), ((), ((), ((), ((), ((), ((), ((), ((), ((), ((), ((), ((), ((), ((), ((), ((), ((), ((), ((), ((), ((), ((), ((), ((), ((), ((), ((), ((), ((), ((), ((), ((), ((), ((), ((), ((), ((), ((), ((), ((), ((), ((), ((), ((), ((), ((), ((), ((), ((), ((), ((), ((), ((), ((), ((), ((), ((), ((), ((), ()))))))))))))))))))))))))))))))))))))))))))))))))))))))))))))))))))))))))))))))))))))))))))))))))))))))))), ((r0_0, (r0_1, (r0_2, ()))), ()), ())
def f13_p6_o0_r0_0 (z : f13_p6_o0.den) : Int := z.2.1.1.1
def f13_p6_o0_r0_1 (z : f13_p6_o0.den) : List (List UInt8) := z.2.1.1.2.1
def f13_p6_o0_r0_2 (z : f13_p6_o0.den) : List Int := z.2.1.1.2.2.1
@[simp] theorem f13_p6_o0_r0_0_y r0_0 r0_1 r0_2 : f13_p6_o0_r0_0 (f13_p6_o0_y r0_0 r0_1 r0_2) = r0_0 := id rfl
@[simp] theorem f13_p6_o0_r0_1_y r0_0 r0_1 r0_2 : f13_p6_o0_r0_1 (f13_p6_o0_y r0_0 r0_1 r0_2) = r0_1 := id rfl
@[simp] theorem f13_p6_o0_r0_2_y r0_0 r0_1 r0_2 : f13_p6_o0_r0_2 (f13_p6_o0_y r0_0 r0_1 r0_2) = r0_2 := id rfl
def f13_p6_o1_y (x2 : Bool) : f13_p6_o1.den := (((), ((), (x2, ((), ((), ((), ((), ((), ((), ((), ((), ((), ((), ((), ((), ((), ((), ((), ((), ((), ((), ((), ((), ((), ((), ((), ((), ((), ((), ((), ((), ((), ((), ((), ((), ((), ((), ((), ((), ((), ((), ((), ((), ((), ((), ((), ((), ((), ((), ((), ((), ((), ((), ((), ((), ((), ((), ((), ((), ((), ((), ((), ((), ((), ((), ((), ((), ((), ((), ((), ((), ((), ((), ((), ((), ((), ((), ((), ((), ((), ((), ((), ((), ((), ((), ((), ((), ((), ((), ((), ((), ((), ((), ((), ((), ((), ((), ((), ((), ((), ((), ((), ((), ((), ((), ()))))))))))))))))))))))))))))))))))))))))))))))))))))))))))))))))))))))))))))))))))))))))))))))))))))))))), (), ())
def f13_p6_o1_x2 (z : f13_p6_o1.den) : Bool := z.1.2.2.1
@[simp] theorem f13_p6_o1_x2_y x2 : f13_p6_o1_x2 (f13_p6_o1_y x2) = x2 := id rfl
theorem f13_p6_eq rec x36 x37 x38 r0_0 r0_1 r0_2 : f13_p6_st rec (f13_p6_y x36 x37 x38 r0_0 r0_1 r0_2) = (bif (decide (x38 < x37)) then ((nth x36 x38).bind fun y190 => bif (decide ((y190.length : Int) > (3000 : Int))) then (some (.inr ((f13_p6_o1_y false)))) else (rec (f13_p6_y x36 x37 (IntKind.i64.wrap (x38 + (1 : Int))) r0_0 r0_1 r0_2))) else (some (.inl (f13_p6_o0_y r0_0 r0_1 r0_2)))) := by kernel_rfl
def f13_p7_y (r0_0 : Int) (r0_1 : List (List UInt8)) (r0_2 : List Int) : f13_p7_sh.den := (((), ((), ((), ((), ((), ((), ((), ((), ((), ((), ((), ((), ((), ((), ((), ((), ((), ((), ((), ((), ((), ((), ((), ((), ((), ((), ((), ((), ((), ((), ((), ((), ((), ((), ((), ((), ((), ((), ((), ((), ((), ((), ((), ((), ((), ((), ((), ((), ((), ((), ((), ((), ((), ((), ((), ((), ((), ((), ((), ((), ((), ((), ((), ((), ((), ((), ((), ((), ((), ((), ((), ((), ((), ((), ((), ((), ((), ((), ((), ((), ((), ((), ((), ((), ((), ((), ((), ((), ((), ((), ((), ((), ((), ((), ((), ((), ((), ((), ((), ((), ((), ((), ((), ((), ((), ()))))))))))))))))))))))))))))))))))))))))))))))))))))))))))))))))))))))))))))))))))))))))))))))))))))))))), ((r0_0, (r0_1, (r0_2, ()))), ()), ())
def f13_p7_o0_y (x34 : Bool) (r0_0 : Int) (r0_1 : List (List UInt8)) (r0_2 : List Int) : f13_p7_o0.den := (((), ((), ((), ((), ((), ((), ((), ((), ((), ((), ((), ((), ((), ((), ((), ((), ((), ((), ((), ((), ((), ((), ((), ((), ((), ((), ((), ((), ((), ((), ((), ((), ((), ((), (x34, ((), ((), ((), ((), ((), ((), ((), ((), ((), ((), ((), ((), ((), ((), ((), ((), ((), ((), ((), ((), ((), ((), ((), ((), ((), ((), ((), ((), ((), ((), ((), ((), ((), ((), ((), ((), ((), ((), ((), ((), ((), ((), ((), ((), ((), ((), ((), ((), ((), ((), ((), ((), ((), ((), ((), ((), ((), ((), ((), ((), ((), ((), ((), ((), ((), ((), ((), ((), ((), ((), ()))))))))))))))))))))))))))))))))))))))))))))))))))))))))))))))))))))))))))))))))))))))))))))))))))))))))), ((r0_0, (r0_1, (r0_2, ()))), ()), ())
def f13_p7_o0_x34 (z : f13_p7_o0.den) : Bool := z.1.2.2.2.2.2.2.2.2.2.2.2.2.2.2.2.2.2.2.2.2.2.2.2.2.2.2.2.2.2.2.2.2.2.2.1
def f13_p7_o0_r0_0 (z : f13_p7_o0.den) : Int := z.2.1.1.1
def f13_p7_o0_r0_1 (z : f13_p7_o0.den) : List (List UInt8) := z.2.1.1.2.1
def f13_p7_o0_r0_2 (z : f13_p7_o0.den) : List Int := z.2.1.1.2.2.1
@[simp] theorem f13_p7_o0_x34_y x34 r0_0 r0_1 r0_2 : f13_p7_o0_x34 (f13_p7_o0_y x34 r0_0 r0_1 r0_2) = x34 := id rfl
@[simp] theorem f13_p7_o0_r0_0_y x34 r0_0 r0_1 r0_2 : f13_p7_o0_r0_0 (f13_p7_o0_y x34 r0_0 r0_1 r0_2) = r0_0 := id rfl
@[simp] theorem f13_p7_o0_r0_1_y x34 r0_0 r0_1 r0_2 : f13_p7_o0_r0_1 (f13_p7_o0_y x34 r0_0 r0_1 r0_2) = r0_1 := id rfl
@[simp] theorem f13_p7_o0_r0_2_y x34 r0_0 r0_1 r0_2 : f13_p7_o0_r0_2 (f13_p7_o0_y x34 r0_0 r0_1 r0_2) = r0_2 := id rfl
theorem f13_p7_eq r0_0 r0_1 r0_2 : f13_p7_F (f13_p7_y r0_0 r0_1 r0_2) = (bif (decide (r0_0 < (1 : Int))) then (some ((f13_p7_o0_y true r0_0 r0_1 r0_2))) else (bif (decide (r0_0 > (8 : Int))) then (some ((f13_p7_o0_y true r0_0 r0_1 r0_2))) else ((f29_F (r0_0, ())).bind fun r191 => bif ((r0_1.length : Int) != r191.1) then (some ((f13_p7_o0_y true r0_0 r0_1 r0_2))) else ((f30_F (r0_0, ())).bind fun r192 => some ((f13_p7_o0_y ((r0_2.length : Int) != r192.1) r0_0 r0_1 r0_2)))))) := by kernel_rfl
theorem f13_eq a0_0 a0_1 a0_2 : f13_F ((a0_0, (a0_1, (a0_2, ()))), ()) = ((f13_p7_F (f13_p7_y a0_0 a0_1 a0_2)).bind fun o193 => bif (f13_p7_o0_x34 o193) then (some (false, ())) else ((go f13_p6_st (f13_p6_y (f13_p7_o0_r0_1 o193) ((f13_p7_o0_r0_1 o193).length : Int) (0 : Int) (f13_p7_o0_r0_0 o193) (f13_p7_o0_r0_1 o193) (f13_p7_o0_r0_2 o193))).bind fun o194 => (match o194 with | .inl z195 => (go f13_p3_st (f13_p3_y (f13_p6_o0_r0_2 z195) ((f13_p6_o0_r0_2 z195).length : Int) (0 : Int) (f13_p6_o0_r0_0 z195) (f13_p6_o0_r0_1 z195) (f13_p6_o0_r0_2 z195))).bind fun o197 => (match o197 with | .inl z198 => (f13_p4_F (f13_p4_y (f13_p3_o0_r0_0 z198) (f13_p3_o0_r0_1 z198) (f13_p3_o0_r0_2 z198))).bind fun o200 => bif (f13_p4_o0_x81 o200) then (some (false, ())) else ((f13_p5_F (f13_p5_y (f13_p4_o0_r0_0 o200) (f13_p4_o0_r0_1 o200) (f13_p4_o0_r0_2 o200))).bind fun o201 => (match o201 with | .inl z202 => some ((f13_p5_o0_x2 z202), ()) | .inr o203 => some (true, ()))) | .inr o199 => some ((f13_p3_o1_x2 o199), ())) | .inr o196 => some ((f13_p6_o1_x2 o196), ())))) := by kernel_rfl
theorem f31_eq a0 : f31_F (a0, ()) = ((nth [([] : List UInt8), ([112, 117, 98, 108, 105, 115, 104] : List UInt8), ([100, 101, 108, 101, 103] : List UInt8), ([114, 111, 116, 97, 116, 101] : List UInt8), ([115, 116, 97, 109, 112] : List UInt8), ([117, 112, 100, 97, 116, 101] : List UInt8), ([99, 114, 97, 115, 104] : List UInt8), ([119, 97, 116, 99, 104] : List UInt8), ([109, 105, 114, 114, 111, 114] : List UInt8)] a0).bind fun y204 => some (y204, ())) := by kernel_rfl
def f32_p0_y (x0 : List UInt8) (x4 : Int) (l0 : List Int) : f32_p0_sh.den := ((x0, ((), ((), ((), (x4, ((), ((), ((), ((), ((), ((), ((), ((), ((), ((), ((), ((), ((), ((), ((), ((), ((), ((), ((), ((), ((), ((), ()))))))))))))))))))))))))))), (), (l0, ()))
def f32_p0_o0_y (l0 : List Int) : f32_p0_o0.den := (((), ((), ((), ((), ((), ((), ((), ((), ((), ((), ((), ((), ((), ((), ((), ((), ((), ((), ((), ((), ((), ((), ((), ((), ((), ((), ((), ()))))))))))))))))))))))))))), (), (l0, ()))
def f32_p0_o0_l0 (z : f32_p0_o0.den) : List Int := z.2.2.1
@[simp] theorem f32_p0_o0_l0_y l0 : f32_p0_o0_l0 (f32_p0_o0_y l0) = l0 := id rfl
theorem f32_p0_eq rec x0 x4 l0 : f32_p0_st rec (f32_p0_y x0 x4 l0) = (bif (decide (x4 < (x0.length : Int))) then ((nth x0 x4).bind fun c205 => (nth ([48, 49, 50, 51, 52, 53, 54, 55, 56, 57, 97, 98, 99, 100, 101, 102] : List UInt8) (IntKind.u8.wrap (Int.tdiv (c205.toNat : Int) (16 : Int)))).bind fun c206 => (nth x0 x4).bind fun c207 => (nth ([48, 49, 50, 51, 52, 53, 54, 55, 56, 57, 97, 98, 99, 100, 101, 102] : List UInt8) (Int.tmod (c207.toNat : Int) (16 : Int))).bind fun c208 => appOk (l0.length + [(c206.toNat : Int), (c208.toNat : Int)].length) (rec (f32_p0_y x0 (IntKind.i64.wrap (x4 + (1 : Int))) (l0 ++ [(c206.toNat : Int), (c208.toNat : Int)])))) else (some ((f32_p0_o0_y l0)))) := by kernel_rfl
theorem f32_eq a0 : f32_F (a0, ()) = ((go f32_p0_st (f32_p0_y a0 (0 : Int) ([] : List (Int)))).bind fun o209 => some ((strOf (f32_p0_o0_l0 o209)), ())) := by kernel_rfl
def f14_p0_y (x3 : List UInt8) (x25 : List Int) (x26 : Int) (x27 : Int) : f14_p0_sh.den := (((), ((), ((), (x3, ((), ((), ((), ((), ((), ((), ((), ((), ((), ((), ((), ((), ((), ((), ((), ((), ((), ((), ((), ((), ((), (x25, (x26, (x27, ((), ((), ((), ((), ((), ((), ((), ((), ((), ((), ())))))))))))))))))))))))))))))))))))))), (), ())
def f14_p0_o0_y (x3 : List UInt8) : f14_p0_o0.den := (((), ((), ((), (x3, ((), ((), ((), ((), ((), ((), ((), ((), ((), ((), ((), ((), ((), ((), ((), ((), ((), ((), ((), ((), ((), ((), ((), ((), ((), ((), ((), ((), ((), ((), ((), ((), ((), ((), ())))))))))))))))))))))))))))))))))))))), (), ())
def f14_p0_o0_x3 (z : f14_p0_o0.den) : List UInt8 := z.1.2.2.2.1
@[simp] theorem f14_p0_o0_x3_y x3 : f14_p0_o0_x3 (f14_p0_o0_y x3) = x3 := id rfl
theorem f14_p0_eq rec x3 x25 x26 x27 : f14_p0_st rec (f14_p0_y x3 x25 x26 x27) = (bif (decide (x27 < x26)) then ((nth x25 x27).bind fun y210 => if x3.length + ([32] : List UInt8).length ≤ 4611686018427387904 then ((itoaF (y210, ())).bind fun r211 => if (x3 ++ ([32] : List UInt8)).length + r211.1.length ≤ 4611686018427387904 then (rec (f14_p0_y ((x3 ++ ([32] : List UInt8)) ++ r211.1) x25 x26 (IntKind.i64.wrap (x27 + (1 : Int))))) else none) else none) else (some ((f14_p0_o0_y x3)))) := by kernel_rfl
def f14_p1_y (x3 : List UInt8) (x12 : List (List UInt8)) (x13 : Int) (x14 : Int) (r0_0 : Int) (r0_1 : List (List UInt8)) (r0_2 : List Int) : f14_p1_sh.den := (((), ((), ((), (x3, ((), ((), ((), ((), ((), ((), ((), ((), (x12, (x13, (x14, ((), ((), ((), ((), ((), ((), ((), ((), ((), ((), ((), ((), ((), ((), ((), ((), ((), ((), ((), ((), ((), ((), ((), ())))))))))))))))))))))))))))))))))))))), ((r0_0, (r0_1, (r0_2, ()))), ()), ())
def f14_p1_o0_y (x3 : List UInt8) (r0_0 : Int) (r0_1 : List (List UInt8)) (r0_2 : List Int) : f14_p1_o0.den := (((), ((), ((), (x3, ((), ((), ((), ((), ((), ((), ((), ((), ((), ((), ((), ((), ((), ((), ((), ((), ((), ((), ((), ((), ((), ((), ((), ((), ((), ((), ((), ((), ((), ((), ((), ((), ((), ((), ())))))))))))))))))))))))))))))))))))))), ((r0_0, (r0_1, (r0_2, ()))), ()), ())
def f14_p1_o0_x3 (z : f14_p1_o0.den) : List UInt8 := z.1.2.2.2.1
def f14_p1_o0_r0_0 (z : f14_p1_o0.den) : Int := z.2.1.1.1
def f14_p1_o0_r0_1 (z : f14_p1_o0.den) : List (List UInt8) := z.2.1.1.2.1
def f14_p1_o0_r0_2 (z : f14_p1_o0.den) : List Int := z.2.1.1.2.2.1
@[simp] theorem f14_p1_o0_x3_y x3 r0_0 r0_1 r0_2 : f14_p1_o0_x3 (f14_p1_o0_y x3 r0_0 r0_1 r0_2) = x3 := id rfl
@[simp] theorem f14_p1_o0_r0_0_y x3 r0_0 r0_1 r0_2 : f14_p1_o0_r0_0 (f14_p1_o0_y x3 r0_0 r0_1 r0_2) = r0_0 := id rfl
@[simp] theorem f14_p1_o0_r0_1_y x3 r0_0 r0_1 r0_2 : f14_p1_o0_r0_1 (f14_p1_o0_y x3 r0_0 r0_1 r0_2) = r0_1 := id rfl
@[simp] theorem f14_p1_o0_r0_2_y x3 r0_0 r0_1 r0_2 : f14_p1_o0_r0_2 (f14_p1_o0_y x3 r0_0 r0_1 r0_2) = r0_2 := id rfl
theorem f14_p1_eq rec x3 x12 x13 x14 r0_0 r0_1 r0_2 : f14_p1_st rec (f14_p1_y x3 x12 x13 x14 r0_0 r0_1 r0_2) = (bif (decide (x14 < x13)) then ((nth x12 x14).bind fun y212 => if x3.length + ([32, 120] : List UInt8).length ≤ 4611686018427387904 then ((f32_F (y212, ())).bind fun r213 => if (x3 ++ ([32, 120] : List UInt8)).length + r213.1.length ≤ 4611686018427387904 then (rec (f14_p1_y ((x3 ++ ([32, 120] : List UInt8)) ++ r213.1) x12 x13 (IntKind.i64.wrap (x14 + (1 : Int))) r0_0 r0_1 r0_2)) else none) else none) else (some ((f14_p1_o0_y x3 r0_0 r0_1 r0_2)))) := by kernel_rfl
theorem f14_eq a0_0 a0_1 a0_2 : f14_F ((a0_0, (a0_1, (a0_2, ()))), ()) = ((f31_F (a0_0, ())).bind fun r214 => (go f14_p1_st (f14_p1_y r214.1 a0_1 (a0_1.length : Int) (0 : Int) a0_0 a0_1 a0_2)).bind fun o215 => (go f14_p0_st (f14_p0_y (f14_p1_o0_x3 o215) (f14_p1_o0_r0_2 o215) ((f14_p1_o0_r0_2 o215).length : Int) (0 : Int))).bind fun o216 => some ((f14_p0_o0_x3 o216), ())) := by kernel_rfl
def f4_p0_y (x5 : List UInt8) (x14 : List UInt8) (x15 : Int) (r0_0 : List (List UInt8)) (r0_1 : List UInt8) (r0_2 : Int) (r0_3 : Int) (r0_4 : List ((Int × (List (List UInt8) × List Int)))) (r1_0 : Int) (r1_1 : List (List UInt8)) (r1_2 : List Int) : f4_p0_sh.den := (((), ((), ((), ((), ((), (x5, ((), ((), ((), ((), ((), ((), ((), ((), (x14, (x15, ((), ((), ((), ((), ((), ((), ((), ((), ((), ((), ((), ((), ((), ((), ((), ((), ((), ((), ((), ((), ((), ((), ((), ((), ((), ((), ((), ((), ((), ((), ((), ((), ((), ((), ((), ((), ((), ((), ((), ((), ((), ((), ((), ((), ((), ((), ((), ((), ((), ((), ((), ((), ((), ((), ((), ((), ((), ((), ((), ((), ((), ((), ((), ((), ((), ((), ((), ((), ((), ((), ((), ((), ((), ((), ((), ((), ((), ((), ((), ((), ((), ((), ((), ((), ((), ((), ((), ((), ())))))))))))))))))))))))))))))))))))))))))))))))))))))))))))))))))))))))))))))))))))))))))))))))))))))))), ((r0_0, (r0_1, (r0_2, (r0_3, (r0_4, ()))))), ((r1_0, (r1_1, (r1_2, ()))), ())), ())
def f4_p0_o0_y (x5 : List UInt8) (x14 : List UInt8) (x15 : Int) (x90 : Bool) (r1_0 : Int) (r1_1 : List (List UInt8)) (r1_2 : List Int) : f4_p0_o0.den := (((), ((), ((), ((), ((), (x5, ((), ((), ((), ((), ((), ((), ((), ((), (x14, (x15, ((), ((), ((), ((), ((), ((), ((), ((), ((), ((), ((), ((), ((), ((), ((), ((), ((), ((), ((), ((), ((), ((), ((), ((), ((), ((), ((), ((), ((), ((), ((), ((), ((), ((), ((), ((), ((), ((), ((), ((), ((), ((), ((), ((), ((), ((), ((), ((), ((), ((), ((), ((), ((), ((), ((), ((), ((), ((), ((), ((), ((), ((), ((), ((), ((), ((), ((), ((), ((), ((), ((), ((), ((), ((), (x90, ((), ((), ((), ((), ((), ((), ((), ((), ((), ((), ((), ((), ((), ())))))))))))))))))))))))))))))))))))))))))))))))))))))))))))))))))))))))))))))))))))))))))))))))))))))))), ((r1_0, (r1_1, (r1_2, ()))), ()), ())
def f4_p0_o0_x5 (z : f4_p0_o0.den) : List UInt8 := z.1.2.2.2.2.2.1
def f4_p0_o0_x14 (z : f4_p0_o0.den) : List UInt8 := z.1.2.2.2.2.2.2.2.2.2.2.2.2.2.2.1
def f4_p0_o0_x15 (z : f4_p0_o0.den) : Int := z.1.2.2.2.2.2.2.2.2.2.2.2.2.2.2.2.1
def f4_p0_o0_x90 (z : f4_p0_o0.den) : Bool := z.1.2.2.2.2.2.2.2.2.2.2.2.2.2.2.2.2.2.2.2.2.2.2.2.2.2.2.2.2.2.2.2.2.2.2.2.2.2.2.2.2.2.2.2.2.2.2.2.2.2.2.2.2.2.2.2.2.2.2.2.2.2.2.2.2.2.2.2.2.2.2.2.2.2.2.2.2.2.2.2.2.2.2.2.2.2.2.2.2.2.2.1
def f4_p0_o0_r1_0 (z : f4_p0_o0.den) : Int := z.2.1.1.1
def f4_p0_o0_r1_1 (z : f4_p0_o0.den) : List (List UInt8) := z.2.1.1.2.1
def f4_p0_o0_r1_2 (z : f4_p0_o0.den) : List Int := z.2.1.1.2.2.1
@[simp] theorem f4_p0_o0_x5_y x5 x14 x15 x90 r1_0 r1_1 r1_2 : f4_p0_o0_x5 (f4_p0_o0_y x5 x14 x15 x90 r1_0 r1_1 r1_2) = x5 := id rfl
@[simp] theorem f4_p0_o0_x14_y x5 x14 x15 x90 r1_0 r1_1 r1_2 : f4_p0_o0_x14 (f4_p0_o0_y x5 x14 x15 x90 r1_0 r1_1 r1_2) = x14 := id rfl
@[simp] theorem f4_p0_o0_x15_y x5 x14 x15 x90 r1_0 r1_1 r1_2 : f4_p0_o0_x15 (f4_p0_o0_y x5 x14 x15 x90 r1_0 r1_1 r1_2) = x15 := id rfl
@[simp] theorem f4_p0_o0_x90_y x5 x14 x15 x90 r1_0 r1_1 r1_2 : f4_p0_o0_x90 (f4_p0_o0_y x5 x14 x15 x90 r1_0 r1_1 r1_2) = x90 := id rfl
@[simp] theorem f4_p0_o0_r1_0_y x5 x14 x15 x90 r1_0 r1_1 r1_2 : f4_p0_o0_r1_0 (f4_p0_o0_y x5 x14 x15 x90 r1_0 r1_1 r1_2) = r1_0 := id rfl
@[simp] theorem f4_p0_o0_r1_1_y x5 x14 x15 x90 r1_0 r1_1 r1_2 : f4_p0_o0_r1_1 (f4_p0_o0_y x5 x14 x15 x90 r1_0 r1_1 r1_2) = r1_1 := id rfl
@[simp] theorem f4_p0_o0_r1_2_y x5 x14 x15 x90 r1_0 r1_1 r1_2 : f4_p0_o0_r1_2 (f4_p0_o0_y x5 x14 x15 x90 r1_0 r1_1 r1_2) = r1_2 := id rfl
theorem f4_p0_eq x5 x14 x15 r0_0 r0_1 r0_2 r0_3 r0_4 r1_0 r1_1 r1_2 : f4_p0_F (f4_p0_y x5 x14 x15 r0_0 r0_1 r0_2 r0_3 r0_4 r1_0 r1_1 r1_2) = ((f13_F ((r1_0, (r1_1, (r1_2, ()))), ())).bind fun r217 => bif (!r217.1) then (some ((f4_p0_o0_y x5 x14 x15 true r1_0 r1_1 r1_2))) else (some ((f4_p0_o0_y x5 x14 x15 ((r0_4.length : Int) == (200 : Int)) r1_0 r1_1 r1_2)))) := by kernel_rfl
def f4_p1_y (x5 : List UInt8) (x11 : Int) (x12 : Int) (x14 : List UInt8) (x15 : Int) (r0_0 : List (List UInt8)) (r0_1 : List UInt8) (r0_2 : Int) (r0_3 : Int) (r0_4 : List ((Int × (List (List UInt8) × List Int)))) (r1_0 : Int) (r1_1 : List (List UInt8)) (r1_2 : List Int) : f4_p1_sh.den := (((), ((), ((), ((), ((), (x5, ((), ((), ((), ((), ((), (x11, (x12, ((), (x14, (x15, ((), ((), ((), ((), ((), ((), ((), ((), ((), ((), ((), ((), ((), ((), ((), ((), ((), ((), ((), ((), ((), ((), ((), ((), ((), ((), ((), ((), ((), ((), ((), ((), ((), ((), ((), ((), ((), ((), ((), ((), ((), ((), ((), ((), ((), ((), ((), ((), ((), ((), ((), ((), ((), ((), ((), ((), ((), ((), ((), ((), ((), ((), ((), ((), ((), ((), ((), ((), ((), ((), ((), ((), ((), ((), ((), ((), ((), ((), ((), ((), ((), ((), ((), ((), ((), ((), ((), ((), ())))))))))))))))))))))))))))))))))))))))))))))))))))))))))))))))))))))))))))))))))))))))))))))))))))))))), ((r0_0, (r0_1, (r0_2, (r0_3, (r0_4, ()))))), ((r1_0, (r1_1, (r1_2, ()))), ())), ())
def f4_p1_o0_y (x5 : List UInt8) (x14 : List UInt8) (x15 : Int) (x81 : Bool) (r0_0 : List (List UInt8)) (r0_1 : List UInt8) (r0_2 : Int) (r0_3 : Int) (r0_4 : List ((Int × (List (List UInt8) × List Int)))) (r1_0 : Int) (r1_1 : List (List UInt8)) (r1_2 : List Int) : f4_p1_o0.den := (((), ((), ((), ((), ((), (x5, ((), ((), ((), ((), ((), ((), ((), ((), (x14, (x15, ((), ((), ((), ((), ((), ((), ((), ((), ((), ((), ((), ((), ((), ((), ((), ((), ((), ((), ((), ((), ((), ((), ((), ((), ((), ((), ((), ((), ((), ((), ((), ((), ((), ((), ((), ((), ((), ((), ((), ((), ((), ((), ((), ((), ((), ((), ((), ((), ((), ((), ((), ((), ((), ((), ((), ((), ((), ((), ((), ((), ((), ((), ((), ((), ((), (x81, ((), ((), ((), ((), ((), ((), ((), ((), ((), ((), ((), ((), ((), ((), ((), ((), ((), ((), ((), ((), ((), ((), ())))))))))))))))))))))))))))))))))))))))))))))))))))))))))))))))))))))))))))))))))))))))))))))))))))))))), ((r0_0, (r0_1, (r0_2, (r0_3, (r0_4, ()))))), ((r1_0, (r1_1, (r1_2, ()))), ())), ())
def f4_p1_o0_x5 (z : f4_p1_o0.den) : List UInt8 := z.1.2.2.2.2.2.1
def f4_p1_o0_x14 (z : f4_p1_o0.den) : List UInt8 := z.1.2.2.2.2.2.2.2.2.2.2.2.2.2.2.1
def f4_p1_o0_x15 (z : f4_p1_o0.den) : Int := z.1.2.2.2.2.2.2.2.2.2.2.2.2.2.2.2.1
def f4_p1_o0_x81 (z : f4_p1_o0.den) : Bool := z.1.2.2.2.2.2.2.2.2.2.2.2.2.2.2.2.2.2.2.2.2.2.2.2.2.2.2.2.2.2.2.2.2.2.2.2.2.2.2.2.2.2.2.2.2.2.2.2.2.2.2.2.2.2.2.2.2.2.2.2.2.2.2.2.2.2.2.2.2.2.2.2.2.2.2.2.2.2.2.2.2.2.1
def f4_p1_o0_r0_0 (z : f4_p1_o0.den) : List (List UInt8) := z.2.1.1.1
def f4_p1_o0_r0_1 (z : f4_p1_o0.den) : List UInt8 := z.2.1.1.2.1
def f4_p1_o0_r0_2 (z : f4_p1_o0.den) : Int := z.2.1.1.2.2.1
def f4_p1_o0_r0_3 (z : f4_p1_o0.den) : Int := z.2.1.1.2.2.2.1
def f4_p1_o0_r0_4 (z : f4_p1_o0.den) : List ((Int × (List (List UInt8) × List Int))) := z.2.1.1.2.2.2.2.1
def f4_p1_o0_r1_0 (z : f4_p1_o0.den) : Int := z.2.1.2.1.1
def f4_p1_o0_r1_1 (z : f4_p1_o0.den) : List (List UInt8) := z.2.1.2.1.2.1
def f4_p1_o0_r1_2 (z : f4_p1_o0.den) : List Int := z.2.1.2.1.2.2.1
@[simp] theorem f4_p1_o0_x5_y x5 x14 x15 x81 r0_0 r0_1 r0_2 r0_3 r0_4 r1_0 r1_1 r1_2 : f4_p1_o0_x5 (f4_p1_o0_y x5 x14 x15 x81 r0_0 r0_1 r0_2 r0_3 r0_4 r1_0 r1_1 r1_2) = x5 := id rfl
@[simp] theorem f4_p1_o0_x14_y x5 x14 x15 x81 r0_0 r0_1 r0_2 r0_3 r0_4 r1_0 r1_1 r1_2 : f4_p1_o0_x14 (f4_p1_o0_y x5 x14 x15 x81 r0_0 r0_1 r0_2 r0_3 r0_4 r1_0 r1_1 r1_2) = x14 := id rfl
@[simp] theorem f4_p1_o0_x15_y x5 x14 x15 x81 r0_0 r0_1 r0_2 r0_3 r0_4 r1_0 r1_1 r1_2 : f4_p1_o0_x15 (f4_p1_o0_y x5 x14 x15 x81 r0_0 r0_1 r0_2 r0_3 r0_4 r1_0 r1_1 r1_2) = x15 := id rfl
@[simp] theorem f4_p1_o0_x81_y x5 x14 x15 x81 r0_0 r0_1 r0_2 r0_3 r0_4 r1_0 r1_1 r1_2 : f4_p1_o0_x81 (f4_p1_o0_y x5 x14 x15 x81 r0_0 r0_1 r0_2 r0_3 r0_4 r1_0 r1_1 r1_2) = x81 := id rfl
@[simp] theorem f4_p1_o0_r0_0_y x5 x14 x15 x81 r0_0 r0_1 r0_2 r0_3 r0_4 r1_0 r1_1 r1_2 : f4_p1_o0_r0_0 (f4_p1_o0_y x5 x14 x15 x81 r0_0 r0_1 r0_2 r0_3 r0_4 r1_0 r1_1 r1_2) = r0_0 := id rfl
@[simp] theorem f4_p1_o0_r0_1_y x5 x14 x15 x81 r0_0 r0_1 r0_2 r0_3 r0_4 r1_0 r1_1 r1_2 : f4_p1_o0_r0_1 (f4_p1_o0_y x5 x14 x15 x81 r0_0 r0_1 r0_2 r0_3 r0_4 r1_0 r1_1 r1_2) = r0_1 := id rfl
@[simp] theorem f4_p1_o0_r0_2_y x5 x14 x15 x81 r0_0 r0_1 r0_2 r0_3 r0_4 r1_0 r1_1 r1_2 : f4_p1_o0_r0_2 (f4_p1_o0_y x5 x14 x15 x81 r0_0 r0_1 r0_2 r0_3 r0_4 r1_0 r1_1 r1_2) = r0_2 := id rfl
@[simp] theorem f4_p1_o0_r0_3_y x5 x14 x15 x81 r0_0 r0_1 r0_2 r0_3 r0_4 r1_0 r1_1 r1_2 : f4_p1_o0_r0_3 (f4_p1_o0_y x5 x14 x15 x81 r0_0 r0_1 r0_2 r0_3 r0_4 r1_0 r1_1 r1_2) = r0_3 := id rfl
@[simp] theorem f4_p1_o0_r0_4_y x5 x14 x15 x81 r0_0 r0_1 r0_2 r0_3 r0_4 r1_0 r1_1 r1_2 : f4_p1_o0_r0_4 (f4_p1_o0_y x5 x14 x15 x81 r0_0 r0_1 r0_2 r0_3 r0_4 r1_0 r1_1 r1_2) = r0_4 := id rfl
@[simp] theorem f4_p1_o0_r1_0_y x5 x14 x15 x81 r0_0 r0_1 r0_2 r0_3 r0_4 r1_0 r1_1 r1_2 : f4_p1_o0_r1_0 (f4_p1_o0_y x5 x14 x15 x81 r0_0 r0_1 r0_2 r0_3 r0_4 r1_0 r1_1 r1_2) = r1_0 := id rfl
@[simp] theorem f4_p1_o0_r1_1_y x5 x14 x15 x81 r0_0 r0_1 r0_2 r0_3 r0_4 r1_0 r1_1 r1_2 : f4_p1_o0_r1_1 (f4_p1_o0_y x5 x14 x15 x81 r0_0 r0_1 r0_2 r0_3 r0_4 r1_0 r1_1 r1_2) = r1_1 := id rfl
@[simp] theorem f4_p1_o0_r1_2_y x5 x14 x15 x81 r0_0 r0_1 r0_2 r0_3 r0_4 r1_0 r1_1 r1_2 : f4_p1_o0_r1_2 (f4_p1_o0_y x5 x14 x15 x81 r0_0 r0_1 r0_2 r0_3 r0_4 r1_0 r1_1 r1_2) = r1_2 := id rfl
theorem f4_p1_eq x5 x11 x12 x14 x15 r0_0 r0_1 r0_2 r0_3 r0_4 r1_0 r1_1 r1_2 : f4_p1_F (f4_p1_y x5 x11 x12 x14 x15 r0_0 r0_1 r0_2 r0_3 r0_4 r1_0 r1_1 r1_2) = ((countF (x5, (([10] : List UInt8), ()))).bind fun r218 => bif (r218.1 != (IntKind.i64.wrap ((r0_4.length : Int) + (1 : Int)))) then (some ((f4_p1_o0_y x5 x14 x15 true r0_0 r0_1 r0_2 r0_3 r0_4 r1_0 r1_1 r1_2))) else (bif (x11 != (250 : Int)) then (some ((f4_p1_o0_y x5 x14 x15 true r0_0 r0_1 r0_2 r0_3 r0_4 r1_0 r1_1 r1_2))) else (bif (x12 != (1 : Int)) then (some ((f4_p1_o0_y x5 x14 x15 true r0_0 r0_1 r0_2 r0_3 r0_4 r1_0 r1_1 r1_2))) else ((f9_F ()).bind fun r219 => some ((f4_p1_o0_y x5 x14 x15 (!r219.1) r0_0 r0_1 r0_2 r0_3 r0_4 r1_0 r1_1 r1_2)))))) := by kernel_rfl
def f4_p2_y (x5 : List UInt8) (x11 : Int) (x12 : Int) (r0_0 : List (List UInt8)) (r0_1 : List UInt8) (r0_2 : Int) (r0_3 : Int) (r0_4 : List ((Int × (List (List UInt8) × List Int)))) (r1_0 : Int) (r1_1 : List (List UInt8)) (r1_2 : List Int) : f4_p2_sh.den := (((), ((), ((), ((), ((), (x5, ((), ((), ((), ((), ((), (x11, (x12, ((), ((), ((), ((), ((), ((), ((), ((), ((), ((), ((), ((), ((), ((), ((), ((), ((), ((), ((), ((), ((), ((), ((), ((), ((), ((), ((), ((), ((), ((), ((), ((), ((), ((), ((), ((), ((), ((), ((), ((), ((), ((), ((), ((), ((), ((), ((), ((), ((), ((), ((), ((), ((), ((), ((), ((), ((), ((), ((), ((), ((), ((), ((), ((), ((), ((), ((), ((), ((), ((), ((), ((), ((), ((), ((), ((), ((), ((), ((), ((), ((), ((), ((), ((), ((), ((), ((), ((), ((), ((), ((), ())))))))))))))))))))))))))))))))))))))))))))))))))))))))))))))))))))))))))))))))))))))))))))))))))))))))), ((r0_0, (r0_1, (r0_2, (r0_3, (r0_4, ()))))), ((r1_0, (r1_1, (r1_2, ()))), ())), ())
def f4_p2_o0_y (x4 : Bool) : f4_p2_o0.den := (((), ((), ((), ((), (x4, ((), ((), ((), ((), ((), ((), ((), ((), ((), ((), ((), ((), ((), ((), ((), ((), ((), ((), ((), ((), ((), ((), ((), ((), ((), ((), ((), ((), ((), ((), ((), ((), ((), ((), ((), ((), ((), ((), ((), ((), ((), ((), ((), ((), ((), ((), ((), ((), ((), ((), ((), ((), ((), ((), ((), ((), ((), ((), ((), ((), ((), ((), ((), ((), ((), ((), ((), ((), ((), ((), ((), ((), ((), ((), ((), ((), ((), ((), ((), ((), ((), ((), ((), ((), ((), ((), ((), ((), ((), ((), ((), ((), ((), ((), ((), ((), ((), ((), ((), ())))))))))))))))))))))))))))))))))))))))))))))))))))))))))))))))))))))))))))))))))))))))))))))))))))))))), (), ())
def f4_p2_o0_x4 (z : f4_p2_o0.den) : Bool := z.1.2.2.2.2.1
@[simp] theorem f4_p2_o0_x4_y x4 : f4_p2_o0_x4 (f4_p2_o0_y x4) = x4 := id rfl
theorem f4_p2_eq x5 x11 x12 r0_0 r0_1 r0_2 r0_3 r0_4 r1_0 r1_1 r1_2 : f4_p2_F (f4_p2_y x5 x11 x12 r0_0 r0_1 r0_2 r0_3 r0_4 r1_0 r1_1 r1_2) = (appOk (([] : List ((Int × (List (List UInt8) × List Int)))).length + r0_4.length) (appOk ((([] : List ((Int × (List (List UInt8) × List Int)))) ++ r0_4).length + [(r1_0, (r1_1, r1_2))].length) ((f6_F ((r0_0, (r0_1, (r0_2, (r0_3, (((([] : List ((Int × (List (List UInt8) × List Int)))) ++ r0_4) ++ [(r1_0, (r1_1, r1_2))]), ()))))), ())).bind fun r220 => (f4_p1_F (f4_p1_y x5 x11 x12 r220.1 r220.2.1 r0_0 r0_1 r0_2 r0_3 r0_4 r1_0 r1_1 r1_2)).bind fun o221 => bif (f4_p1_o0_x81 o221) then (some ((f4_p2_o0_y false))) else ((f4_p0_F (f4_p0_y (f4_p1_o0_x5 o221) (f4_p1_o0_x14 o221) (f4_p1_o0_x15 o221) (f4_p1_o0_r0_0 o221) (f4_p1_o0_r0_1 o221) (f4_p1_o0_r0_2 o221) (f4_p1_o0_r0_3 o221) (f4_p1_o0_r0_4 o221) (f4_p1_o0_r1_0 o221) (f4_p1_o0_r1_1 o221) (f4_p1_o0_r1_2 o221))).bind fun o222 => bif (f4_p0_o0_x90 o222) then (some ((f4_p2_o0_y ((f4_p0_o0_x15 o222) == (1 : Int))))) else (bif ((f4_p0_o0_x15 o222) == (0 : Int)) then ((f14_F (((f4_p0_o0_r1_0 o222), ((f4_p0_o0_r1_1 o222), ((f4_p0_o0_r1_2 o222), ()))), ())).bind fun r223 => if (f4_p0_o0_x5 o222).length + r223.1.length ≤ 4611686018427387904 then (if ((f4_p0_o0_x5 o222) ++ r223.1).length + ([10] : List UInt8).length ≤ 4611686018427387904 then (some ((f4_p2_o0_y ((f4_p0_o0_x14 o222) == (((f4_p0_o0_x5 o222) ++ r223.1) ++ ([10] : List UInt8)))))) else none) else none) else (some ((f4_p2_o0_y false)))))))) := by kernel_rfl
theorem f4_eq a0_0 a0_1 a0_2 a0_3 a0_4 a1_0 a1_1 a1_2 : f4_F ((a0_0, (a0_1, (a0_2, (a0_3, (a0_4, ()))))), ((a1_0, (a1_1, (a1_2, ()))), ())) = ((f5_F ((a0_0, (a0_1, (a0_2, (a0_3, (a0_4, ()))))), ((205 : Int), ()))).bind fun r224 => (f5_F ((([] : List (List UInt8)), (([] : List UInt8), ((0 : Int), ((0 : Int), ([(a1_0, (a1_1, a1_2))], ()))))), ((1 : Int), ()))).bind fun r225 => (nth r225.1.2.2.2.2.1 (0 : Int)).bind fun y226 => (f6_F ((r224.1.1, (r224.1.2.1, (r224.1.2.2.1, (r224.1.2.2.2.1, (r224.1.2.2.2.2.1, ()))))), ())).bind fun r227 => bif (r227.2.1 != (0 : Int)) then ((f9_F ()).bind fun r228 => bif r228.1 then (some ((r227.1 == ([] : List UInt8)), ())) else (some (false, ()))) else ((cutF (r227.1, (([10] : List UInt8), ()))).bind fun r229 => (f7_F (r229.2.1, ())).bind fun r230 => (f4_p2_F (f4_p2_y r227.1 r230.2.1 r230.2.2.1 r224.1.1 r224.1.2.1 r224.1.2.2.1 r224.1.2.2.2.1 r224.1.2.2.2.2.1 y226.1 y226.2.1 y226.2.2)).bind fun o231 => some ((f4_p2_o0_x4 o231), ()))) := by kernel_rfl
end Go.Pe.Tryd
end
section
namespace Go.Pe
open Go.RowKit
set_option linter.unusedSectionVars false
variable [GI]
theorem go_seq {sh : Shape} {β : Type} {step : (sh.den → Option β) → sh.den → Option β} {y : Nat → sh.den} {n : Nat} {r : Option β}
    (hs : ∀ i, i < n → ∀ rec, step rec (y i) = rec (y (i + 1))) (he : ∀ rec, step rec (y n) = r) (hm : n + 1 ≤ fuelOf sh (y 0)) : go step (y 0) = r := by
  have key : ∀ d i, i + d = n → ∀ m, d + 1 ≤ m → iter step m (y i) = r := by
    intro d
    induction d with
    | zero =>
      intro i hi m hm
      obtain ⟨m, rfl⟩ : ∃ k, m = k + 1 := ⟨m - 1, by omega⟩
      have : i = n := by omega
      subst this
      rw [iter, he]
    | succ d ih =>
      intro i hi m hm
      obtain ⟨m, rfl⟩ : ∃ k, m = k + 1 := ⟨m - 1, by omega⟩
      rw [iter, hs i (by omega), ih (i + 1) (by omega) m (by omega)]
  exact key n 0 (by omega) _ hm
theorem wrap64 {x : Int} (h0 : -9223372036854775808 ≤ x) (h1 : x < 9223372036854775808) : IntKind.i64.wrap x = x := by
  simp only [IntKind.wrap, IntKind.bits, IntKind.signed]
  simp
  omega
theorem fuel_def (sh : Shape) (z : sh.den) : fuelOf sh z = 1000000 + (fuelL sh.slots z.1 + fuelR sh.recs z.2.1 + fuelT sh.lsts z.2.2) := rfl
end Go.Pe
end
section
namespace Go.Pe
open Go.RowKit
set_option linter.unusedSectionVars false
variable [GI]
theorem go_scan {sh : Shape} {α β : Type} {step : (sh.den → Option β) → sh.den → Option β} {l : List α} (y : Nat → sh.den) (p : α → Bool) (out : Nat → Option β) (fin : Option β)
    (h1 : ∀ i (h : i < l.length) rec, step rec (y i) = bif p l[i] then out i else rec (y (i + 1))) (h2 : ∀ rec, step rec (y l.length) = fin) (hm : l.length + 1 ≤ fuelOf sh (y 0)) :
    go step (y 0) = match l.findIdx? p with | some k => out k | none => fin := by
  cases hf : l.findIdx? p with
  | none =>
    rw [List.findIdx?_eq_none_iff] at hf
    refine go_seq (y := y) (n := l.length) (fun i hi rec => ?_) h2 hm
    rw [h1 i hi, hf _ (List.getElem_mem hi)]; rfl
  | some k =>
    rw [List.findIdx?_eq_some_iff_getElem] at hf
    obtain ⟨hk, hp, hlt⟩ := hf
    refine go_seq (y := y) (n := k) (fun i hi rec => ?_) (fun rec => ?_) (by omega)
    · rw [h1 i (by omega)]
      have := hlt i hi
      simp only [Bool.not_eq_true] at this
      rw [this]; rfl
    · rw [h1 k hk, hp]; rfl
def foldi {σ α : Type} (f : Nat → σ → α → σ) : Nat → σ → List α → σ
  | _, s, [] => s
  | k, s, x :: l => foldi f (k + 1) (f k s x) l
theorem go_foldi {sh : Shape} {σ α β : Type} {step : (sh.den → Option β) → sh.den → Option β} {l : List α} (y : Nat → σ → sh.den) (f : Nat → σ → α → σ) (Inv : Nat → σ → Prop) {s0 : σ} {fin : σ → Option β} (h0 : Inv 0 s0)
    (h1 : ∀ i s (h : i < l.length), Inv i s → Inv (i + 1) (f i s l[i]) ∧ ∀ rec, step rec (y i s) = rec (y (i + 1) (f i s l[i]))) (h2 : ∀ s, Inv l.length s → ∀ rec, step rec (y l.length s) = fin s) (hm : l.length + 1 ≤ fuelOf sh (y 0 s0)) :
    go step (y 0 s0) = fin (foldi f 0 s0 l) ∧ Inv l.length (foldi f 0 s0 l) := by
  have key : ∀ (l' : List α) (i : Nat) (s : σ) (m : Nat), l.drop i = l' → i + l'.length = l.length → Inv i s → l'.length + 1 ≤ m → iter step m (y i s) = fin (foldi f i s l') ∧ Inv l.length (foldi f i s l') := by
    intro l'
    induction l' with
    | nil =>
      intro i s m hd hi hI hm
      obtain ⟨m, rfl⟩ : ∃ k, m = k + 1 := ⟨m - 1, by simp at hm; omega⟩
      have : i = l.length := by simpa using hi
      subst this
      exact ⟨by rw [iter, h2 s hI]; rfl, hI⟩
    | cons x l' ih =>
      intro i s m hd hi hI hm
      obtain ⟨m, rfl⟩ : ∃ k, m = k + 1 := ⟨m - 1, by simp at hm; omega⟩
      have hlt : i < l.length := by simp at hi; omega
      have hx : l[i] = x := by
        rw [List.drop_eq_getElem_cons hlt] at hd
        exact (List.cons.inj hd).1
      obtain ⟨hI', hs⟩ := h1 i s hlt hI
      rw [hx] at hI' hs
      have hd' : l.drop (i + 1) = l' := by
        rw [List.drop_eq_getElem_cons hlt] at hd
        exact (List.cons.inj hd).2
      rw [iter, hs]
      exact ih (i + 1) _ m hd' (by simp at hi; omega) hI' (by simp at hm; omega)
  exact key l 0 s0 _ rfl (by simp) h0 hm
end Go.Pe
end
section
namespace Go.Pe
open Go.Lib
set_option linter.unusedSectionVars false
set_option linter.unusedVariables false
set_option linter.unusedSimpArgs false

theorem parse_snoc : ∀ (l : List UInt8) (acc v d : Nat), parseUint10 acc l = .ok v → v < 1844674407370955161 → d < 10 → parseUint10 acc (l ++ [UInt8.ofNat (48 + d)]) = .ok (v * 10 + d)
  | [], acc, v, d, h, hv, hd => by
    simp only [parseUint10, NumEnd.ok.injEq] at h
    subst h
    have e : (UInt8.ofNat (48 + d)).toNat = 48 + d := by simp [UInt8.toNat_ofNat']; omega
    simp only [List.nil_append, parseUint10, e]
    rw [if_pos (by omega), if_neg (by omega), if_neg (by omega)]
    simp
  | c :: l, acc, v, d, h, hv, hd => by
    simp only [parseUint10] at h
    simp only [List.cons_append, parseUint10]
    split at h
    · rename_i hc
      rw [if_pos hc]
      split at h
      · cases h
      · rename_i h1
        rw [if_neg h1]
        split at h
        · cases h
        · rename_i h2
          rw [if_neg h2]
          exact parse_snoc l _ v d h hv hd
    · cases h
theorem dec_ne (u : Nat) : decDigits u ≠ [] := by
  unfold decDigits
  split
  · simp
  · simp
theorem dec_digit (u : Nat) : ∀ c ∈ decDigits u, 48 ≤ c.toNat ∧ c.toNat ≤ 57 := by
  induction u using Nat.strongRecOn with
  | ind u ih =>
    intro c hc
    unfold decDigits at hc
    split at hc
    · rename_i h
      simp only [List.mem_singleton] at hc
      subst hc
      have : (UInt8.ofNat (48 + u)).toNat = 48 + u := by simp [UInt8.toNat_ofNat']; omega
      omega
    · rename_i h
      rcases List.mem_append.1 hc with hc | hc
      · exact ih (u / 10) (by omega) c hc
      · simp only [List.mem_singleton] at hc
        subst hc
        have : (UInt8.ofNat (48 + u % 10)).toNat = 48 + u % 10 := by simp [UInt8.toNat_ofNat']; omega
        omega
theorem parse_dec (u : Nat) : u < 18446744073709551610 → parseUint10 0 (decDigits u) = .ok u := by
  induction u using Nat.strongRecOn with
  | ind u ih =>
    intro hu
    unfold decDigits
    split
    · rename_i h
      have := parse_snoc [] 0 0 u rfl (by omega) h
      simpa using this
    · rename_i h
      have := parse_snoc _ 0 (u / 10) (u % 10) (ih (u / 10) (by omega) (by omega)) (by omega) (by omega)
      rw [this]
      congr 1; omega
theorem numOf_itoa (n : Int) (h0 : 0 ≤ n) (h1 : n < 9223372036854775808) : numOf (itoa n) = n := by
  obtain ⟨u, rfl⟩ := Int.eq_ofNat_of_zero_le h0
  rw [itoa_nonneg]
  have hp := parse_dec u (by omega)
  have hd := dec_digit u
  unfold numOf atoiAll
  cases hc : decDigits u with
  | nil => exact absurd hc (dec_ne u)
  | cons c r =>
    rw [hc] at hp
    have h1' := hd c (by rw [hc]; simp)
    have e : ¬ (c.toNat = 43 ∨ c.toNat = 45) := by omega
    have e2 : ¬ c.toNat = 45 := by omega
    have hm : parseMag (c :: r) = .ok u := by unfold parseMag; rw [if_neg (by simp)]; exact hp
    dsimp only
    rw [if_neg e, hm]
    dsimp only
    rw [if_neg (by omega), if_neg (by omega), if_neg e2]
theorem itoa_digit (n : Int) (h0 : 0 ≤ n) : ∀ c ∈ itoa n, 48 ≤ c.toNat ∧ c.toNat ≤ 57 := by
  obtain ⟨u, rfl⟩ := Int.eq_ofNat_of_zero_le h0
  rw [itoa_nonneg]; exact dec_digit u

theorem index_none {c : UInt8} : ∀ {a : List UInt8}, c ∉ a → index a [c] = -1
  | [], _ => rfl
  | b :: a, h => by
    simp only [List.mem_cons, not_or] at h
    have : (c == b) = false := by simpa using h.1
    unfold index
    simp only [List.isPrefixOf, this, Bool.false_and, Bool.false_eq_true, if_false]
    rw [index_none h.2]; rfl
theorem index_at {c : UInt8} {b : List UInt8} : ∀ {a : List UInt8}, c ∉ a → index (a ++ c :: b) [c] = (a.length : Int)
  | [], _ => by unfold index; simp [List.isPrefixOf]
  | x :: a, h => by
    simp only [List.mem_cons, not_or] at h
    have e1 : (c == x) = false := by simpa using h.1
    have ih := index_at (b := b) h.2
    simp only [List.cons_append]
    unfold index
    simp only [List.isPrefixOf, e1, Bool.false_and, Bool.false_eq_true, if_false, ih]
    rw [if_neg (by simp)]
    simp
theorem mem_part {c : UInt8} : ∀ {s : List UInt8}, c ∈ s → ∃ a b, s = a ++ c :: b ∧ c ∉ a
  | x :: s, h => by
    by_cases e : c = x
    · subst e; exact ⟨[], s, rfl, by simp⟩
    · obtain ⟨a, b, rfl, h2⟩ := mem_part (s := s) (by simpa [e] using h)
      exact ⟨x :: a, b, rfl, by simp [e, h2]⟩
theorem cut_none {c : UInt8} {a : List UInt8} (h : c ∉ a) : Lib.cut a [c] = (a, [], false) := by
  unfold Lib.cut; rw [index_none h, if_neg (by decide)]
theorem cut_at {c : UInt8} {a b : List UInt8} (h : c ∉ a) : Lib.cut (a ++ c :: b) [c] = (a, b, true) := by
  unfold Lib.cut
  rw [index_at h, if_pos (by omega)]
  simp
theorem trim_x (t : List UInt8) : trimPrefix (120 :: t) [120] = t := by simp [trimPrefix, hasPrefix, List.isPrefixOf]

def splitC (c : UInt8) : List UInt8 → List (List UInt8)
  | [] => [[]]
  | b :: l => if b = c then [] :: splitC c l else match splitC c l with
    | w :: ws => (b :: w) :: ws
    | [] => [[b]]
theorem splitC_none {c : UInt8} : ∀ {a : List UInt8}, c ∉ a → splitC c a = [a]
  | [], _ => rfl
  | b :: a, h => by
    simp only [List.mem_cons, not_or] at h
    unfold splitC
    rw [if_neg (Ne.symm h.1), splitC_none h.2]
theorem splitC_at {c : UInt8} {b : List UInt8} : ∀ {a : List UInt8}, c ∉ a → splitC c (a ++ c :: b) = a :: splitC c b
  | [], _ => by simp [splitC]
  | x :: a, h => by
    simp only [List.mem_cons, not_or] at h
    simp only [List.cons_append]
    rw [splitC, if_neg (Ne.symm h.1), splitC_at h.2]
theorem splitK_eq {c : UInt8} : ∀ (n : Nat) (s : List UInt8), s.length ≤ n → splitK [c] 0 (s.count c) s = splitC c s := by
  intro n
  induction n with
  | zero => intro s h; obtain rfl := List.eq_nil_of_length_eq_zero (by omega : s.length = 0); rfl
  | succ n ih =>
    intro s h
    by_cases hc : c ∈ s
    · obtain ⟨a, b, rfl, ha⟩ := mem_part hc
      have e : (a ++ c :: b).count c = b.count c + 1 := by rw [List.count_append, List.count_eq_zero_of_not_mem ha, List.count_cons_self]; omega
      rw [e, splitK, index_at ha, if_neg (by simp), splitC_at ha]
      have e1 : ((a.length : Int).toNat + 0) = a.length := by omega
      have e2 : ((a.length : Int).toNat + ([c] : List UInt8).length) = a.length + 1 := by simp
      rw [e1, e2, List.take_left']
      · rw [show (a ++ c :: b).drop (a.length + 1) = b from by rw [List.drop_append]; simp]
        rw [ih b (by simp at h; omega)]
      · rfl
    · rw [List.count_eq_zero_of_not_mem hc, splitK, splitC_none hc]
theorem split_words (c : UInt8) (s : List UInt8) : (splitB ⟨#[c]⟩ 0 (countB ⟨s.toArray⟩ ⟨#[c]⟩) ⟨s.toArray⟩).map (·.data.toList) = splitC c s := by
  rw [splitB_data]
  show splitK [c] 0 (count s [c]) s = _
  rw [count_one, splitK_eq s.length s (Nat.le_refl _)]
theorem join_two (x y : List UInt8) (r : List (List UInt8)) (c : UInt8) : join (x :: y :: r) [c] = x ++ c :: join (y :: r) [c] := by
  simp [join, List.intercalate]
theorem splitC_join {c : UInt8} : ∀ {ws : List (List UInt8)}, ws ≠ [] → (∀ w ∈ ws, c ∉ w) → splitC c (join ws [c]) = ws
  | [w], _, h => by rw [join_one]; exact splitC_none (h w (by simp))
  | w :: y :: r, _, h => by
    rw [join_two, splitC_at (h w (by simp)), splitC_join (ws := y :: r) (by simp) fun x hx => h x (by simp [hx])]
def D16 : List UInt8 := [48, 49, 50, 51, 52, 53, 54, 55, 56, 57, 97, 98, 99, 100, 101, 102]
def hexD (n : Nat) : UInt8 := if n < 10 then UInt8.ofNat (48 + n) else UInt8.ofNat (87 + n)
def hexB (b : UInt8) : List UInt8 := [hexD (b.toNat / 16), hexD (b.toNat % 16)]
def hex (s : List UInt8) : List UInt8 := s.flatMap hexB
theorem D16_at (n : Nat) (h : n < 16) : D16[n]? = some (hexD n) := by
  have : ∀ n : Fin 16, D16[n.val]? = some (hexD n.val) := by decide
  exact this ⟨n, h⟩
theorem hex_length : ∀ s : List UInt8, (hex s).length = 2 * s.length
  | [] => rfl
  | b :: s => by
    have := hex_length s
    simp only [hex, List.flatMap_cons, List.length_append, List.length_cons] at this ⊢
    simp only [hexB, List.length_cons, List.length_nil]; omega
theorem hexD_not (n : Nat) (h : n < 16) : 48 ≤ (hexD n).toNat := by
  have : ∀ n : Fin 16, 48 ≤ (hexD n.val).toNat := by decide
  exact this ⟨n, h⟩
theorem hex_digit : ∀ (s : List UInt8), ∀ c ∈ hex s, 48 ≤ c.toNat
  | [], c, h => by simp [hex] at h
  | b :: s, c, h => by
    simp only [hex, List.flatMap_cons, List.mem_append] at h
    rcases h with h | h
    · have := b.toNat_lt
      simp only [hexB, List.mem_cons, List.not_mem_nil, or_false] at h
      rcases h with rfl | rfl
      · exact hexD_not _ (by omega)
      · exact hexD_not _ (by omega)
    · exact hex_digit s c h
def unhex : List UInt8 → Option (List UInt8)
  | [] => some []
  | [_] => none
  | a :: b :: l => if indexByte D16 a < 0 ∨ indexByte D16 b < 0 then none else (unhex l).map fun t => UInt8.ofNat ((indexByte D16 a).toNat * 16 + (indexByte D16 b).toNat) :: t
theorem indexD (n : Nat) (h : n < 16) : indexByte D16 (hexD n) = (n : Int) := by
  have : ∀ n : Fin 16, indexByte D16 (hexD n.val) = (n.val : Int) := by decide
  exact this ⟨n, h⟩
theorem unhex_hex : ∀ s : List UInt8, unhex (hex s) = some s
  | [] => rfl
  | b :: s => by
    have hb := b.toNat_lt
    have ih := unhex_hex s
    show unhex (hexD (b.toNat / 16) :: hexD (b.toNat % 16) :: hex s) = _
    rw [unhex, indexD _ (by omega), indexD _ (by omega), if_neg (by omega), ih]
    simp only [Option.map_some, Int.toNat_natCast, Option.some.injEq, List.cons.injEq, and_true]
    have : b.toNat / 16 * 16 + b.toNat % 16 = b.toNat := by omega
    rw [this]; simp
theorem indexD_lt : ∀ c : UInt8, indexByte D16 c < 16 := by
  intro c
  have h : ∀ n : Fin 256, indexByte D16 (UInt8.ofNat n.val) < 16 := by decide +kernel
  have := h ⟨c.toNat, c.toNat_lt⟩
  simpa using this
end Go.Pe
end
section
namespace Go.Pe.Tryd
open Go.Proofs Go.RowKit
set_option maxRecDepth 100000
set_option linter.unusedSimpArgs false
set_option linter.unusedVariables false
theorem inc (i : Nat) (h : i < 9223372036854775807) : IntKind.i64.wrap ((i : Int) + 1) = ((i + 1 : Nat) : Int) := by rw [wrap64 (by omega) (by omega)]; rfl
theorem lt_true {i n : Nat} (h : i < n) : decide ((i : Int) < (n : Int)) = true := by simp; omega
theorem lt_false (n : Nat) : decide ((n : Int) < (n : Int)) = false := by simp
theorem nth_at {α : Type} {l : List α} {i : Nat} (h : i < l.length) : nth l (i : Int) = some l[i] := by
  unfold nth
  rw [if_pos (by omega), Int.toNat_natCast, List.getElem?_eq_getElem h]
theorem nthD (n : Nat) (h : n < 16) : nth ([48, 49, 50, 51, 52, 53, 54, 55, 56, 57, 97, 98, 99, 100, 101, 102] : List UInt8) (n : Int) = some (hexD n) := by
  unfold nth
  rw [if_pos (by omega), Int.toNat_natCast]
  exact D16_at n h
theorem byte_hi (b : UInt8) : Int.fdiv (b.toNat : Int) (2 ^ (min (Int.toNat (4 : Int)) 8)) = ((b.toNat / 16 : Nat) : Int) := by
  have h : ∀ n : Fin 256, Int.fdiv (n.val : Int) (2 ^ (min (Int.toNat (4 : Int)) 8)) = ((n.val / 16 : Nat) : Int) := by decide +kernel
  exact h ⟨b.toNat, b.toNat_lt⟩
theorem byte_lo (b : UInt8) : IntKind.u8.wrap (((BitVec.ofInt 8 (b.toNat : Int) &&& BitVec.ofInt 8 (15 : Int)).toNat : Int)) = ((b.toNat % 16 : Nat) : Int) := by
  have h : ∀ n : Fin 256, IntKind.u8.wrap (((BitVec.ofInt 8 (n.val : Int) &&& BitVec.ofInt 8 (15 : Int)).toNat : Int)) = ((n.val % 16 : Nat) : Int) := by decide +kernel
  exact h ⟨b.toNat, b.toNat_lt⟩
theorem byte_div (b : UInt8) : IntKind.u8.wrap (Int.tdiv (b.toNat : Int) (16 : Int)) = ((b.toNat / 16 : Nat) : Int) := by
  have h : ∀ n : Fin 256, IntKind.u8.wrap (Int.tdiv (n.val : Int) (16 : Int)) = ((n.val / 16 : Nat) : Int) := by decide +kernel
  exact h ⟨b.toNat, b.toNat_lt⟩
theorem byte_mod (b : UInt8) : Int.tmod (b.toNat : Int) (16 : Int) = ((b.toNat % 16 : Nat) : Int) := by
  have h : ∀ n : Fin 256, Int.tmod (n.val : Int) (16 : Int) = ((n.val % 16 : Nat) : Int) := by decide +kernel
  exact h ⟨b.toNat, b.toNat_lt⟩
theorem nib (a b : Nat) (ha : a < 16) (hb : b < 16) : IntKind.u8.wrap (IntKind.i64.wrap (((BitVec.ofInt 64 (IntKind.i64.wrap ((a : Int) * 2 ^ (min (Int.toNat (4 : Int)) 64))) ||| BitVec.ofInt 64 (b : Int)).toNat : Int))) = ((UInt8.ofNat (a * 16 + b)).toNat : Int) := by
  have h : ∀ (a b : Fin 16), IntKind.u8.wrap (IntKind.i64.wrap (((BitVec.ofInt 64 (IntKind.i64.wrap ((a.val : Int) * 2 ^ (min (Int.toNat (4 : Int)) 64))) ||| BitVec.ofInt 64 (b.val : Int)).toNat : Int))) = ((UInt8.ofNat (a.val * 16 + b.val)).toNat : Int) := by decide +kernel
  exact h ⟨a, ha⟩ ⟨b, hb⟩
theorem bytesOf_app (a b : List UInt8) : bytesOf (a ++ b) = bytesOf a ++ bytesOf b := by simp [bytesOf]
theorem strOf_bytesOf (a : List UInt8) : strOf (bytesOf a) = a := by
  simp only [strOf, bytesOf, List.map_map]
  have : ((fun n : Int => UInt8.ofNat n.toNat) ∘ fun b : UInt8 => (b.toNat : Int)) = id := by funext b; simp
  rw [this, List.map_id]
theorem bytesOf_len (a : List UInt8) : (bytesOf a).length = a.length := by simp [bytesOf]
theorem wb (c : Int) (l : List Int) (h : l.length < 4294967296) : h52a_F (h52a_y c l) = some (h52a_o_y (l ++ [c])) := by
  rw [h52a_eq]
  show appOk (l.length + [c].length) (some (h52a_o_y (l ++ [c]))) = _
  rw [appOk, if_pos (by simp; omega)]
theorem foldi_hex (l : List UInt8) : ∀ (k : Nat) (s : List Int), foldi (fun _ (s : List Int) (b : UInt8) => s ++ bytesOf (hexB b)) k s l = s ++ bytesOf (hex l) := by
  induction l with
  | nil => intro k s; simp [foldi, hex, bytesOf]
  | cons b l ih =>
    intro k s
    rw [foldi, ih]
    simp only [hex, List.flatMap_cons, bytesOf_app, List.append_assoc]
theorem hex_eq (a : List UInt8) (h : a.length ≤ 900000) : f34_F (a, ()) = some (hex a, ()) := by
  rw [f34_eq]
  have := go_foldi (step := f34_p0_st) (l := a) (fun i s => f34_p0_y a (a.length : Int) (i : Int) s) (fun _ s b => s ++ bytesOf (hexB b)) (fun i s => s.length = 2 * i) (s0 := []) (fin := fun s => some (f34_p0_o0_y s)) rfl
    (fun i s hi hs => ⟨by rw [List.length_append, hs, bytesOf_len]; rfl, fun rec => by
      have hb := a[i].toNat_lt
      rw [f34_p0_eq, lt_true hi, cond_true, nth_at hi, Option.bind_some, byte_hi, nthD _ (by omega), Option.bind_some, wb _ _ (by omega), Option.bind_some, Option.bind_some, byte_lo, nthD _ (by omega), Option.bind_some]
      simp only [h52a_o_l0_y]
      rw [wb _ _ (by simp; omega), Option.bind_some, inc i (by omega)]
      simp only [h52a_o_l0_y]
      rw [List.append_assoc]; rfl⟩) (fun s hs rec => by rw [f34_p0_eq, lt_false, cond_false])
    (by rw [fuel_def]; omega)
  obtain ⟨h1, h2⟩ := this
  rw [show ((0 : Nat) : Int) = 0 from rfl] at h1
  rw [h1, Option.bind_some, foldi_hex]
  simp only [f34_p0_o0_l0_y, List.nil_append]
  have e : h53_F (h53_y (bytesOf (hex a))) = some ((strOf (bytesOf (hex a)), ()), (), ()) := by
    show (if bytesOf (strOf (bytesOf (hex a))) = bytesOf (hex a) ∧ (bytesOf (hex a)).length ≤ 4294967296 then some ((strOf (bytesOf (hex a)), ()), (), ()) else none) = _
    rw [if_pos ⟨by rw [strOf_bytesOf], by rw [bytesOf_len, hex_length]; omega⟩]
  rw [e, Option.bind_some]
  show some (strOf (bytesOf (hex a)), ()) = _
  rw [strOf_bytesOf]
theorem rhex_eq (a : List UInt8) (h : a.length ≤ 900000) : f32_F (a, ()) = some (hex a, ()) := by
  rw [f32_eq]
  have := go_foldi (step := f32_p0_st) (l := a) (fun i s => f32_p0_y a (i : Int) s) (fun _ s b => s ++ bytesOf (hexB b)) (fun i s => s.length = 2 * i) (s0 := []) (fin := fun s => some (f32_p0_o0_y s)) rfl
    (fun i s hi hs => ⟨by rw [List.length_append, hs, bytesOf_len]; rfl, fun rec => by
      have hb := a[i].toNat_lt
      rw [f32_p0_eq, lt_true hi, cond_true, nth_at hi, Option.bind_some, byte_div, nthD _ (by omega), Option.bind_some, Option.bind_some, byte_mod, nthD _ (by omega), Option.bind_some, appOk, if_pos (by simp; omega), inc i (by omega)]
      rfl⟩) (fun s hs rec => by rw [f32_p0_eq, lt_false, cond_false])
    (by rw [fuel_def]; omega)
  obtain ⟨h1, h2⟩ := this
  rw [show ((0 : Nat) : Int) = 0 from rfl] at h1
  rw [h1, Option.bind_some, foldi_hex]
  simp only [f32_p0_o0_l0_y, List.nil_append]
  rw [strOf_bytesOf]
theorem index_eq (c : UInt8) : indexF (([48, 49, 50, 51, 52, 53, 54, 55, 56, 57, 97, 98, 99, 100, 101, 102] : List UInt8), ((c.toNat : Int), ())) = some (Lib.indexByte D16 c, ()) := by
  show some (Lib.indexByte D16 ((c.toNat : Int).toNat.toUInt8), ()) = _
  simp
theorem unhex_loop : ∀ (n : Nat) (x : List UInt8) (l : List Int) (k : Nat), x.length ≤ n → x.length + 1 ≤ k → l.length + x.length ≤ 4294967296 →
    (unhex x = none → (∃ r, iter f57_p1_st k (f57_p1_y x l) = some r ∧ (r = .inr (f57_p1_o1_y [] 4) ∨ ∃ c l', r = .inl (f57_p1_o0_y [c] l')))) ∧ (∀ t, unhex x = some t → iter f57_p1_st k (f57_p1_y x l) = some (.inl (f57_p1_o0_y [] (l ++ bytesOf t)))) := by
  intro n
  induction n with
  | zero =>
    intro x l k hx hk hl
    obtain rfl := List.eq_nil_of_length_eq_zero (by omega : x.length = 0)
    obtain ⟨k, rfl⟩ : ∃ j, k = j + 1 := ⟨k - 1, by simp at hk; omega⟩
    refine ⟨fun h => by simp [unhex] at h, fun t ht => ?_⟩
    simp only [unhex, Option.some.injEq] at ht; subst ht
    rw [iter, f57_p1_eq, show decide ((([] : List UInt8).length : Int) ≥ 2) = false from by decide, cond_false]
    simp [bytesOf]
  | succ n ih =>
    intro x l k hx hk hl
    obtain ⟨k, rfl⟩ : ∃ j, k = j + 1 := ⟨k - 1, by omega⟩
    match x, hx, hk, hl with
    | [], hx, hk, hl =>
      refine ⟨fun h => by simp [unhex] at h, fun t ht => ?_⟩
      simp only [unhex, Option.some.injEq] at ht; subst ht
      rw [iter, f57_p1_eq, show decide ((([] : List UInt8).length : Int) ≥ 2) = false from by decide, cond_false]
      simp [bytesOf]
    | [c], hx, hk, hl =>
      refine ⟨fun _ => ⟨_, ?_, .inr ⟨c, l, rfl⟩⟩, fun t ht => by simp [unhex] at ht⟩
      rw [iter, f57_p1_eq, show decide ((([c] : List UInt8).length : Int) ≥ 2) = false from rfl, cond_false]
    | a :: b :: x, hx, hk, hl =>
      have hge : decide (((a :: b :: x).length : Int) ≥ 2) = true := by simp; omega
      have n0 : nth (a :: b :: x) (0 : Int) = some a := rfl
      have n1 : nth (a :: b :: x) (1 : Int) = some b := rfl
      rw [iter, f57_p1_eq, hge, cond_true, n0, Option.bind_some, index_eq, Option.bind_some, n1, Option.bind_some, index_eq, Option.bind_some, f57_p0_eq]
      have hal := indexD_lt a
      have hbl := indexD_lt b
      dsimp only
      by_cases ha : Lib.indexByte D16 a < 0
      · rw [show decide (Lib.indexByte D16 a < 0) = true from by simpa using ha, cond_true, Option.bind_some]
        simp only [f57_p0_o0_x0_y, f57_p0_o0_x5_y, f57_p0_o0_x6_y, f57_p0_o0_x23_y, f57_p0_o0_l0_y, cond_true]
        exact ⟨fun _ => ⟨_, rfl, .inl rfl⟩, fun t ht => by simp [unhex, ha] at ht⟩
      · rw [show decide (Lib.indexByte D16 a < 0) = false from by simpa using ha, cond_false, Option.bind_some]
        simp only [f57_p0_o0_x0_y, f57_p0_o0_x5_y, f57_p0_o0_x6_y, f57_p0_o0_x23_y, f57_p0_o0_l0_y]
        by_cases hb : Lib.indexByte D16 b < 0
        · rw [show decide (Lib.indexByte D16 b < 0) = true from by simpa using hb, cond_true]
          exact ⟨fun _ => ⟨_, rfl, .inl rfl⟩, fun t ht => by simp [unhex, hb] at ht⟩
        · rw [show decide (Lib.indexByte D16 b < 0) = false from by simpa using hb, cond_false, appOk, if_pos (by simp at hl ⊢; omega)]
          have hcut : cutLo (a :: b :: x) (2 : Int) (fun s => iter f57_p1_st k (f57_p1_y s (l ++ [IntKind.u8.wrap (IntKind.i64.wrap (((BitVec.ofInt 64 (IntKind.i64.wrap (Lib.indexByte D16 a * 2 ^ (min (Int.toNat (4 : Int)) 64))) ||| BitVec.ofInt 64 (Lib.indexByte D16 b)).toNat : Int)))]))) = iter f57_p1_st k (f57_p1_y x (l ++ [((UInt8.ofNat ((Lib.indexByte D16 a).toNat * 16 + (Lib.indexByte D16 b).toNat)).toNat : Int)])) := by
            unfold cutLo
            rw [if_pos (by simp; omega)]
            have e1 : Lib.indexByte D16 a = ((Lib.indexByte D16 a).toNat : Int) := by omega
            have e2 : Lib.indexByte D16 b = ((Lib.indexByte D16 b).toNat : Int) := by omega
            have := nib (Lib.indexByte D16 a).toNat (Lib.indexByte D16 b).toNat (by omega) (by omega)
            rw [← e1, ← e2] at this
            rw [this]; rfl
          rw [hcut]
          obtain ⟨h1, h2⟩ := ih x (l ++ [((UInt8.ofNat ((Lib.indexByte D16 a).toNat * 16 + (Lib.indexByte D16 b).toNat)).toNat : Int)]) k (by simp at hx; omega) (by simp at hk; omega) (by simp at hl ⊢; omega)
          have hor : ¬ (Lib.indexByte D16 a < 0 ∨ Lib.indexByte D16 b < 0) := by omega
          refine ⟨fun h => h1 ?_, fun t ht => ?_⟩
          · rw [unhex, if_neg hor] at h
            cases hu : unhex x with
            | none => rfl
            | some t => rw [hu] at h; cases h
          · rw [unhex, if_neg hor, Option.map_eq_some_iff] at ht
            obtain ⟨t', ht', rfl⟩ := ht
            rw [h2 t' ht']
            simp [bytesOf]
theorem text_eq (a : List UInt8) (h : a.length ≤ 900000) : f38_F (a, ()) = some ((unhex a).getD [], ()) := by
  rw [f38_eq, f57_eq]
  have hm : a.length + 1 ≤ fuelOf f57_p1_sh (f57_p1_y a []) := by rw [fuel_def]; omega
  obtain ⟨h1, h2⟩ := unhex_loop a.length a [] (fuelOf f57_p1_sh (f57_p1_y a [])) (Nat.le_refl _) hm (by simp; omega)
  cases hu : unhex a with
  | none =>
    obtain ⟨r, hr, hor⟩ := h1 hu
    rw [show go f57_p1_st (f57_p1_y a ([] : List Int)) = some r from hr, Option.bind_some]
    rcases hor with rfl | ⟨c, l', rfl⟩
    · rfl
    · rfl
  | some t =>
    rw [show go f57_p1_st (f57_p1_y a ([] : List Int)) = _ from h2 t hu, Option.bind_some]
    dsimp only
    simp only [f57_p1_o0_x0_y, f57_p1_o0_l0_y, List.nil_append, strOf_bytesOf]
    rfl
end Go.Pe.Tryd
end
section
namespace Go.Pe.Tryd
open Go.Proofs Go.RowKit
set_option maxRecDepth 100000
set_option linter.unusedSimpArgs false
set_option linter.unusedVariables false
abbrev Deed := Int × (List (List UInt8) × List Int)
abbrev Shp := List UInt8 × (Int × Int)
def shp : List (Int × Shp) := [(1, ([112, 117, 98, 108, 105, 115, 104], (3, 1))), (2, ([100, 101, 108, 101, 103], (3, 2))), (3, ([114, 111, 116, 97, 116, 101], (1, 2))), (4, ([115, 116, 97, 109, 112], (0, 1))), (5, ([117, 112, 100, 97, 116, 101], (1, 1))), (6, ([99, 114, 97, 115, 104], (1, 2))), (7, ([119, 97, 116, 99, 104], (0, 1))), (8, ([109, 105, 114, 114, 111, 114], (2, 1)))]
def shpM : List (Ty.mapT (.int .i64) (.prod .str (.prod (.int .i64) (.int .i64))) true).den := shp.map fun x => (((), ()), x)
theorem shapes_eq : h36_F h36_y = some (h36_o_y shpM) := by rw [h36_eq]; kernel_rfl
def look (k : Int) : Option Shp := mget (.int .i64) (.prod .str (.prod (.int .i64) (.int .i64))) true shpM k
theorem look_cases (k : Int) : (look k = none ∧ (k < 1 ∨ 8 < k)) ∨ (1 ≤ k ∧ k ≤ 8 ∧ ∃ x, look k = some x ∧ (k, x) ∈ shp) := by
  by_cases h : 1 ≤ k ∧ k ≤ 8
  · right
    refine ⟨h.1, h.2, ?_⟩
    have : k = 1 ∨ k = 2 ∨ k = 3 ∨ k = 4 ∨ k = 5 ∨ k = 6 ∨ k = 7 ∨ k = 8 := by omega
    rcases this with rfl | rfl | rfl | rfl | rfl | rfl | rfl | rfl <;> exact ⟨_, rfl, by decide⟩
  · left
    refine ⟨?_, by omega⟩
    have e : ∀ j : Int, 1 ≤ j ∧ j ≤ 8 → (j == k) = false := fun j hj => by simp; omega
    show mapGet (fun a b : Int => a == b) k shp = none
    have e' : ∀ j : Int, 1 ≤ j ∧ j ≤ 8 → (k == j) = false := fun j hj => by simp; omega
    simp only [shp, mapGet, e' 1 (by omega), e' 2 (by omega), e' 3 (by omega), e' 4 (by omega), e' 5 (by omega), e' 6 (by omega), e' 7 (by omega), e' 8 (by omega)]
theorem mget_look (k : Int) : mget (.int .i64) (.prod .str (.prod (.int .i64) (.int .i64))) true (h36_o_l0 (h36_o_y shpM)) k = look k := by rw [h36_o_l0_y]; rfl
def special (d : Deed) : Bool :=
  if d.1 = 2 then decide (d.2.2.getD 1 0 ≤ 1) else if d.1 = 8 then decide (d.2.2.getD 0 0 ≤ 1) else if d.1 = 6 then (d.2.1.getD 0 []).all (fun c => c == 48 || c == 49) else true
def isDeed (d : Deed) : Bool := match look d.1 with
  | none => false
  | some x => (d.2.1.length : Int) == x.2.1 && ((d.2.2.length : Int) == x.2.2 && (d.2.1.all (fun s => decide (s.length ≤ 3000)) && (d.2.2.all (fun n => decide (0 ≤ n ∧ n ≤ 1099511627776)) && special d)))
theorem isome_any {α : Type} (l : List α) (p : α → Bool) : (l.findIdx? p).isSome = l.any p := by rw [List.findIdx?_isSome]
theorem any_not {α : Type} (l : List α) (p q : α → Bool) (h : ∀ x, p x = !q x) : l.any p = !l.all q := by
  induction l with
  | nil => rfl
  | cons x l ih => simp only [List.any_cons, List.all_cons, ih, h x, Bool.not_and]
theorem any43 (l : List (List UInt8)) (h : l.length ≤ 900000) : h43_F (h43_y l) = some (h43_o_y (l.any fun s => (s.length : Int) != 32)) := by
  have hl := go_scan (step := h60_p0_st) (l := l) (fun i => h60_p0_y l (l.length : Int) (i : Int)) (fun s => (s.length : Int) != 32) (fun k => some (.inr (h60_p0_o1_y (k : Int)))) (some (.inl h60_p0_o0_y))
    (fun i hi rec => by rw [h60_p0_eq, lt_true hi, cond_true, nth_at hi, Option.bind_some, f42_eq, Option.bind_some, inc i (by omega)]) (fun rec => by rw [h60_p0_eq, lt_false, cond_false]) (by rw [fuel_def]; omega)
  rw [show ((0 : Nat) : Int) = 0 from rfl] at hl
  rw [h43_eq, h60_eq, hl, ← isome_any]
  cases l.findIdx? fun s => (s.length : Int) != 32 with
  | none => rfl
  | some k =>
    dsimp only
    rw [Option.bind_some, Option.bind_some]
    simp only [h60_p0_o1_x4_y, h60_o_x0_y]
    rw [show decide ((k : Int) ≥ 0) = true from by simp]; rfl
theorem any43a (l : List (List UInt8)) (h : l.length ≤ 900000) : h43a_F (h43a_y l) = some (h43a_o_y (l.any fun s => decide ((s.length : Int) > 3000))) := by
  have hl := go_scan (step := h60a_p0_st) (l := l) (fun i => h60a_p0_y l (l.length : Int) (i : Int)) (fun s => decide ((s.length : Int) > 3000)) (fun k => some (.inr (h60a_p0_o1_y (k : Int)))) (some (.inl h60a_p0_o0_y))
    (fun i hi rec => by rw [h60a_p0_eq, lt_true hi, cond_true, nth_at hi, Option.bind_some, f45_eq, Option.bind_some, inc i (by omega)]) (fun rec => by rw [h60a_p0_eq, lt_false, cond_false]) (by rw [fuel_def]; omega)
  rw [show ((0 : Nat) : Int) = 0 from rfl] at hl
  rw [h43a_eq, h60a_eq, hl, ← isome_any]
  cases l.findIdx? fun s => decide ((s.length : Int) > 3000) with
  | none => rfl
  | some k =>
    dsimp only
    rw [Option.bind_some, Option.bind_some]
    simp only [h60a_p0_o1_x4_y, h60a_o_x0_y]
    rw [show decide ((k : Int) ≥ 0) = true from by simp]; rfl
def badN (n : Int) : Bool := !decide (0 ≤ n ∧ n ≤ 1099511627776)
theorem f47_bad (n : Int) : f47_F (n, ()) = some (badN n, ()) := by
  rw [f47_eq]
  unfold badN
  by_cases h : n < 0
  · rw [show decide (n < 0) = true from by simpa using h, cond_true]
    rw [show decide (0 ≤ n ∧ n ≤ 1099511627776) = false from by simp; omega]; rfl
  · rw [show decide (n < 0) = false from by simpa using h, cond_false]
    by_cases h2 : n > 1099511627776
    · rw [show decide (n > 1099511627776) = true from by simpa using h2, show decide (0 ≤ n ∧ n ≤ 1099511627776) = false from by simp; omega]; rfl
    · rw [show decide (n > 1099511627776) = false from by simpa using h2, show decide (0 ≤ n ∧ n ≤ 1099511627776) = true from by simp; omega]; rfl
theorem any46 (l : List Int) (h : l.length ≤ 900000) : h46_F (h46_y l) = some (h46_o_y (l.any badN)) := by
  have hl := go_scan (step := h61_p0_st) (l := l) (fun i => h61_p0_y l (l.length : Int) (i : Int)) badN (fun k => some (.inr (h61_p0_o1_y (k : Int)))) (some (.inl h61_p0_o0_y))
    (fun i hi rec => by rw [h61_p0_eq, lt_true hi, cond_true, nth_at hi, Option.bind_some, f47_bad, Option.bind_some, inc i (by omega)]) (fun rec => by rw [h61_p0_eq, lt_false, cond_false]) (by rw [fuel_def]; omega)
  rw [show ((0 : Nat) : Int) = 0 from rfl] at hl
  rw [h46_eq, h61_eq, hl, ← isome_any]
  cases l.findIdx? badN with
  | none => rfl
  | some k =>
    dsimp only
    rw [Option.bind_some, Option.bind_some]
    simp only [h61_p0_o1_x4_y, h61_o_x0_y]
    rw [show decide ((k : Int) ≥ 0) = true from by simp]; rfl
def badC (c : Int) : Bool := c != 48 && c != 49
theorem f49_bad (c : Int) : f49_F (c, ()) = some (badC c, ()) := by
  rw [f49_eq]; unfold badC
  cases c != 48 <;> rfl
theorem any48 (l : List Int) (h : l.length ≤ 900000) : h48_F (h48_y l) = some (h48_o_y (l.any badC)) := by
  have hl := go_scan (step := h62_p0_st) (l := l) (fun i => h62_p0_y l (l.length : Int) (i : Int)) badC (fun k => some (.inr (h62_p0_o1_y (k : Int)))) (some (.inl h62_p0_o0_y))
    (fun i hi rec => by rw [h62_p0_eq, lt_true hi, cond_true, nth_at hi, Option.bind_some, f49_bad, Option.bind_some, inc i (by omega)]) (fun rec => by rw [h62_p0_eq, lt_false, cond_false]) (by rw [fuel_def]; omega)
  rw [show ((0 : Nat) : Int) = 0 from rfl] at hl
  rw [h48_eq, h62_eq, hl, ← isome_any]
  cases l.findIdx? badC with
  | none => rfl
  | some k =>
    dsimp only
    rw [Option.bind_some, Option.bind_some]
    simp only [h62_p0_o1_x4_y, h62_o_x0_y]
    rw [show decide ((k : Int) ≥ 0) = true from by simp]; rfl
theorem bytes_bad (s : List UInt8) : (bytesOf s).any badC = !s.all (fun c => c == 48 || c == 49) := by
  have h : ∀ c : UInt8, badC (c.toNat : Int) = !(c == 48 || c == 49) := by
    intro c
    have : ∀ n : Fin 256, badC (n.val : Int) = !(UInt8.ofNat n.val == 48 || UInt8.ofNat n.val == 49) := by decide +kernel
    simpa using this ⟨c.toNat, c.toNat_lt⟩
  rw [bytesOf, List.any_map]
  exact any_not s _ _ (fun c => h c)
theorem shp_len {k : Int} {x : Shp} (h : (k, x) ∈ shp) : (k = 2 → x.2.2 = 2) ∧ (k = 8 → x.2.2 = 1) ∧ (k = 6 → x.2.1 = 1) ∧ 0 ≤ x.2.1 ∧ x.2.1 ≤ 3 ∧ 1 ≤ x.2.2 ∧ x.2.2 ≤ 2 := by
  simp only [shp, List.mem_cons, Prod.mk.injEq, List.not_mem_nil, or_false] at h
  rcases h with ⟨rfl, rfl⟩ | ⟨rfl, rfl⟩ | ⟨rfl, rfl⟩ | ⟨rfl, rfl⟩ | ⟨rfl, rfl⟩ | ⟨rfl, rfl⟩ | ⟨rfl, rfl⟩ | ⟨rfl, rfl⟩ <;> simp
theorem right_eq (k : Int) (ts : List (List UInt8)) (ns : List Int) (h1 : ts.length ≤ 900000) (h2 : ns.length ≤ 900000) : f24_F ((k, (ts, (ns, ()))), ()) = some (isDeed (k, (ts, ns)), ()) := by
  rw [f24_eq, shapes_eq, Option.bind_some, mget_look, f24_p1_eq]
  rcases look_cases k with ⟨hn, _⟩ | ⟨hk1, hk2, x, hx, hm⟩
  · rw [hn, show (!(none : Option Shp).isSome) = true from rfl, cond_true, Option.bind_some]
    simp only [f24_p1_o0_x29_y, f24_p1_o0_r0_0_y, f24_p1_o0_r0_1_y, f24_p1_o0_r0_2_y, cond_true]
    simp [isDeed, hn]
  · obtain ⟨q2, q8, q6, _⟩ := shp_len hm
    simp only [hx, Option.isSome_some, Bool.not_true, cond_false, Option.getD_some]
    have hI : isDeed (k, (ts, ns)) = ((ts.length : Int) == x.2.1 && ((ns.length : Int) == x.2.2 && (ts.all (fun s => decide (s.length ≤ 3000)) && (ns.all (fun n => decide (0 ≤ n ∧ n ≤ 1099511627776)) && special (k, (ts, ns)))))) := by simp [isDeed, hx]
    rw [hI]
    by_cases e1 : (ts.length : Int) = x.2.1
    · rw [show ((ts.length : Int) != x.2.1) = false from by simpa using e1, cond_false, Option.bind_some]
      simp only [f24_p1_o0_x29_y, f24_p1_o0_r0_0_y, f24_p1_o0_r0_1_y, f24_p1_o0_r0_2_y]
      rw [show ((ts.length : Int) == x.2.1) = true from by simpa using e1, Bool.true_and]
      by_cases e2 : (ns.length : Int) = x.2.2
      · rw [show ((ns.length : Int) != x.2.2) = false from by simpa using e2, cond_false, f24_p0_eq, any43a ts h1, Option.bind_some]
        rw [show ((ns.length : Int) == x.2.2) = true from by simpa using e2, Bool.true_and]
        simp only [h43a_o_x0_y]
        rw [any_not ts _ (fun s => decide (s.length ≤ 3000)) (fun s => by by_cases h : s.length ≤ 3000 <;> simp [h] <;> omega)]
        cases ha : ts.all (fun s => decide (s.length ≤ 3000)) with
        | false =>
          rw [Bool.not_false, cond_true, Option.bind_some]
          simp only [f24_p0_o0_x37_y, f24_p0_o0_r0_0_y, f24_p0_o0_r0_1_y, f24_p0_o0_r0_2_y, cond_true]; rfl
        | true =>
          rw [Bool.not_true, cond_false, any46 ns h2, Option.bind_some, Option.bind_some]
          simp only [h46_o_x0_y, f24_p0_o0_x37_y, f24_p0_o0_r0_0_y, f24_p0_o0_r0_1_y, f24_p0_o0_r0_2_y]
          rw [any_not ns badN (fun n => decide (0 ≤ n ∧ n ≤ 1099511627776)) (fun _ => rfl)]
          cases hb : ns.all (fun n => decide (0 ≤ n ∧ n ≤ 1099511627776)) with
          | false => rw [Bool.not_false, cond_true]; rfl
          | true =>
            rw [Bool.not_true, cond_false, Bool.true_and, Bool.true_and]
            unfold special
            dsimp only
            by_cases k2 : k = 2
            · rw [if_pos k2, show (k == 2) = true from by simpa using k2, cond_true]
              have : ns.length = 2 := by have := q2 k2; omega
              match ns, this with
              | [a, b], _ => rfl
            · rw [if_neg k2, show (k == 2) = false from by simpa using k2, cond_false]
              by_cases k8 : k = 8
              · rw [if_pos k8, show (k == 8) = true from by simpa using k8, cond_true]
                have : ns.length = 1 := by have := q8 k8; omega
                match ns, this with
                | [a], _ => rfl
              · rw [if_neg k8, show (k == 8) = false from by simpa using k8, cond_false]
                by_cases k6 : k = 6
                · rw [if_pos k6, show (k == 6) = true from by simpa using k6, cond_true]
                  have : ts.length = 1 := by have := q6 k6; omega
                  match ts, this, ha with
                  | [s], _, ha =>
                    have hs : s.length ≤ 3000 := by simpa using ha
                    rw [show nth [s] (0 : Int) = some s from rfl, Option.bind_some, any48 _ (by rw [bytesOf_len]; omega), Option.bind_some]
                    simp only [h48_o_x0_y]
                    rw [bytes_bad, Bool.not_not]; rfl
                · rw [if_neg k6, show (k == 6) = false from by simpa using k6, cond_false]
      · rw [show ((ns.length : Int) != x.2.2) = true from by simpa using e2, cond_true]
        rw [show ((ns.length : Int) == x.2.2) = false from by simpa using e2]; rfl
    · rw [show ((ts.length : Int) != x.2.1) = true from by simpa using e1, cond_true, Option.bind_some]
      simp only [f24_p1_o0_x29_y, f24_p1_o0_r0_0_y, f24_p1_o0_r0_1_y, f24_p1_o0_r0_2_y, cond_true]
      rw [show ((ts.length : Int) == x.2.1) = false from by simpa using e1]; rfl
end Go.Pe.Tryd
end
section
namespace Go.Pe.Tryd
open Go.Proofs Go.RowKit
set_option maxRecDepth 100000
set_option linter.unusedSimpArgs false
set_option linter.unusedVariables false
def begins (S : List (List UInt8)) (L : List UInt8) (li cl : Int) : Bool :=
  (S.length : Int) == 4 && (S.all (fun s => (s.length : Int) == 32) && ((L.length : Int) == 32 && (decide (li ≥ 1) && (decide (li ≤ 1000000) && (decide (cl ≥ 1) && decide (cl ≤ 4))))))
theorem begins_eq (S : List (List UInt8)) (L : List UInt8) (li cl : Int) (D : List Deed) (h : S.length ≤ 900000) : f21_F ((S, (L, (li, (cl, (D, ()))))), ()) = some (begins S L li cl, ()) := by
  rw [f21_eq]
  unfold begins
  cases e1 : ((S.length : Int) == 4) with
  | false => rw [cond_false]; rfl
  | true =>
    rw [cond_true, any43 S h, Option.bind_some, Bool.true_and]
    simp only [h43_o_x0_y]
    rw [any_not S (fun s => (s.length : Int) != 32) (fun s => (s.length : Int) == 32) (fun s => rfl), Bool.not_not]
    cases S.all (fun s => (s.length : Int) == 32) with
    | false => rw [cond_false]; rfl
    | true =>
      rw [cond_true, f42_eq, Option.bind_some, Bool.true_and]
      dsimp only
      rw [show ((L.length : Int) != 32) = !((L.length : Int) == 32) from rfl, Bool.not_not]
      cases ((L.length : Int) == 32) with
      | false => rw [cond_false]; rfl
      | true =>
        rw [cond_true, Bool.true_and]
        cases decide (li ≥ 1) with
        | false => rw [cond_false]; rfl
        | true =>
          rw [cond_true, Bool.true_and]
          cases decide (li ≤ 1000000) with
          | false => rw [cond_false]; rfl
          | true =>
            rw [cond_true, Bool.true_and]
            cases decide (cl ≥ 1) with
            | false => rw [cond_false]; rfl
            | true => rw [cond_true, Bool.true_and]
def Small (D : List Deed) : Prop := D.length ≤ 900000 ∧ ∀ d ∈ D, d.2.1.length ≤ 900000 ∧ d.2.2.length ≤ 900000
theorem any22 (D : List Deed) (h : Small D) : h22_F (h22_y D) = some (h22_o_y (D.any fun d => !isDeed d)) := by
  have hl := go_scan (step := h44_p0_st) (l := D) (fun i => h44_p0_y D (D.length : Int) (i : Int)) (fun d => !isDeed d) (fun k => some (.inr (h44_p0_o1_y (k : Int)))) (some (.inl h44_p0_o0_y))
    (fun i hi rec => by
      obtain ⟨g1, g2⟩ := h.2 _ (List.getElem_mem hi)
      rw [h44_p0_eq, lt_true hi, cond_true, nth_at hi, Option.bind_some, f23_eq, right_eq _ _ _ g1 g2, Option.bind_some, Option.bind_some, inc i (by have := h.1; omega)]) (fun rec => by rw [h44_p0_eq, lt_false, cond_false]) (by rw [fuel_def]; have := h.1; omega)
  rw [show ((0 : Nat) : Int) = 0 from rfl] at hl
  rw [h22_eq, h44_eq, hl, ← isome_any]
  cases D.findIdx? fun d => !isDeed d with
  | none => rfl
  | some k =>
    dsimp only
    rw [Option.bind_some, Option.bind_some]
    simp only [h44_p0_o1_x4_y, h44_o_x0_y]
    rw [show decide ((k : Int) ≥ 0) = true from by simp]; rfl
def right (S : List (List UInt8)) (L : List UInt8) (li cl : Int) (D : List Deed) : Bool := begins S L li cl && (decide ((D.length : Int) ≤ 200) && D.all isDeed)
theorem rightP_eq (S : List (List UInt8)) (L : List UInt8) (li cl : Int) (D : List Deed) (h : S.length ≤ 900000) (hD : Small D) : f10_F ((S, (L, (li, (cl, (D, ()))))), ()) = some (right S L li cl D, ()) := by
  rw [f10_eq, begins_eq S L li cl D h, Option.bind_some]
  unfold right
  dsimp only
  cases begins S L li cl with
  | false => rw [cond_false]; rfl
  | true =>
    rw [cond_true, Bool.true_and]
    cases decide ((D.length : Int) ≤ 200) with
    | false => rw [cond_false]; rfl
    | true =>
      rw [cond_true, any22 D hD, Option.bind_some, Bool.true_and]
      simp only [h22_o_x0_y]
      rw [any_not D _ isDeed (fun _ => rfl), Bool.not_not]
theorem min_take {α : Type} (l : List α) (n : Nat) {S : Type} (K : List α → Option S) : cutHi l (minI (l.length : Int) (n : Int)) K = K (l.take n) := by
  unfold cutHi
  rw [minI_eq]
  split
  · rw [if_pos (by omega), Int.toNat_natCast]
  · rename_i h
    rw [if_pos (by omega), Int.toNat_natCast, List.take_of_length_le (Nat.le_refl _), List.take_of_length_le (by omega)]
def OkT (n : Nat) (s : List (List UInt8)) (i : Nat) : Prop := s.length = n ∧ ∀ j, j < i → (s.getD j []).length ≤ 3100
theorem getD_set_ne {α : Type} (l : List α) (i j : Nat) (a d : α) (h : i ≠ j) : (l.set i a).getD j d = l.getD j d := by
  rw [List.getD_eq_getElem?_getD, List.getD_eq_getElem?_getD, List.getElem?_set_ne h]
theorem few_in (x5 x30 x31 : Int) (r0_0 : List (List UInt8)) (r0_1 : List UInt8) (r0_2 r0_3 : Int) (r1_1 : List UInt8) (r1_2 r1_3 r2_0 : Int) (r2_2 : List Int) (l0 : List Deed) (T : List (List UInt8)) (hT : T.length ≤ 5) :
    ∃ T', go f5_p0_st (f5_p0_y x5 x30 x31 (T.length : Int) 0 r0_0 r0_1 r0_2 r0_3 r1_1 r1_2 r1_3 r2_0 r2_2 l0 T) = some (f5_p0_o0_y x5 x30 x31 r0_0 r0_1 r0_2 r0_3 r1_1 r1_2 r1_3 r2_0 r2_2 l0 T') ∧ OkT T.length T' T.length := by
  have := go_foldi (step := f5_p0_st) (l := T) (fun i s => f5_p0_y x5 x30 x31 (T.length : Int) (i : Int) r0_0 r0_1 r0_2 r0_3 r1_1 r1_2 r1_3 r2_0 r2_2 l0 s) (fun i s _ => s.set i ((s.getD i []).take 3100)) (fun i s => OkT T.length s i) (s0 := T) (fin := fun s => some (f5_p0_o0_y x5 x30 x31 r0_0 r0_1 r0_2 r0_3 r1_1 r1_2 r1_3 r2_0 r2_2 l0 s)) ⟨rfl, fun j hj => by omega⟩
    (fun i s hi hs => ⟨⟨by simpa using hs.1, fun j hj => by
      by_cases e : i = j
      · subst e
        rw [List.getD_eq_getElem?_getD, List.getElem?_set_self (by rw [hs.1]; exact hi)]
        simp only [Option.getD_some, List.length_take]; omega
      · rw [getD_set_ne _ _ _ _ _ e]; exact hs.2 j (by omega)⟩, fun rec => by
      have hi' : i < s.length := by rw [hs.1]; exact hi
      rw [f5_p0_eq, lt_true hi, cond_true, within, if_pos (by omega), Int.toNat_natCast, List.getElem?_eq_getElem hi', Option.bind_some, show (3100 : Int) = ((3100 : Nat) : Int) from rfl, min_take, within, if_pos (by omega), Option.bind_some, inc i (by omega)]
      rw [List.getD_eq_getElem?_getD, List.getElem?_eq_getElem hi', Option.getD_some]⟩) (fun s hs rec => by rw [f5_p0_eq, lt_false, cond_false])
    (by rw [fuel_def]; omega)
  exact ⟨_, this.1, this.2⟩
def OkD (d : Deed) : Prop := d.2.1.length ≤ 5 ∧ d.2.2.length ≤ 5 ∧ ∀ s ∈ d.2.1, s.length ≤ 3100
def OkI (n : Nat) (D : List Deed) (i : Nat) : Prop := D.length = n ∧ ∀ j (h : j < D.length), j < i → OkD D[j]
theorem okT_all {T : List (List UInt8)} {n : Nat} (h : OkT n T n) : ∀ s ∈ T, s.length ≤ 3100 := fun s hs => by
  obtain ⟨j, hj, rfl⟩ := List.mem_iff_getElem.1 hs
  have := h.2 j (by have := h.1; omega)
  rwa [List.getD_eq_getElem?_getD, List.getElem?_eq_getElem hj] at this
theorem few_loop (r0_0 : List (List UInt8)) (r0_1 : List UInt8) (r0_2 r0_3 : Int) (r1_1 : List UInt8) (r1_2 r1_3 : Int) (D0 : List Deed) (hD0 : D0.length ≤ 900000) : ∀ (m i : Nat) (D : List Deed) (k : Nat), i + m = D0.length → m + 1 ≤ k → OkI D0.length D i →
    ∃ D', iter f5_p1_st k (f5_p1_y (D0.length : Int) (i : Int) r0_0 r0_1 r0_2 r0_3 r1_1 r1_2 r1_3 D) = some (f5_p1_o0_y r0_0 r0_1 r0_2 r0_3 r1_1 r1_2 r1_3 D') ∧ OkI D0.length D' D0.length := by
  intro m
  induction m with
  | zero =>
    intro i D k hi hk hD
    obtain ⟨k, rfl⟩ : ∃ j, k = j + 1 := ⟨k - 1, by omega⟩
    obtain rfl : i = D0.length := by omega
    exact ⟨D, by rw [iter, f5_p1_eq, lt_false, cond_false], hD⟩
  | succ m ih =>
    intro i D k hi hk hD
    obtain ⟨k, rfl⟩ : ∃ j, k = j + 1 := ⟨k - 1, by omega⟩
    have hi0 : i < D0.length := by omega
    have hi' : i < D.length := by rw [hD.1]; exact hi0
    rw [iter, f5_p1_eq, lt_true hi0, cond_true, within, if_pos (by omega), Int.toNat_natCast, List.getElem?_eq_getElem hi', Option.bind_some, show (5 : Int) = ((5 : Nat) : Int) from rfl, min_take, appOk, if_pos (by simp; omega), min_take]
    simp only [List.nil_append]
    obtain ⟨T', h1, h2⟩ := few_in (i : Int) (D0.length : Int) (i : Int) r0_0 r0_1 r0_2 r0_3 r1_1 r1_2 r1_3 D[i].1 (D[i].2.2.take 5) D (D[i].2.1.take 5) (by simp; omega)
    rw [h1, Option.bind_some]
    simp only [f5_p0_o0_x5_y, f5_p0_o0_x30_y, f5_p0_o0_x31_y, f5_p0_o0_r0_0_y, f5_p0_o0_r0_1_y, f5_p0_o0_r0_2_y, f5_p0_o0_r0_3_y, f5_p0_o0_r1_1_y, f5_p0_o0_r1_2_y, f5_p0_o0_r1_3_y, f5_p0_o0_r2_0_y, f5_p0_o0_r2_2_y, f5_p0_o0_l0_y, f5_p0_o0_l1_y]
    rw [within, if_pos (by omega), Int.toNat_natCast, List.getElem?_eq_getElem hi', Option.bind_some, inc i (by omega)]
    refine ih (i + 1) _ k (by omega) (by omega) ⟨by simpa using hD.1, fun j hj hlt => ?_⟩
    by_cases e : i = j
    · subst e
      rw [List.getElem_set_self]
      refine ⟨by rw [h2.1]; simp; omega, by simp; omega, okT_all h2⟩
    · rw [List.getElem_set_ne e]
      exact hD.2 j (by simpa using hj) (by omega)
theorem few_eq (S : List (List UInt8)) (L : List UInt8) (li cl : Int) (D : List Deed) (n : Nat) (hn : n ≤ 900000) :
    ∃ D', f5_F ((S, (L, (li, (cl, (D, ()))))), ((n : Int), ())) = some ((S.take 6, (L, (li, (cl, (D', ()))))), ()) ∧ D'.length = min n D.length ∧ ∀ d ∈ D', OkD d := by
  have hlen : (D.take n).length = min n D.length := List.length_take ..
  obtain ⟨D', h1, h2⟩ := few_loop (S.take 6) L li cl [] 0 0 (D.take n) (by omega) (D.take n).length 0 (D.take n) (fuelOf f5_p1_sh (f5_p1_y ((D.take n).length : Int) ((0 : Nat) : Int) (S.take 6) L li cl [] 0 0 (D.take n))) (by omega) (by rw [fuel_def]; omega) ⟨rfl, fun j _ h => by omega⟩
  refine ⟨D', ?_, by rw [h2.1, hlen], fun d hd => ?_⟩
  · rw [f5_eq, show (6 : Int) = ((6 : Nat) : Int) from rfl, min_take, min_take, appOk, if_pos (by simp; omega)]
    simp only [List.nil_append]
    rw [show go f5_p1_st (f5_p1_y ((D.take n).length : Int) (0 : Int) (S.take 6) L li cl ([] : List UInt8) (0 : Int) (0 : Int) (D.take n)) = _ from h1, Option.bind_some]
    simp only [f5_p1_o0_r0_0_y, f5_p1_o0_r0_1_y, f5_p1_o0_r0_2_y, f5_p1_o0_r0_3_y, f5_p1_o0_r1_1_y, f5_p1_o0_r1_2_y, f5_p1_o0_r1_3_y, f5_p1_o0_l0_y]
  · obtain ⟨j, hj, rfl⟩ := List.mem_iff_getElem.1 hd
    exact h2.2 j hj (by have := h2.1; omega)
end Go.Pe.Tryd
end
section
namespace Go.Pe.Tryd
open Go.Proofs Go.RowKit
open Go.Lib (join itoa joinTail)
set_option maxRecDepth 100000
set_option linter.unusedSimpArgs false
set_option linter.unusedVariables false
theorem joinTail_len (r : List (List UInt8)) (M : Nat) (h : ∀ w ∈ r, w.length ≤ M) : (joinTail [32] r).length ≤ r.length * (M + 1) := by
  induction r with
  | nil => simp [joinTail]
  | cons w r ih =>
    have h1 := ih fun x hx => h x (by simp [hx])
    have h2 := h w (by simp)
    simp only [joinTail, List.map_cons, List.flatten_cons, List.length_append, List.length_cons, List.length_nil] at h1 ⊢
    rw [Nat.add_mul]; omega
theorem join_len (r : List (List UInt8)) (M : Nat) (h : ∀ w ∈ r, w.length ≤ M) : (join r [32]).length ≤ r.length * (M + 1) := by
  cases r with
  | nil => simp [Lib.join_nil]
  | cons w r =>
    rw [Lib.join_cons, List.length_append]
    have h1 := joinTail_len r M fun x hx => h x (by simp [hx])
    have h2 := h w (by simp)
    rw [List.length_cons, Nat.add_mul]; omega
def wordsOf (d : Deed) (x : Shp) : List (List UInt8) := x.1 :: (d.2.1.map (fun s => 120 :: hex s) ++ d.2.2.map itoa)
def line (d : Deed) : List UInt8 := join (wordsOf d ((look d.1).getD ([], (0, 0)))) [32]
theorem isDeed_iff {d : Deed} (h : isDeed d = true) : ∃ x, look d.1 = some x ∧ (d.1, x) ∈ shp ∧ (d.2.1.length : Int) = x.2.1 ∧ (d.2.2.length : Int) = x.2.2 ∧ (∀ s ∈ d.2.1, s.length ≤ 3000) ∧ (∀ n ∈ d.2.2, 0 ≤ n ∧ n ≤ 1099511627776) := by
  unfold isDeed at h
  rcases look_cases d.1 with ⟨hn, _⟩ | ⟨_, _, x, hx, hm⟩
  · rw [hn] at h; cases h
  · rw [hx] at h
    simp only [Bool.and_eq_true, beq_iff_eq, List.all_eq_true, decide_eq_true_eq] at h
    exact ⟨x, hx, hm, h.1, h.2.1, h.2.2.1, h.2.2.2.1⟩
theorem shp_word {k : Int} {x : Shp} (h : (k, x) ∈ shp) : x.1.length ≤ 7 ∧ ∀ c ∈ x.1, 97 ≤ c.toNat := by
  simp only [shp, List.mem_cons, Prod.mk.injEq, List.not_mem_nil, or_false] at h
  rcases h with ⟨rfl, rfl⟩ | ⟨rfl, rfl⟩ | ⟨rfl, rfl⟩ | ⟨rfl, rfl⟩ | ⟨rfl, rfl⟩ | ⟨rfl, rfl⟩ | ⟨rfl, rfl⟩ | ⟨rfl, rfl⟩ <;> exact ⟨by decide, by decide⟩
theorem itoa_le {n : Int} (h : 0 ≤ n ∧ n ≤ 1099511627776) : (itoa n).length ≤ 21 := Lib.itoa_length_le n (by omega) (by omega)
theorem words_len {d : Deed} {x : Shp} (hx : (d.1, x) ∈ shp) (h1 : (d.2.1.length : Int) = x.2.1) (h2 : (d.2.2.length : Int) = x.2.2) (h3 : ∀ s ∈ d.2.1, s.length ≤ 3000) (h4 : ∀ n ∈ d.2.2, 0 ≤ n ∧ n ≤ 1099511627776) : (wordsOf d x).length ≤ 6 ∧ ∀ w ∈ wordsOf d x, w.length ≤ 6001 := by
  have hl := shp_len hx
  refine ⟨by simp only [wordsOf, List.length_cons, List.length_append, List.length_map]; omega, fun w hw => ?_⟩
  simp only [wordsOf, List.mem_cons, List.mem_append, List.mem_map] at hw
  rcases hw with rfl | ⟨s, hs, rfl⟩ | ⟨n, hn, rfl⟩
  · have := (shp_word hx).1; omega
  · have := h3 s hs; simp only [List.length_cons, hex_length]; omega
  · have := itoa_le (h4 n hn); omega
theorem line_len {d : Deed} (h : isDeed d = true) : (line d).length ≤ 36012 := by
  obtain ⟨x, hx, hm, h1, h2, h3, h4⟩ := isDeed_iff h
  obtain ⟨g1, g2⟩ := words_len hm h1 h2 h3 h4
  unfold line
  rw [hx]
  have := join_len (wordsOf d x) 6001 g2
  have e : ((some x).getD (([] : List UInt8), ((0 : Int), (0 : Int)))) = x := rfl
  rw [e]
  have : (wordsOf d x).length * (6001 + 1) ≤ 6 * 6002 := Nat.mul_le_mul_right _ g1
  omega
theorem foldi_map {α β : Type} (g : α → β) (l : List α) : ∀ (k : Nat) (s : List β), foldi (fun _ (s : List β) (x : α) => s ++ [g x]) k s l = s ++ l.map g := by
  induction l with
  | nil => intro k s; simp [foldi]
  | cons x l ih => intro k s; rw [foldi, ih]; simp
theorem itoaF_eq {n : Int} (h : 0 ≤ n ∧ n ≤ 1099511627776) : itoaF (n, ()) = some (itoa n, ()) := by
  show (if -9223372036854775808 ≤ n ∧ n ≤ 9223372036854775807 then some (itoa n, ()) else none) = _
  rw [if_pos ⟨by omega, by omega⟩]
theorem joinF_eq {ws : List (List UInt8)} (h1 : ws.length ≤ 900000) (M : Nat) (hM : M ≤ 900000) (h2 : ∀ w ∈ ws, w.length ≤ M) : joinF (ws, (([32] : List UInt8), ())) = some (join ws [32], ()) := by
  show (if ws.length ≤ 140737488355328 ∧ (join ws [32]).length ≤ 140737488355328 then some (join ws [32], ()) else none) = _
  have h3 := join_len ws M h2
  have h4 : ws.length * (M + 1) ≤ 900000 * 900001 := Nat.mul_le_mul h1 (by omega)
  rw [if_pos ⟨by omega, by omega⟩]
theorem line_eq (k : Int) (ts : List (List UInt8)) (ns : List Int) (h : isDeed (k, (ts, ns)) = true) : f16_F ((k, (ts, (ns, ()))), ()) = some (line (k, (ts, ns)), ()) := by
  obtain ⟨x, hx, hm, h1, h2, h3, h4⟩ := isDeed_iff h
  obtain ⟨g1, g2⟩ := words_len hm h1 h2 h3 h4
  have hl := shp_len hm
  dsimp only at hx h1 h2 h3 h4
  rw [f16_eq, shapes_eq, Option.bind_some, mget_look, hx, Option.getD_some]
  have a1 := go_foldi (step := f16_p1_st) (l := ts) (fun i s => f16_p1_y ts (ts.length : Int) (i : Int) k ts ns s) (fun _ s t => s ++ [120 :: hex t]) (fun i s => s.length = i + 1) (s0 := [x.1]) (fin := fun s => some (f16_p1_o0_y k ts ns s)) rfl
    (fun i s hi hs => ⟨by simp [hs], fun rec => by
      have hle := h3 _ (List.getElem_mem hi)
      rw [f16_p1_eq, lt_true hi, cond_true, nth_at hi, Option.bind_some, hex_eq _ (by omega), Option.bind_some]
      dsimp only
      rw [if_pos (by rw [hex_length]; simp; omega), appOk, if_pos (by simp; omega), inc i (by omega)]; rfl⟩) (fun s hs rec => by rw [f16_p1_eq, lt_false, cond_false]) (by rw [fuel_def]; omega)
  obtain ⟨a1, b1⟩ := a1
  rw [show ((0 : Nat) : Int) = 0 from rfl] at a1
  rw [a1, Option.bind_some, foldi_map]
  simp only [f16_p1_o0_r0_0_y, f16_p1_o0_r0_1_y, f16_p1_o0_r0_2_y, f16_p1_o0_l1_y]
  have a2 := go_foldi (step := f16_p0_st) (l := ns) (fun i s => f16_p0_y ns (ns.length : Int) (i : Int) s) (fun _ s n => s ++ [itoa n]) (fun i s => s.length = i + (ts.length + 1)) (s0 := [x.1] ++ ts.map fun t => 120 :: hex t) (fin := fun s => some (f16_p0_o0_y s)) (by simp)
    (fun i s hi hs => ⟨by simp [hs]; omega, fun rec => by
      rw [f16_p0_eq, lt_true hi, cond_true, nth_at hi, Option.bind_some, itoaF_eq (h4 _ (List.getElem_mem hi)), Option.bind_some, appOk, if_pos (by simp; omega), inc i (by omega)]⟩) (fun s hs rec => by rw [f16_p0_eq, lt_false, cond_false]) (by rw [fuel_def]; omega)
  obtain ⟨a2, b2⟩ := a2
  rw [show ((0 : Nat) : Int) = 0 from rfl] at a2
  rw [a2, Option.bind_some, foldi_map]
  simp only [f16_p0_o0_l1_y]
  have e : [x.1] ++ ts.map (fun t => 120 :: hex t) ++ ns.map itoa = wordsOf (k, (ts, ns)) x := by simp [wordsOf]
  rw [e, joinF_eq (by omega) 6001 (by omega) g2, Option.bind_some]
  unfold line
  rw [hx]; rfl
def sysW : List UInt8 := [115, 121, 115, 116, 101, 109]
def firstW (S : List (List UInt8)) (L : List UInt8) (li cl : Int) : List (List UInt8) := sysW :: (S.map hex ++ [hex L, itoa li, itoa cl])
def first (S : List (List UInt8)) (L : List UInt8) (li cl : Int) : List UInt8 := join (firstW S L li cl) [32]
theorem begins_iff {S : List (List UInt8)} {L : List UInt8} {li cl : Int} (h : begins S L li cl = true) : S.length = 4 ∧ (∀ s ∈ S, s.length = 32) ∧ L.length = 32 ∧ 1 ≤ li ∧ li ≤ 1000000 ∧ 1 ≤ cl ∧ cl ≤ 4 := by
  unfold begins at h
  simp only [Bool.and_eq_true, beq_iff_eq, List.all_eq_true, decide_eq_true_eq] at h
  obtain ⟨h1, h2, h3, h4, h5, h6, h7⟩ := h
  exact ⟨by omega, fun s hs => by have := h2 s hs; omega, by omega, h4, h5, h6, h7⟩
theorem firstW_len {S : List (List UInt8)} {L : List UInt8} {li cl : Int} (h : begins S L li cl = true) : (firstW S L li cl).length = 8 ∧ ∀ w ∈ firstW S L li cl, w.length ≤ 64 := by
  obtain ⟨h1, h2, h3, h4, h5, h6, h7⟩ := begins_iff h
  refine ⟨by simp [firstW, h1], fun w hw => ?_⟩
  simp only [firstW, List.mem_cons, List.mem_append, List.mem_map, List.not_mem_nil, or_false] at hw
  rcases hw with rfl | ⟨s, hs, rfl⟩ | rfl | rfl | rfl
  · decide
  · rw [hex_length, h2 s hs]; omega
  · rw [hex_length, h3]; omega
  · have := itoa_le (n := li) ⟨by omega, by omega⟩; omega
  · have := itoa_le (n := cl) ⟨by omega, by omega⟩; omega
theorem first_len {S : List (List UInt8)} {L : List UInt8} {li cl : Int} (h : begins S L li cl = true) : (first S L li cl).length ≤ 520 := by
  obtain ⟨g1, g2⟩ := firstW_len h
  have := join_len _ 64 g2
  rw [g1] at this
  unfold first; omega
theorem first_eq (S : List (List UInt8)) (L : List UInt8) (li cl : Int) (D : List Deed) (h : begins S L li cl = true) : f15_F ((S, (L, (li, (cl, (D, ()))))), ()) = some (first S L li cl, ()) := by
  obtain ⟨h1, h2, h3, h4, h5, h6, h7⟩ := begins_iff h
  obtain ⟨g1, g2⟩ := firstW_len h
  rw [f15_eq]
  have a1 := go_foldi (step := f15_p0_st) (l := S) (fun i s => f15_p0_y S (S.length : Int) (i : Int) S L li cl D s) (fun _ s t => s ++ [hex t]) (fun i s => s.length = i + 1) (s0 := [sysW]) (fin := fun s => some (f15_p0_o0_y S L li cl D s)) rfl
    (fun i s hi hs => ⟨by simp [hs], fun rec => by
      have hle := h2 _ (List.getElem_mem hi)
      rw [f15_p0_eq, lt_true hi, cond_true, nth_at hi, Option.bind_some, hex_eq _ (by omega), Option.bind_some]
      dsimp only
      rw [appOk, if_pos (by simp; omega), inc i (by omega)]⟩) (fun s hs rec => by rw [f15_p0_eq, lt_false, cond_false]) (by rw [fuel_def]; omega)
  obtain ⟨a1, b1⟩ := a1
  rw [show ((0 : Nat) : Int) = 0 from rfl] at a1
  have e0 : go f15_p0_st (f15_p0_y S (S.length : Int) (0 : Int) S L li cl D ([([115, 121, 115, 116, 101, 109] : List UInt8)] : List (List UInt8))) = _ := a1
  rw [e0, Option.bind_some, foldi_map]
  simp only [f15_p0_o0_r0_0_y, f15_p0_o0_r0_1_y, f15_p0_o0_r0_2_y, f15_p0_o0_r0_3_y, f15_p0_o0_r0_4_y, f15_p0_o0_l0_y]
  rw [hex_eq L (by omega), Option.bind_some, itoaF_eq ⟨by omega, by omega⟩, Option.bind_some, itoaF_eq ⟨by omega, by omega⟩, Option.bind_some, appOk, if_pos (by simp; omega)]
  have e : [sysW] ++ S.map hex ++ [hex L, itoa li, itoa cl] = firstW S L li cl := by simp [firstW]
  dsimp only
  rw [e, joinF_eq (by omega) 64 (by omega) g2, Option.bind_some]; rfl
def linesOf (D : List Deed) : List UInt8 := D.flatMap fun d => line d ++ [10]
def textOf (S : List (List UInt8)) (L : List UInt8) (li cl : Int) (D : List Deed) : List UInt8 := first S L li cl ++ 10 :: linesOf D
theorem right_iff {S : List (List UInt8)} {L : List UInt8} {li cl : Int} {D : List Deed} (h : right S L li cl D = true) : begins S L li cl = true ∧ D.length ≤ 200 ∧ ∀ d ∈ D, isDeed d = true := by
  unfold right at h
  simp only [Bool.and_eq_true, List.all_eq_true, decide_eq_true_eq] at h
  exact ⟨h.1, by omega, h.2.2⟩
theorem foldi_lines (D : List Deed) : ∀ (k : Nat) (s : List UInt8), foldi (fun _ (s : List UInt8) (d : Deed) => s ++ (line d ++ [10])) k s D = s ++ linesOf D := by
  induction D with
  | nil => intro k s; simp [foldi, linesOf]
  | cons d D ih => intro k s; rw [foldi, ih]; simp [linesOf]
theorem lines_len {D : List Deed} (h : ∀ d ∈ D, isDeed d = true) : (linesOf D).length ≤ D.length * 36013 := by
  induction D with
  | nil => simp [linesOf]
  | cons d D ih =>
    have h1 := ih fun x hx => h x (by simp [hx])
    have h2 := line_len (h d (by simp))
    simp only [linesOf, List.flatMap_cons, List.length_append, List.length_cons, List.length_nil] at h1 ⊢
    omega
theorem text_len {S : List (List UInt8)} {L : List UInt8} {li cl : Int} {D : List Deed} (h : right S L li cl D = true) : (textOf S L li cl D).length ≤ 8000000 := by
  obtain ⟨h1, h2, h3⟩ := right_iff h
  have := first_len h1
  have := lines_len h3
  have : D.length * 36013 ≤ 200 * 36013 := Nat.mul_le_mul_right _ h2
  simp only [textOf, List.length_append, List.length_cons]; omega
theorem print_eq (S : List (List UInt8)) (L : List UInt8) (li cl : Int) (D : List Deed) (hS : S.length ≤ 900000) (hD : Small D) : f6_F ((S, (L, (li, (cl, (D, ()))))), ()) = some (if right S L li cl D = true then (textOf S L li cl D, (0, ())) else ([], (1, ()))) := by
  rw [f6_eq, rightP_eq S L li cl D hS hD, Option.bind_some]
  dsimp only
  cases hr : right S L li cl D with
  | false => rfl
  | true =>
    obtain ⟨h1, h2, h3⟩ := right_iff hr
    rw [Bool.not_true, cond_false, first_eq S L li cl D h1, Option.bind_some]
    dsimp only
    have hf := first_len h1
    rw [if_pos (by simp; omega)]
    have a1 := go_foldi (step := f6_p0_st) (l := D) (fun i s => f6_p0_y s D (D.length : Int) (i : Int)) (fun _ s d => s ++ (line d ++ [10])) (fun i s => s.length ≤ 521 + i * 36013) (s0 := first S L li cl ++ [10]) (fin := fun s => some (f6_p0_o0_y s)) (by simp; omega)
      (fun i s hi hs => ⟨by
        have := line_len (h3 _ (List.getElem_mem hi))
        rw [List.length_append, List.length_append, List.length_cons, List.length_nil, Nat.add_mul]; omega, fun rec => by
        have hd := h3 _ (List.getElem_mem hi)
        have hle := line_len hd
        rw [f6_p0_eq, lt_true hi, cond_true, nth_at hi, Option.bind_some, line_eq D[i].1 D[i].2.1 D[i].2.2 hd, Option.bind_some]
        dsimp only
        have : i * 36013 ≤ 200 * 36013 := Nat.mul_le_mul_right _ (by omega)
        have e : (D[i].1, D[i].2.1, D[i].2.2) = D[i] := rfl
        rw [if_pos (by rw [e]; simp; omega), if_pos (by rw [e]; simp; omega), inc i (by omega)]⟩) (fun s hs rec => by rw [f6_p0_eq, lt_false, cond_false]) (by rw [fuel_def]; omega)
    obtain ⟨a1, b1⟩ := a1
    rw [show ((0 : Nat) : Int) = 0 from rfl] at a1
    rw [a1, Option.bind_some, foldi_lines]
    simp only [f6_p0_o0_x4_y]
    rw [if_pos trivial]
    simp [textOf]
end Go.Pe.Tryd
end
section
namespace Go.Pe.Tryd
open Go.Proofs Go.RowKit
open Go.Lib (join itoa joinTail)
set_option maxRecDepth 100000
set_option linter.unusedSimpArgs false
set_option linter.unusedVariables false
def tx (w : List UInt8) : List UInt8 := (unhex w).getD []
theorem tx_hex (s : List UInt8) : tx (hex s) = s := by rw [tx, unhex_hex]; rfl
theorem no_of_ge {c : UInt8} {w : List UInt8} (m : Nat) (h : ∀ x ∈ w, m ≤ x.toNat) (hc : c.toNat < m) : c ∉ w := fun hm => by have := h c hm; omega
theorem hex_no (s : List UInt8) {c : UInt8} (hc : c.toNat < 48) : c ∉ hex s := no_of_ge 48 (hex_digit s) hc
theorem itoa_no {n : Int} (h : 0 ≤ n) {c : UInt8} (hc : c.toNat < 48) : c ∉ itoa n := no_of_ge 48 (fun x hx => (itoa_digit n h x hx).1) hc
theorem firstW_no {S : List (List UInt8)} {L : List UInt8} {li cl : Int} (h : begins S L li cl = true) {c : UInt8} (hc : c.toNat < 48) : ∀ w ∈ firstW S L li cl, c ∉ w := by
  obtain ⟨h1, h2, h3, h4, h5, h6, h7⟩ := begins_iff h
  intro w hw
  simp only [firstW, List.mem_cons, List.mem_append, List.mem_map, List.not_mem_nil, or_false] at hw
  rcases hw with rfl | ⟨s, hs, rfl⟩ | rfl | rfl | rfl
  · exact no_of_ge 97 (by decide) (by omega)
  · exact hex_no _ hc
  · exact hex_no _ hc
  · exact itoa_no (by omega) hc
  · exact itoa_no (by omega) hc
theorem split_first {S : List (List UInt8)} {L : List UInt8} {li cl : Int} (h : begins S L li cl = true) : splitC 32 (first S L li cl) = firstW S L li cl := splitC_join (by simp [firstW]) (firstW_no h (by decide))
theorem words_no {d : Deed} {x : Shp} (hx : (d.1, x) ∈ shp) (h4 : ∀ n ∈ d.2.2, 0 ≤ n ∧ n ≤ 1099511627776) {c : UInt8} (hc : c.toNat < 48) : ∀ w ∈ wordsOf d x, c ∉ w := by
  intro w hw
  simp only [wordsOf, List.mem_cons, List.mem_append, List.mem_map] at hw
  rcases hw with rfl | ⟨s, hs, rfl⟩ | ⟨n, hn, rfl⟩
  · exact no_of_ge 97 (shp_word hx).2 (by omega)
  · intro hm
    rcases List.mem_cons.1 hm with rfl | hm
    · simp at hc
    · exact hex_no _ hc hm
  · exact itoa_no (h4 n hn).1 hc
theorem splitF_eq (s : List UInt8) (h : s.length ≤ 900000) : splitF (s, (([32] : List UInt8), ())) = some (splitC 32 s, ()) := by
  show (if s.length < 4294967281 ∧ 1 ≤ ([32] : List UInt8).length then some (((Lib.splitB ⟨#[32]⟩ 0 (Lib.countB ⟨s.toArray⟩ ⟨#[32]⟩) ⟨s.toArray⟩).map (·.data.toList)), ()) else none) = _
  rw [if_pos ⟨by omega, by decide⟩, split_words]
theorem splitC_le {c : UInt8} : ∀ (s : List UInt8), ∀ w ∈ splitC c s, w.length ≤ s.length
  | [], w, h => by simp [splitC] at h; subst h; simp
  | b :: s, w, h => by
    have ih := splitC_le (c := c) s
    unfold splitC at h
    split at h
    · rcases List.mem_cons.1 h with rfl | h
      · simp
      · have := ih w h; simp; omega
    · split at h
      · rename_i w0 ws hs
        rcases List.mem_cons.1 h with rfl | h
        · have := ih w0 (by rw [hs]; simp); simp; omega
        · have := ih w (by rw [hs]; simp [h]); simp; omega
      · simp only [List.mem_singleton] at h; subst h; simp
theorem splitC_ne {c : UInt8} : ∀ (s : List UInt8), splitC c s ≠ []
  | [] => by simp [splitC]
  | b :: s => by
    unfold splitC
    split
    · simp
    · split <;> simp
theorem numberF_eq (s : List UInt8) (h : s.length ≤ 900000) : numberF (s, ()) = some (numOf s, ()) := by
  show (if s.length ≤ 4294967296 then some (numOf s, ()) else none) = _
  rw [if_pos (by omega)]
theorem list8 {α : Type} : ∀ {l : List α}, l.length = 8 → ∃ a b c d e f g h, l = [a, b, c, d, e, f, g, h]
  | [a, b, c, d, e, f, g, h], _ => ⟨a, b, c, d, e, f, g, h, rfl⟩
theorem list4 {α : Type} : ∀ {l : List α}, l.length = 4 → ∃ a b c d, l = [a, b, c, d]
  | [a, b, c, d], _ => ⟨a, b, c, d, rfl⟩
theorem begin_eq (s : List UInt8) (h : s.length ≤ 900000) : ∃ S L li cl ok, h17_F (h17_y s) = some (h17_o_y L li cl ok S) ∧ (ok = true → begins S L li cl = true ∧ first S L li cl = s) ∧
    (∀ S0 L0 li0 cl0, begins S0 L0 li0 cl0 = true → s = first S0 L0 li0 cl0 → ok = true ∧ S = S0 ∧ L = L0 ∧ li = li0 ∧ cl = cl0) := by
  rw [h17_eq, splitF_eq s h, Option.bind_some]
  dsimp only
  by_cases h8 : (splitC 32 s).length = 8
  · rw [show (((splitC 32 s).length : Int) != 8) = false from by rw [h8]; rfl, cond_false]
    have hle := splitC_le (c := 32) s
    obtain ⟨w0, w1, w2, w3, w4, w5, w6, w7, hw⟩ := list8 h8
    have hws : ∀ w ∈ [w0, w1, w2, w3, w4, w5, w6, w7], w.length ≤ 900000 := fun w hm => by have := hle w (by rw [hw]; exact hm); omega
    rw [hw]
    rw [show nth [w0, w1, w2, w3, w4, w5, w6, w7] (5 : Int) = some w5 from rfl, Option.bind_some, text_eq w5 (hws w5 (by simp)), Option.bind_some, show nth [w0, w1, w2, w3, w4, w5, w6, w7] (6 : Int) = some w6 from rfl, Option.bind_some, numberF_eq w6 (hws w6 (by simp)), Option.bind_some, show nth [w0, w1, w2, w3, w4, w5, w6, w7] (7 : Int) = some w7 from rfl, Option.bind_some, numberF_eq w7 (hws w7 (by simp)), Option.bind_some]
    have hcm : ∀ {S : Type} (K : List (List UInt8) → Option S), cutMid [w0, w1, w2, w3, w4, w5, w6, w7] (1 : Int) (5 : Int) K = K [w1, w2, w3, w4] := fun K => by unfold cutMid; rw [if_pos (by simp)]; rfl
    rw [hcm]
    have a1 := go_foldi (step := h17_p0_st) (l := [w1, w2, w3, w4]) (fun i t => h17_p0_y s [w1, w2, w3, w4] (([w1, w2, w3, w4] : List (List UInt8)).length : Int) (i : Int) [] 0 0 (tx w5) (numOf w6) (numOf w7) t) (fun _ t w => t ++ [tx w]) (fun i t => t.length = i) (s0 := []) (fin := fun t => some (h17_p0_o0_y s [] 0 0 (tx w5) (numOf w6) (numOf w7) t)) rfl
      (fun i t hi ht => ⟨by simp [ht], fun rec => by
        have hm : ([w1, w2, w3, w4] : List (List UInt8))[i].length ≤ 900000 := hws _ (show _ ∈ w0 :: ([w1, w2, w3, w4] ++ [w5, w6, w7]) from List.mem_cons_of_mem _ (List.mem_append_left _ (List.getElem_mem hi)))
        have hi4 : i < 4 := hi
        rw [h17_p0_eq, lt_true hi, cond_true, nth_at hi, Option.bind_some, text_eq _ hm, Option.bind_some, appOk, if_pos (by simp; omega), inc i (by omega)]; rfl⟩) (fun t ht rec => by rw [h17_p0_eq, lt_false, cond_false]) (by rw [fuel_def]; simp only [List.length_cons, List.length_nil]; omega)
    obtain ⟨a1, b1⟩ := a1
    rw [show ((0 : Nat) : Int) = 0 from rfl] at a1
    have e0 : go h17_p0_st (h17_p0_y s [w1, w2, w3, w4] (([w1, w2, w3, w4] : List (List UInt8)).length : Int) (0 : Int) ([] : List UInt8) (0 : Int) (0 : Int) ((unhex w5).getD []) (numOf w6) (numOf w7) ([] : List (List UInt8))) = _ := a1
    rw [e0, Option.bind_some, foldi_map]
    simp only [h17_p0_o0_x0_y, h17_p0_o0_r0_1_y, h17_p0_o0_r0_2_y, h17_p0_o0_r0_3_y, h17_p0_o0_r1_1_y, h17_p0_o0_r1_2_y, h17_p0_o0_r1_3_y, h17_p0_o0_l0_y, List.nil_append]
    rw [begins_eq _ _ _ _ _ (by simp), Option.bind_some]
    cases hb : begins ([w1, w2, w3, w4].map tx) (tx w5) (numOf w6) (numOf w7) with
    | false =>
      refine ⟨_, _, _, _, false, by rw [cond_false], fun h => (by cases h), fun S0 L0 li0 cl0 hb0 hs0 => ?_⟩
      exfalso
      rw [hs0, split_first hb0] at hw
      obtain ⟨g1, g2, g3, g4, g5, g6, g7⟩ := begins_iff hb0
      obtain ⟨a, b, c, d, rfl⟩ := list4 g1
      simp only [firstW, List.map_cons, List.map_nil, List.cons_append, List.nil_append, List.cons.injEq, and_true] at hw
      obtain ⟨_, rfl, rfl, rfl, rfl, rfl, rfl, rfl⟩ := hw
      rw [List.map_cons, List.map_cons, List.map_cons, List.map_cons, List.map_nil, tx_hex, tx_hex, tx_hex, tx_hex, tx_hex, numOf_itoa _ (by omega) (by omega), numOf_itoa _ (by omega) (by omega), hb0] at hb
      cases hb
    | true =>
      refine ⟨_, _, _, _, first ([w1, w2, w3, w4].map tx) (tx w5) (numOf w6) (numOf w7) == s, by rw [cond_true, first_eq _ _ _ _ _ hb, Option.bind_some], fun h => ⟨hb, by simpa using h⟩, fun S0 L0 li0 cl0 hb0 hs0 => ?_⟩
      have hw' := hw
      rw [hs0, split_first hb0] at hw'
      obtain ⟨g1, g2, g3, g4, g5, g6, g7⟩ := begins_iff hb0
      obtain ⟨a, b, c, d, rfl⟩ := list4 g1
      simp only [firstW, List.map_cons, List.map_nil, List.cons_append, List.nil_append, List.cons.injEq, and_true] at hw'
      obtain ⟨_, rfl, rfl, rfl, rfl, rfl, rfl, rfl⟩ := hw'
      rw [List.map_cons, List.map_cons, List.map_cons, List.map_cons, List.map_nil, tx_hex, tx_hex, tx_hex, tx_hex, tx_hex, numOf_itoa _ (by omega) (by omega), numOf_itoa _ (by omega) (by omega)]
      exact ⟨by rw [hs0]; simp, rfl, rfl, rfl, rfl⟩
  · rw [show (((splitC 32 s).length : Int) != 8) = true from by simp; omega, cond_true]
    refine ⟨_, _, _, _, _, rfl, fun h => (by cases h), fun S0 L0 li0 cl0 hb0 hs0 => ?_⟩
    exfalso
    rw [hs0, split_first hb0] at h8
    exact h8 (firstW_len hb0).1
theorem shp_one : ∀ a ∈ shp, ∀ b ∈ shp, a.2.1 = b.2.1 → a = b := by decide
def rd (t : Int) (i : Nat) (s : List (List UInt8) × List Int) (w : List UInt8) : List (List UInt8) × List Int :=
  if (i : Int) < t then (s.1 ++ [tx (Lib.trimPrefix w [120])], s.2) else (s.1, s.2 ++ [numOf w])
theorem rd_nums (t : Int) (B : List Int) (hB : ∀ n ∈ B, 0 ≤ n ∧ n ≤ 1099511627776) : ∀ (k : Nat) (s : List (List UInt8) × List Int), t ≤ k → foldi (rd t) k s (B.map itoa) = (s.1, s.2 ++ B) := by
  induction B with
  | nil => intro k s _; simp [foldi]
  | cons n B ih =>
    intro k s hk
    have hn := hB n (by simp)
    rw [List.map_cons, foldi, ih (fun m hm => hB m (by simp [hm])) _ _ (by omega)]
    rw [rd, if_neg (by omega), numOf_itoa n (by omega) (by omega)]
    simp
theorem rd_words (t : Int) (A : List (List UInt8)) (B : List Int) (hB : ∀ n ∈ B, 0 ≤ n ∧ n ≤ 1099511627776) : ∀ (k : Nat) (s : List (List UInt8) × List Int), (k : Int) + A.length = t → foldi (rd t) k s (A.map (fun s => 120 :: hex s) ++ B.map itoa) = (s.1 ++ A, s.2 ++ B) := by
  induction A with
  | nil => intro k s hk; simp only [List.map_nil, List.nil_append, List.append_nil]; exact rd_nums t B hB k s (by simp at hk; omega)
  | cons a A ih =>
    intro k s hk
    simp only [List.length_cons] at hk
    rw [List.map_cons, List.cons_append, foldi, ih _ _ (by omega)]
    rw [rd, if_pos (by omega), trim_x, tx_hex]
    simp
theorem trim_le (w : List UInt8) : (Lib.trimPrefix w [120]).length ≤ w.length := by
  unfold Lib.trimPrefix
  split
  · simp
  · exact Nat.le_refl _
theorem deed_round (s : List UInt8) (hs : s.length ≤ 900000) (k : Int) (x : Shp) (hm : (k, x) ∈ shp) (w : List UInt8) (ws : List (List UInt8)) (hW : splitC 32 s = w :: ws) (hn : ((w :: ws).length : Int) = 1 + x.2.1 + x.2.2) (hw : x.1 = w) :
    ∃ ok, f18_p2_st (f18_p2_h_y s (splitC 32 s) 0) (k, x) = some (.inr (.inr (f18_p2_o1_y ok k (foldi (rd x.2.1) 0 ([], []) ws).1 (foldi (rd x.2.1) 0 ([], []) ws).2))) ∧
      (ok = true ↔ (isDeed (k, foldi (rd x.2.1) 0 ([], []) ws) = true ∧ line (k, foldi (rd x.2.1) 0 ([], []) ws) = s)) := by
  have hl := shp_len hm
  have hle := splitC_le (c := 32) s
  rw [hW] at hle
  rw [f18_p2_st_eq, hW, show nth (w :: ws) (0 : Int) = some w from rfl, Option.bind_some]
  dsimp only
  rw [show (x.1 != w) = false from by simpa using hw, cond_false]
  rw [show IntKind.i64.wrap (IntKind.i64.wrap (1 + x.2.1) + x.2.2) = 1 + x.2.1 + x.2.2 from by rw [wrap64 (x := 1 + x.2.1) (by omega) (by omega), wrap64 (by omega) (by omega)]]
  rw [show (((w :: ws).length : Int) != 1 + x.2.1 + x.2.2) = false from by rw [hn]; simp, cond_false]
  have hcl : ∀ {S : Type} (K : List (List UInt8) → Option S), cutLo (w :: ws) (1 : Int) K = K ws := fun K => by unfold cutLo; rw [if_pos (by simp; omega)]; rfl
  rw [hcl]
  have hwl : ws.length ≤ 5 := by simp only [List.length_cons] at hn; omega
  have a1 := go_foldi (step := f18_p1_st) (l := ws) (fun i t => f18_p1_y s ws (ws.length : Int) (i : Int) 0 x.1 x.2.1 x.2.2 k t.1 t.2) (rd x.2.1) (fun i t => t.1.length + t.2.length = i) (s0 := ([], [])) (fin := fun t => some (f18_p1_o0_y s 0 k t.1 t.2)) rfl
    (fun i t hi ht => ⟨by unfold rd; split <;> simp <;> omega, fun rec => by
      have hwi : ws[i].length ≤ 900000 := by have := hle ws[i] (by simp); omega
      rw [f18_p1_eq, lt_true hi, cond_true, f18_p0_eq, nth_at hi, Option.bind_some]
      unfold rd
      by_cases hlt : (i : Int) < x.2.1
      · rw [show decide ((i : Int) < x.2.1) = true from by simpa using hlt, cond_true, if_pos hlt]
        rw [show trimF (ws[i], (([120] : List UInt8), ())) = some (Lib.trimPrefix ws[i] [120], ()) from rfl, Option.bind_some, text_eq _ (by have := trim_le ws[i]; dsimp only; omega), Option.bind_some, appOk, if_pos (by simp; omega), Option.bind_some]
        simp only [f18_p0_o0_x0_y, f18_p0_o0_x39_y, f18_p0_o0_x40_y, f18_p0_o0_x41_y, f18_p0_o0_r0_0_y, f18_p0_o0_r1_0_y, f18_p0_o0_r1_1_y, f18_p0_o0_r1_2_y, f18_p0_o0_r2_0_y, f18_p0_o0_l0_y, f18_p0_o0_l1_y]
        rw [inc i (by omega)]; rfl
      · rw [show decide ((i : Int) < x.2.1) = false from by simpa using hlt, cond_false, if_neg hlt, numberF_eq _ hwi, Option.bind_some, appOk, if_pos (by simp; omega), Option.bind_some]
        simp only [f18_p0_o0_x0_y, f18_p0_o0_x39_y, f18_p0_o0_x40_y, f18_p0_o0_x41_y, f18_p0_o0_r0_0_y, f18_p0_o0_r1_0_y, f18_p0_o0_r1_1_y, f18_p0_o0_r1_2_y, f18_p0_o0_r2_0_y, f18_p0_o0_l0_y, f18_p0_o0_l1_y]
        rw [inc i (by omega)]⟩) (fun t ht rec => by rw [f18_p1_eq, lt_false, cond_false]) (by rw [fuel_def]; omega)
  obtain ⟨a1, b1⟩ := a1
  rw [show ((0 : Nat) : Int) = 0 from rfl] at a1
  have e0 : go f18_p1_st (f18_p1_y s ws (ws.length : Int) (0 : Int) 0 x.1 x.2.1 x.2.2 k ([] : List (List UInt8)) ([] : List Int)) = _ := a1
  rw [e0, Option.bind_some]
  generalize foldi (rd x.2.1) 0 ([], []) ws = t at b1 ⊢
  obtain ⟨ts, ns⟩ := t
  simp only [f18_p1_o0_x0_y, f18_p1_o0_r0_0_y, f18_p1_o0_r2_0_y, f18_p1_o0_l0_y, f18_p1_o0_l1_y]
  rw [right_eq k ts ns (by dsimp only at b1; omega) (by dsimp only at b1; omega), Option.bind_some]
  dsimp only
  cases hd : isDeed (k, (ts, ns)) with
  | false => exact ⟨false, by rw [cond_false], by simp⟩
  | true =>
    refine ⟨line (k, (ts, ns)) == s, by rw [cond_true, line_eq k ts ns hd, Option.bind_some], by simp⟩
theorem deed_other (s : List UInt8) (k : Int) (x : Shp) (hm : (k, x) ∈ shp) (w : List UInt8) (ws : List (List UInt8)) (hW : splitC 32 s = w :: ws) (h : ¬ (x.1 = w ∧ ((w :: ws).length : Int) = 1 + x.2.1 + x.2.2)) :
    f18_p2_st (f18_p2_h_y s (splitC 32 s) 0) (k, x) = some (.inl (f18_p2_h_y s (splitC 32 s) 0)) := by
  have hl := shp_len hm
  rw [f18_p2_st_eq, hW, show nth (w :: ws) (0 : Int) = some w from rfl, Option.bind_some]
  dsimp only
  by_cases hw : x.1 = w
  · rw [show (x.1 != w) = false from by simpa using hw, cond_false]
    rw [show IntKind.i64.wrap (IntKind.i64.wrap (1 + x.2.1) + x.2.2) = 1 + x.2.1 + x.2.2 from by rw [wrap64 (x := 1 + x.2.1) (by omega) (by omega), wrap64 (by omega) (by omega)]]
    rw [show (((w :: ws).length : Int) != 1 + x.2.1 + x.2.2) = true from by simp only [bne_iff_ne, ne_eq]; exact fun e => h ⟨hw, e⟩, cond_true]
  · rw [show (x.1 != w) = true from by simpa using hw, cond_true]
theorem split_line {d : Deed} (h : isDeed d = true) : ∃ x, (d.1, x) ∈ shp ∧ splitC 32 (line d) = x.1 :: (d.2.1.map (fun s => 120 :: hex s) ++ d.2.2.map itoa) ∧ (d.2.1.length : Int) = x.2.1 ∧ (d.2.2.length : Int) = x.2.2 ∧ ∀ n ∈ d.2.2, 0 ≤ n ∧ n ≤ 1099511627776 := by
  obtain ⟨x, hx, hm, h1, h2, h3, h4⟩ := isDeed_iff h
  refine ⟨x, hm, ?_, h1, h2, h4⟩
  unfold line
  rw [hx]
  exact splitC_join (by simp [wordsOf]) (words_no hm h4 (by decide))
theorem deed_eq (s : List UInt8) (hs : s.length ≤ 900000) : ∃ d ok, f18_F (s, ()) = some ((d.1, (d.2.1, (d.2.2, ()))), (ok, ())) ∧ (ok = true → isDeed d = true ∧ line d = s) ∧ (∀ d0 : Deed, isDeed d0 = true → s = line d0 → ok = true ∧ d = d0) := by
  obtain ⟨w, ws, hW⟩ : ∃ w ws, splitC 32 s = w :: ws := by
    cases h : splitC 32 s with
    | nil => exact absurd h (splitC_ne s)
    | cons w ws => exact ⟨w, ws, rfl⟩
  rw [f18_eq, splitF_eq s hs, Option.bind_some, f18_p2_eq, shapes_eq, Option.bind_some]
  dsimp only
  rw [show mpairs (.int .i64) (.prod .str (.prod (.int .i64) (.int .i64))) true (h36_o_l0 (h36_o_y shpM)) = shp from by rw [h36_o_l0_y]; rfl]
  by_cases hex : ∃ q ∈ shp, q.2.1 = w ∧ ((w :: ws).length : Int) = 1 + q.2.2.1 + q.2.2.2
  · obtain ⟨⟨k, x⟩, hm, hw, hn⟩ := hex
    dsimp only at hw hn
    obtain ⟨ok, h1, h2⟩ := deed_round s hs k x hm w ws hW hn hw
    have hmr : MrOk (f18_p2_st (f18_p2_h_y s (splitC 32 s) 0)) (f18_p2_fin (f18_p2_h_y s (splitC 32 s) 0)) shp (f18_p2_h_y s (splitC 32 s) 0) (.inr (f18_p2_o1_y ok k (foldi (rd x.2.1) 0 ([], []) ws).1 (foldi (rd x.2.1) 0 ([], []) ws).2)) := by
      refine ⟨fun q hq => ?_, .inl ⟨(k, x), hm, h1⟩⟩
      by_cases he : q.2.1 = w ∧ ((w :: ws).length : Int) = 1 + q.2.2.1 + q.2.2.2
      · have := shp_one q hq (k, x) hm (by rw [he.1, hw])
        subst this
        exact .inr h1
      · exact .inl (deed_other s q.1 q.2 hq w ws hW he)
    rw [mr_eq hmr, Option.bind_some]
    dsimp only
    simp only [f18_p2_o1_x3_y, f18_p2_o1_r0_0_y, f18_p2_o1_l0_y, f18_p2_o1_l1_y]
    refine ⟨(k, foldi (rd x.2.1) 0 ([], []) ws), ok, rfl, fun h => h2.1 h, fun d0 hd0 hs0 => ?_⟩
    obtain ⟨x0, hm0, hsp, g1, g2, g4⟩ := split_line hd0
    rw [← hs0, hW] at hsp
    simp only [List.cons.injEq] at hsp
    have := shp_one (k, x) hm (d0.1, x0) hm0 (by dsimp only; rw [hw, hsp.1])
    simp only [Prod.mk.injEq] at this
    obtain ⟨rfl, rfl⟩ := this
    have e : foldi (rd x.2.1) 0 ([], []) ws = (d0.2.1, d0.2.2) := by
      rw [hsp.2, rd_words x.2.1 d0.2.1 d0.2.2 g4 0 ([], []) (by simp [g1])]; simp
    rw [e] at h2 ⊢
    exact ⟨h2.2 ⟨hd0, hs0.symm⟩, rfl⟩
  · have hmr : MrOk (f18_p2_st (f18_p2_h_y s (splitC 32 s) 0)) (f18_p2_fin (f18_p2_h_y s (splitC 32 s) 0)) shp (f18_p2_h_y s (splitC 32 s) 0) (.inl (f18_p2_o0_y 0)) :=
      ⟨fun q hq => .inl (deed_other s q.1 q.2 hq w ws hW fun he => hex ⟨q, hq, he⟩), .inr (by rw [f18_p2_fin_eq])⟩
    rw [mr_eq hmr, Option.bind_some]
    refine ⟨(0, ([], [])), false, rfl, fun h => (by cases h), fun d0 hd0 hs0 => ?_⟩
    exfalso
    obtain ⟨x0, hm0, hsp, g1, g2, g4⟩ := split_line hd0
    rw [← hs0, hW] at hsp
    simp only [List.cons.injEq] at hsp
    refine hex ⟨(d0.1, x0), hm0, hsp.1.symm, ?_⟩
    dsimp only
    rw [hsp.2]
    simp only [List.length_cons, List.length_append, List.length_map]
    omega
end Go.Pe.Tryd
end
section
namespace Go.Pe.Tryd
open Go.Proofs Go.RowKit
open Go.Lib (join itoa joinTail)
set_option maxRecDepth 100000
set_option linter.unusedSimpArgs false
set_option linter.unusedVariables false
theorem part_one {c : UInt8} {a a' b b' : List UInt8} (h : a ++ c :: b = a' ++ c :: b') (ha : c ∉ a) (ha' : c ∉ a') : a = a' ∧ b = b' := by
  have h1 := cut_at (b := b) ha
  rw [h, cut_at ha'] at h1
  simp only [Prod.mk.injEq, and_true] at h1
  exact ⟨h1.1.symm, h1.2.symm⟩
theorem join_no {c : UInt8} (hc : c ≠ 32) : ∀ {ws : List (List UInt8)}, (∀ w ∈ ws, c ∉ w) → c ∉ join ws [32]
  | [], _ => by simp [Lib.join_nil]
  | [w], h => by rw [Lib.join_one]; exact h w (by simp)
  | w :: y :: r, h => by
    rw [join_two]
    simp only [List.mem_append, List.mem_cons, not_or]
    exact ⟨h w (by simp), hc, join_no hc (ws := y :: r) fun x hx => h x (by simp [hx])⟩
theorem line_no {d : Deed} (h : isDeed d = true) : (10 : UInt8) ∉ line d := by
  obtain ⟨x, hx, hm, h1, h2, h3, h4⟩ := isDeed_iff h
  unfold line
  rw [hx]
  exact join_no (by decide) (words_no hm h4 (by decide))
theorem first_no {S : List (List UInt8)} {L : List UInt8} {li cl : Int} (h : begins S L li cl = true) : (10 : UInt8) ∉ first S L li cl := join_no (by decide) (firstW_no h (by decide))
theorem linesOf_cons (d : Deed) (D : List Deed) : linesOf (d :: D) = line d ++ 10 :: linesOf D := by simp [linesOf]
def Seg (s : List UInt8) : Prop := ∀ w ∈ splitC 10 s, w.length ≤ 900000
theorem seg_small {s : List UInt8} (h : s.length ≤ 900000) : Seg s := fun w hw => by have := splitC_le s w hw; omega
theorem seg_at {a b : List UInt8} (ha : (10 : UInt8) ∉ a) : Seg (a ++ 10 :: b) ↔ (a.length ≤ 900000 ∧ Seg b) := by
  unfold Seg
  rw [splitC_at ha]
  simp
theorem seg_none {a : List UInt8} (ha : (10 : UInt8) ∉ a) : Seg a ↔ a.length ≤ 900000 := by
  unfold Seg
  rw [splitC_none ha]
  simp
theorem seg_lines {D : List Deed} (h : ∀ d ∈ D, isDeed d = true) : Seg (linesOf D) := by
  induction D with
  | nil => exact seg_small (by simp [linesOf])
  | cons d D ih =>
    have hd := h d (by simp)
    rw [linesOf_cons, seg_at (line_no hd)]
    exact ⟨by have := line_len hd; omega, ih fun x hx => h x (by simp [hx])⟩
theorem seg_text {S : List (List UInt8)} {L : List UInt8} {li cl : Int} {D : List Deed} (h : right S L li cl D = true) : Seg (textOf S L li cl D) := by
  obtain ⟨h1, h2, h3⟩ := right_iff h
  rw [textOf, seg_at (first_no h1)]
  exact ⟨by have := first_len h1; omega, seg_lines h3⟩
theorem cutF_eq (s : List UInt8) (h : s.length ≤ 8000000) : cutF (s, (([10] : List UInt8), ())) = some ((Lib.cut s [10]).1, (Lib.cut s [10]).2.1, (Lib.cut s [10]).2.2, ()) := by
  show (if s.length < 4294967281 then some ((Lib.cut s [10]).1, (Lib.cut s [10]).2.1, (Lib.cut s [10]).2.2, ()) else none) = _
  rw [if_pos (by omega)]
theorem lines_loop (L : List UInt8) (li cl : Int) (S : List (List UInt8)) : ∀ (m : Nat) (rest : List UInt8) (D : List Deed) (no k : Nat), D.length + m = 201 → m + 1 ≤ k → rest.length ≤ 8000000 → Seg rest → D.length ≤ 200 → no + m ≤ 1000 →
    (∃ no' : Nat, no ≤ no' ∧ iter f7_p1_st k (f7_p1_y rest (no : Int) [] 0 0 L li cl S D) = some (.inr (f7_p1_o1_y 250 (no' : Int) [] 0 0)) ∧ ∀ D', (∀ d ∈ D', isDeed d = true) → D.length + D'.length ≤ 200 → rest ≠ linesOf D') ∨
    (∃ D', iter f7_p1_st k (f7_p1_y rest (no : Int) [] 0 0 L li cl S D) = some (.inl (f7_p1_o0_y [] 0 0 L li cl S (D ++ D'))) ∧ rest = linesOf D' ∧ (∀ d ∈ D', isDeed d = true) ∧ D.length + D'.length ≤ 200) := by
  intro m
  induction m with
  | zero => intro rest D no k h1 h2 h3 h4 h5 h6; omega
  | succ m ih =>
    intro rest D no k h1 h2 h3 h4 h5 h6
    obtain ⟨k, rfl⟩ : ∃ j, k = j + 1 := ⟨k - 1, by omega⟩
    rw [iter, f7_p1_eq]
    by_cases hr : rest = []
    · subst hr
      rw [show (([] : List UInt8) != []) = false from rfl, cond_false]
      exact .inr ⟨[], by rw [List.append_nil], rfl, by simp, by simpa using h5⟩
    · rw [show (rest != []) = true from by simpa using hr, cond_true, cutF_eq rest h3, Option.bind_some]
      by_cases hc : (10 : UInt8) ∈ rest
      · obtain ⟨a, b, rfl, ha⟩ := mem_part hc
        rw [cut_at ha]
        dsimp only
        rw [seg_at ha] at h4
        obtain ⟨d, ok, e1, e2, e3⟩ := deed_eq a h4.1
        rw [e1, Option.bind_some, f7_p0_eq]
        dsimp only
        rw [Bool.not_true, cond_false]
        have hd0 : ∀ (d0 : Deed) (D' : List Deed), isDeed d0 = true → a ++ 10 :: b = linesOf (d0 :: D') → a = line d0 ∧ b = linesOf D' := fun d0 D' hd e => by
          rw [linesOf_cons] at e
          exact part_one e ha (line_no hd)
        cases ok with
        | false =>
          rw [Bool.not_false, cond_true, Option.bind_some]
          simp only [f7_p0_o0_x6_y, f7_p0_o0_x10_y, f7_p0_o0_x57_y, f7_p0_o0_r0_1_y, f7_p0_o0_r0_2_y, f7_p0_o0_r0_3_y, f7_p0_o0_r1_1_y, f7_p0_o0_r1_2_y, f7_p0_o0_r1_3_y, f7_p0_o0_r2_0_y, f7_p0_o0_r2_1_y, f7_p0_o0_r2_2_y, f7_p0_o0_l0_y, f7_p0_o0_l1_y, cond_true]
          refine .inl ⟨no, Nat.le_refl _, rfl, fun D' hD' hlen e => ?_⟩
          cases D' with
          | nil => simp [linesOf] at e
          | cons d0 D' =>
            obtain ⟨q1, _⟩ := hd0 d0 D' (hD' d0 (by simp)) e
            have := (e3 d0 (hD' d0 (by simp)) q1).1
            cases this
        | true =>
          obtain ⟨g1, g2⟩ := e2 rfl
          rw [Bool.not_true, cond_false, Option.bind_some]
          simp only [f7_p0_o0_x6_y, f7_p0_o0_x10_y, f7_p0_o0_x57_y, f7_p0_o0_r0_1_y, f7_p0_o0_r0_2_y, f7_p0_o0_r0_3_y, f7_p0_o0_r1_1_y, f7_p0_o0_r1_2_y, f7_p0_o0_r1_3_y, f7_p0_o0_r2_0_y, f7_p0_o0_r2_1_y, f7_p0_o0_r2_2_y, f7_p0_o0_l0_y, f7_p0_o0_l1_y]
          by_cases h200 : D.length = 200
          · rw [show ((D.length : Int) == 200) = true from by rw [h200]; rfl, cond_true]
            refine .inl ⟨no, Nat.le_refl _, rfl, fun D' hD' hlen e => ?_⟩
            have : D' = [] := List.eq_nil_of_length_eq_zero (by omega)
            subst this
            simp [linesOf] at e
          · rw [show ((D.length : Int) == 200) = false from by simp; omega, cond_false, appOk, if_pos (by simp; omega), inc no (by omega)]
            have := ih b (D ++ [(d.1, (d.2.1, d.2.2))]) (no + 1) k (by simp; omega) (by omega) (by simp at h3; omega) h4.2 (by simp; omega) (by omega)
            rcases this with ⟨no', q1, q2, q3⟩ | ⟨D', q1, q2, q3, q4⟩
            · refine .inl ⟨no', by omega, q2, fun D' hD' hlen e => ?_⟩
              cases D' with
              | nil => simp [linesOf] at e
              | cons d0 D' =>
                obtain ⟨p1, p2⟩ := hd0 d0 D' (hD' d0 (by simp)) e
                exact q3 D' (fun x hx => hD' x (by simp [hx])) (by simp at hlen ⊢; omega) p2
            · refine .inr ⟨d :: D', by rw [q1]; simp, ?_, fun x hx => ?_, by simp at q4 ⊢; omega⟩
              · rw [linesOf_cons, g2, q2]
              · rcases List.mem_cons.1 hx with rfl | hx
                · exact g1
                · exact q3 x hx
      · rw [cut_none hc]
        dsimp only
        rw [seg_none hc] at h4
        obtain ⟨d, ok, e1, e2, e3⟩ := deed_eq rest h4
        rw [e1, Option.bind_some, f7_p0_eq]
        dsimp only
        rw [Bool.not_false, cond_true, Option.bind_some]
        simp only [f7_p0_o0_x6_y, f7_p0_o0_x10_y, f7_p0_o0_x57_y, f7_p0_o0_r0_1_y, f7_p0_o0_r0_2_y, f7_p0_o0_r0_3_y, f7_p0_o0_r1_1_y, f7_p0_o0_r1_2_y, f7_p0_o0_r1_3_y, f7_p0_o0_r2_0_y, f7_p0_o0_r2_1_y, f7_p0_o0_r2_2_y, f7_p0_o0_l0_y, f7_p0_o0_l1_y, cond_true]
        refine .inl ⟨no, Nat.le_refl _, rfl, fun D' hD' hlen e => ?_⟩
        cases D' with
        | nil => exact hr (by simpa [linesOf] using e)
        | cons d0 D' => exact hc (by rw [e, linesOf_cons]; simp)
theorem parse_eq (s : List UInt8) (hl : s.length ≤ 8000000) (hS : Seg s) :
    (∃ no : Nat, 1 ≤ no ∧ f7_F (s, ()) = some (([], ([], (0, (0, ([], ()))))), (250, ((no : Int), ()))) ∧ ((∀ S L li cl rest, begins S L li cl = true → s ≠ first S L li cl ++ 10 :: rest) → no = 1) ∧ ∀ S L li cl D, right S L li cl D = true → s ≠ textOf S L li cl D) ∨
    (∃ S L li cl D, f7_F (s, ()) = some ((S, (L, (li, (cl, (D, ()))))), (0, (0, ()))) ∧ right S L li cl D = true ∧ s = textOf S L li cl D) := by
  rw [f7_eq, cutF_eq s hl, Option.bind_some]
  by_cases hc : (10 : UInt8) ∈ s
  · obtain ⟨a, b, rfl, ha⟩ := mem_part hc
    rw [cut_at ha]
    dsimp only
    rw [seg_at ha] at hS
    obtain ⟨S, L, li, cl, ok, e1, e2, e3⟩ := begin_eq a hS.1
    rw [e1, Option.bind_some, f7_p2_eq, Bool.not_true, cond_false, Option.bind_some]
    simp only [h17_o_x0_1_y, h17_o_x0_2_y, h17_o_x0_3_y, h17_o_x1_y, h17_o_l0_y, f7_p2_o0_x6_y, f7_p2_o0_x29_y, f7_p2_o0_r0_1_y, f7_p2_o0_r0_2_y, f7_p2_o0_r0_3_y, f7_p2_o0_r1_1_y, f7_p2_o0_r1_2_y, f7_p2_o0_r1_3_y, f7_p2_o0_l0_y]
    cases ok with
    | false =>
      rw [Bool.not_false, cond_true]
      refine .inl ⟨1, Nat.le_refl _, rfl, fun _ => rfl, fun S0 L0 li0 cl0 D0 h0 e => ?_⟩
      obtain ⟨g1, g2, g3⟩ := right_iff h0
      obtain ⟨p1, p2⟩ := part_one e ha (first_no g1)
      have := (e3 S0 L0 li0 cl0 g1 p1).1
      cases this
    | true =>
      rw [Bool.not_true, cond_false]
      obtain ⟨g1, g2⟩ := e2 rfl
      have := lines_loop L li cl S 201 b [] 2 (fuelOf f7_p1_sh (f7_p1_y b ((2 : Nat) : Int) [] 0 0 L li cl S [])) (by simp) (by rw [fuel_def]; omega) (by simp at hl; omega) hS.2 (by simp) (by omega)
      rcases this with ⟨no', q1, q2, q3⟩ | ⟨D', q1, q2, q3, q4⟩
      · have e0 : go f7_p1_st (f7_p1_y b (2 : Int) ([] : List UInt8) (0 : Int) (0 : Int) L li cl S ([] : List Deed)) = _ := q2
        rw [e0, Option.bind_some]
        dsimp only
        simp only [f7_p1_o1_x3_y, f7_p1_o1_x4_y, f7_p1_o1_r0_1_y, f7_p1_o1_r0_2_y, f7_p1_o1_r0_3_y]
        refine .inl ⟨no', by omega, rfl, fun h => absurd (by rw [g2]) (h S L li cl b g1), fun S0 L0 li0 cl0 D0 h0 e => ?_⟩
        obtain ⟨k1, k2, k3⟩ := right_iff h0
        obtain ⟨p1, p2⟩ := part_one e ha (first_no k1)
        exact q3 D0 k3 (by simpa using k2) p2
      · have e0 : go f7_p1_st (f7_p1_y b (2 : Int) ([] : List UInt8) (0 : Int) (0 : Int) L li cl S ([] : List Deed)) = _ := q1
        rw [e0, Option.bind_some]
        dsimp only
        simp only [f7_p1_o0_r0_1_y, f7_p1_o0_r0_2_y, f7_p1_o0_r0_3_y, f7_p1_o0_r1_1_y, f7_p1_o0_r1_2_y, f7_p1_o0_r1_3_y, f7_p1_o0_l0_y, f7_p1_o0_l1_y, List.nil_append]
        refine .inr ⟨S, L, li, cl, D', rfl, ?_, by rw [textOf, g2, q2]⟩
        unfold right
        rw [g1]
        simp only [Bool.true_and, Bool.and_eq_true, decide_eq_true_eq, List.all_eq_true]
        exact ⟨by simp at q4; omega, q3⟩
  · rw [cut_none hc]
    dsimp only
    rw [seg_none hc] at hS
    obtain ⟨S, L, li, cl, ok, e1, e2, e3⟩ := begin_eq s hS
    rw [e1, Option.bind_some, f7_p2_eq, Bool.not_false, cond_true, Option.bind_some]
    simp only [h17_o_x0_1_y, h17_o_x0_2_y, h17_o_x0_3_y, h17_o_x1_y, h17_o_l0_y, f7_p2_o0_x6_y, f7_p2_o0_x29_y, f7_p2_o0_r0_1_y, f7_p2_o0_r0_2_y, f7_p2_o0_r0_3_y, f7_p2_o0_r1_1_y, f7_p2_o0_r1_2_y, f7_p2_o0_r1_3_y, f7_p2_o0_l0_y, cond_true]
    refine .inl ⟨1, Nat.le_refl _, rfl, fun _ => rfl, fun S0 L0 li0 cl0 D0 h0 e => hc (by rw [e, textOf]; simp)⟩
theorem first_inj {S S' : List (List UInt8)} {L L' : List UInt8} {li cl li' cl' : Int} (h : begins S L li cl = true) (h' : begins S' L' li' cl' = true) (e : first S L li cl = first S' L' li' cl') : S = S' ∧ L = L' ∧ li = li' ∧ cl = cl' := by
  obtain ⟨S0, L0, li0, cl0, ok, _, _, h3⟩ := begin_eq (first S L li cl) (by have := first_len h; omega)
  obtain ⟨_, a1, a2, a3, a4⟩ := h3 S L li cl h rfl
  obtain ⟨_, b1, b2, b3, b4⟩ := h3 S' L' li' cl' h' e
  exact ⟨a1.symm.trans b1, a2.symm.trans b2, a3.symm.trans b3, a4.symm.trans b4⟩
theorem lines_inj : ∀ {D D' : List Deed}, (∀ d ∈ D, isDeed d = true) → (∀ d ∈ D', isDeed d = true) → linesOf D = linesOf D' → D = D'
  | [], [], _, _, _ => rfl
  | [], d :: D', _, _, e => by rw [linesOf_cons] at e; simp [linesOf] at e
  | d :: D, [], _, _, e => by rw [linesOf_cons] at e; simp [linesOf] at e
  | d :: D, d' :: D', h, h', e => by
    rw [linesOf_cons, linesOf_cons] at e
    have hd := h d (by simp)
    have hd' := h' d' (by simp)
    obtain ⟨e1, e2⟩ := part_one e (line_no hd) (line_no hd')
    obtain ⟨d0, ok, _, _, h3⟩ := deed_eq (line d) (by have := line_len hd; omega)
    have q1 := (h3 d hd rfl).2
    have q2 := (h3 d' hd' e1).2
    rw [← q1, ← q2, lines_inj (fun x hx => h x (by simp [hx])) (fun x hx => h' x (by simp [hx])) e2]
theorem text_inj {S S' : List (List UInt8)} {L L' : List UInt8} {li cl li' cl' : Int} {D D' : List Deed} (h : right S L li cl D = true) (h' : right S' L' li' cl' D' = true) (e : textOf S L li cl D = textOf S' L' li' cl' D') : S = S' ∧ L = L' ∧ li = li' ∧ cl = cl' ∧ D = D' := by
  obtain ⟨h1, h2, h3⟩ := right_iff h
  obtain ⟨k1, k2, k3⟩ := right_iff h'
  obtain ⟨e1, e2⟩ := part_one e (first_no h1) (first_no k1)
  obtain ⟨a1, a2, a3, a4⟩ := first_inj h1 k1 e1
  exact ⟨a1, a2, a3, a4, lines_inj h3 k3 e2⟩
theorem parse_text {S : List (List UInt8)} {L : List UInt8} {li cl : Int} {D : List Deed} (h : right S L li cl D = true) : f7_F (textOf S L li cl D, ()) = some ((S, (L, (li, (cl, (D, ()))))), (0, (0, ()))) := by
  rcases parse_eq (textOf S L li cl D) (text_len h) (seg_text h) with ⟨no, _, _, _, h4⟩ | ⟨S', L', li', cl', D', h1, h2, h3⟩
  · exact absurd rfl (h4 S L li cl D h)
  · obtain ⟨rfl, rfl, rfl, rfl, rfl⟩ := text_inj h h2 h3
    exact h1
end Go.Pe.Tryd
end
