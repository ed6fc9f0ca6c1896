/- Texts of the proof, what is used of them: GV3q, SortK, SortTryd, GV5, GV5q, Tac, LoopT, XV1. -/
import Derived.Shelf.SlSortCmp.WholeK
import Derived.Shelf.SlSortCmp.NoneTotal
import Derived.Shelf.SlGeneric
import Derived.WalkKit
import Derived.ProofKit
import Derived.Test.YtgghmllnhaahgaaDoorProg
import Derived.Test.YtgghmllnhaahgaaDoorPeZKeeps4
section
set_option linter.unusedSectionVars false
set_option linter.unusedVariables false
set_option linter.unusedSimpArgs false
namespace Go.Pe.Tryd
open Go.Proofs Go.RowKit
set_option maxRecDepth 100000
set_option linter.unusedVariables false
def h35_y (l0 : List Int) : h35_I.den := (((), ()), (((), ((), ())), ()), (l0, ()))
def h35_o_y (x0 : List UInt8) : h35_O.den := ((x0, ()), (), ())
def h35_o_x0 (z : h35_O.den) : List UInt8 := z.1.1
@[simp] theorem h35_o_x0_y (x0 : List UInt8) : h35_o_x0 (h35_o_y x0) = x0 := id rfl
def h71_y (l0 : List Int) : h71_I.den := (((), ()), (((), ((), ())), ()), (l0, ()))
def h71_o_l0 (z : h71_O.den) : List Int := z.2.2.1
def f16_p0_y (x1 : Int) (x5 : Int) (x9 : List V) (x10 : Int) (x11 : Int) : f16_p0_sh.den := (((), (x1, ((), ((), ((), (x5, ((), ((), ((), (x9, (x10, (x11, ((), ((), ((), ((), ((), ((), ((), ((), ((), ((), ((), ((), ((), ((), ((), ((), ())))))))))))))))))))))))))))), (), ())
def f16_p0_o0_y (x5 : Int) : f16_p0_o0.den := (((), ((), ((), ((), ((), (x5, ((), ((), ((), ((), ((), ((), ((), ((), ((), ((), ((), ((), ((), ((), ((), ((), ((), ((), ((), ((), ((), ((), ())))))))))))))))))))))))))))), (), ())
def f16_p0_o0_x5 (z : f16_p0_o0.den) : Int := z.1.2.2.2.2.2.1
@[simp] theorem f16_p0_o0_x5_y (x5 : Int) : f16_p0_o0_x5 (f16_p0_o0_y x5) = x5 := id rfl
def f16_p0_o1_y (x4 : Int) : f16_p0_o1.den := (((), ((), ((), ((), (x4, ((), ((), ((), ((), ((), ((), ((), ((), ((), ((), ((), ((), ((), ((), ((), ((), ((), ((), ((), ((), ((), ((), ((), ())))))))))))))))))))))))))))), (), ())
def f16_p0_o1_x4 (z : f16_p0_o1.den) : Int := z.1.2.2.2.2.1
@[simp] theorem f16_p0_o1_x4_y (x4 : Int) : f16_p0_o1_x4 (f16_p0_o1_y x4) = x4 := id rfl
theorem f16_p0_eq (G : argsDen f16_ps → Option (argsDen f16_rs)) (hG : Sound Tryd.prog 16 (pfun G)) (rec : f16_p0_sh.den → Option (OutDen f16_p0_outs)) (x1 : Int) (x5 : Int) (x9 : List V) (x10 : Int) (x11 : Int) : f16_p0_st G hG rec (f16_p0_y x1 x5 x9 x10 x11) = (bif (decide (x11 < x10)) then ((nth x9 x11).bind fun y1 => bif (decide (x5 > x1)) then (some (.inr ((f16_p0_o1_y x5)))) else ((G ((y1.kind, (y1.n, (y1.s, (y1.items, (y1.keys, ()))))), ((IntKind.i64.wrap (x1 - x5)), ()))).bind fun r2 => rec (f16_p0_y x1 (IntKind.i64.wrap (x5 + r2.1)) x9 x10 (IntKind.i64.wrap (x11 + (1 : Int)))))) else (some (.inl (f16_p0_o0_y x5)))) := by kernel_rfl
theorem f16_eq (G : argsDen f16_ps → Option (argsDen f16_rs)) (hG : Sound Tryd.prog 16 (pfun G)) (a0_0 : Int) (a0_1 : Int) (a0_2 : List UInt8) (a0_3 : List V) (a0_4 : List (List UInt8)) (a1 : Int) : f16_b G hG ((a0_0, (a0_1, (a0_2, (a0_3, (a0_4, ()))))), (a1, ())) = ((go (f16_p0_st G hG) (f16_p0_y a1 (1 : Int) a0_3 (a0_3.length : Int) (0 : Int))).bind fun o3 => (match o3 with | .inl z4 => some ((f16_p0_o0_x5 z4), ()) | .inr o5 => some ((f16_p0_o1_x4 o5), ()))) := by kernel_rfl
theorem f12_eq (a0_0 : Int) (a0_1 : Int) (a0_2 : List UInt8) (a0_3 : List V) (a0_4 : List (List UInt8)) : f12_F ((a0_0, (a0_1, (a0_2, (a0_3, (a0_4, ()))))), ()) = ((f16_F ((a0_0, (a0_1, (a0_2, (a0_3, (a0_4, ()))))), ((2100 : Int), ()))).bind fun r6 => some ((decide (r6.1 > (2100 : Int))), ())) := by kernel_rfl
theorem f23_eq (a0 : Int) : f23_F (a0, ()) = (some (((1 : Int), (a0, (([] : List UInt8), (([] : List V), (([] : List (List UInt8)), ()))))), ())) := by kernel_rfl
theorem f22_eq (a0 : List UInt8) : f22_F (a0, ()) = (some (((2 : Int), ((0 : Int), (a0, (([] : List V), (([] : List (List UInt8)), ()))))), ())) := by kernel_rfl
theorem f28_eq (a0 : List V) : f28_F (a0, ()) = (some (((3 : Int), ((0 : Int), (([] : List UInt8), (a0, (([] : List (List UInt8)), ()))))), ())) := by kernel_rfl
def f17_p0_y (x3 : Int) (x7 : List V) (x8 : Int) (x9 : Int) : f17_p0_sh.den := (((), ((), ((), (x3, ((), ((), ((), (x7, (x8, (x9, ((), ((), ((), ((), ((), ((), ((), ((), ((), ((), ())))))))))))))))))))), (), ())
def f17_p0_o0_y (x3 : Int) : f17_p0_o0.den := (((), ((), ((), (x3, ((), ((), ((), ((), ((), ((), ((), ((), ((), ((), ((), ((), ((), ((), ((), ((), ())))))))))))))))))))), (), ())
def f17_p0_o0_x3 (z : f17_p0_o0.den) : Int := z.1.2.2.2.1
@[simp] theorem f17_p0_o0_x3_y (x3 : Int) : f17_p0_o0_x3 (f17_p0_o0_y x3) = x3 := id rfl
theorem f17_p0_eq (G : argsDen f17_ps → Option (argsDen f17_rs)) (hG : Sound Tryd.prog 17 (pfun G)) (rec : f17_p0_sh.den → Option (OutDen f17_p0_outs)) (x3 : Int) (x7 : List V) (x8 : Int) (x9 : Int) : f17_p0_st G hG rec (f17_p0_y x3 x7 x8 x9) = (bif (decide (x9 < x8)) then ((nth x7 x9).bind fun y7 => (G ((y7.kind, (y7.n, (y7.s, (y7.items, (y7.keys, ()))))), ())).bind fun r8 => rec (f17_p0_y (maxI x3 r8.1) x7 x8 (IntKind.i64.wrap (x9 + (1 : Int))))) else (some ((f17_p0_o0_y x3)))) := by kernel_rfl
theorem f17_eq (G : argsDen f17_ps → Option (argsDen f17_rs)) (hG : Sound Tryd.prog 17 (pfun G)) (a0_0 : Int) (a0_1 : Int) (a0_2 : List UInt8) (a0_3 : List V) (a0_4 : List (List UInt8)) : f17_b G hG ((a0_0, (a0_1, (a0_2, (a0_3, (a0_4, ()))))), ()) = ((go (f17_p0_st G hG) (f17_p0_y (0 : Int) a0_3 (a0_3.length : Int) (0 : Int))).bind fun o9 => some ((IntKind.i64.wrap ((f17_p0_o0_x3 o9) + (1 : Int))), ())) := by kernel_rfl
def f15_p0_y (x3 : Int) (x7 : List V) (x8 : Int) (x9 : Int) : f15_p0_sh.den := (((), ((), ((), (x3, ((), ((), ((), (x7, (x8, (x9, ((), ((), ((), ((), ((), ((), ((), ((), ((), ()))))))))))))))))))), (), ())
def f15_p0_o0_y (x3 : Int) : f15_p0_o0.den := (((), ((), ((), (x3, ((), ((), ((), ((), ((), ((), ((), ((), ((), ((), ((), ((), ((), ((), ((), ()))))))))))))))))))), (), ())
def f15_p0_o0_x3 (z : f15_p0_o0.den) : Int := z.1.2.2.2.1
@[simp] theorem f15_p0_o0_x3_y (x3 : Int) : f15_p0_o0_x3 (f15_p0_o0_y x3) = x3 := id rfl
theorem f15_p0_eq (G : argsDen f15_ps → Option (argsDen f15_rs)) (hG : Sound Tryd.prog 15 (pfun G)) (rec : f15_p0_sh.den → Option (OutDen f15_p0_outs)) (x3 : Int) (x7 : List V) (x8 : Int) (x9 : Int) : f15_p0_st G hG rec (f15_p0_y x3 x7 x8 x9) = (bif (decide (x9 < x8)) then ((nth x7 x9).bind fun y10 => (G ((y10.kind, (y10.n, (y10.s, (y10.items, (y10.keys, ()))))), ())).bind fun r11 => rec (f15_p0_y (IntKind.i64.wrap (x3 + r11.1)) x7 x8 (IntKind.i64.wrap (x9 + (1 : Int))))) else (some ((f15_p0_o0_y x3)))) := by kernel_rfl
theorem f15_eq (G : argsDen f15_ps → Option (argsDen f15_rs)) (hG : Sound Tryd.prog 15 (pfun G)) (a0_0 : Int) (a0_1 : Int) (a0_2 : List UInt8) (a0_3 : List V) (a0_4 : List (List UInt8)) : f15_b G hG ((a0_0, (a0_1, (a0_2, (a0_3, (a0_4, ()))))), ()) = ((go (f15_p0_st G hG) (f15_p0_y (1 : Int) a0_3 (a0_3.length : Int) (0 : Int))).bind fun o12 => some ((f15_p0_o0_x3 o12), ())) := by kernel_rfl
theorem f75_eq (a0 : Int) : f75_F (a0, ()) = (some ((decide (a0 < (32 : Int))), ())) := by kernel_rfl
def h99_y (x0 : List Int) : h99_I.den := ((x0, (((), ()), ())), (), ())
def h99_o_y (x0 : Int) : h99_O.den := ((x0, ()), (), ())
def h99_o_x0 (z : h99_O.den) : Int := z.1.1
@[simp] theorem h99_o_x0_y (x0 : Int) : h99_o_x0 (h99_o_y x0) = x0 := id rfl
def h99_p0_y (x0 : List Int) (x7 : Int) (x8 : Int) : h99_p0_sh.den := ((x0, (((), ()), ((), ((), ((), ((), ((), (x7, (x8, ((), ((), ((), ((), ((), ((), ((), ((), ((), ((), ()))))))))))))))))))), (), ())
def h99_p0_o0_y : h99_p0_o0.den := (((), ((), ((), ((), ((), ((), ((), ((), ((), ((), ((), ((), ((), ((), ((), ((), ((), ((), ((), ()))))))))))))))))))), (), ())
def h99_p0_o1_y (x4 : Int) : h99_p0_o1.den := (((), ((), ((), ((), (x4, ((), ((), ((), ((), ((), ((), ((), ((), ((), ((), ((), ((), ((), ((), ()))))))))))))))))))), (), ())
def h99_p0_o1_x4 (z : h99_p0_o1.den) : Int := z.1.2.2.2.2.1
@[simp] theorem h99_p0_o1_x4_y (x4 : Int) : h99_p0_o1_x4 (h99_p0_o1_y x4) = x4 := id rfl
theorem h99_p0_eq (rec : h99_p0_sh.den → Option (OutDen h99_p0_outs)) (x0 : List Int) (x7 : Int) (x8 : Int) : h99_p0_st rec (h99_p0_y x0 x7 x8) = (bif (decide (x8 < x7)) then ((nth x0 x8).bind fun y13 => (f75_F (y13, ())).bind fun r14 => bif r14.1 then (some (.inr ((h99_p0_o1_y x8)))) else (rec (h99_p0_y x0 x7 (IntKind.i64.wrap (x8 + (1 : Int)))))) else (some (.inl h99_p0_o0_y))) := by kernel_rfl
theorem h99_eq (x0 : List Int) : h99_F (h99_y x0) = ((go h99_p0_st (h99_p0_y x0 (x0.length : Int) (0 : Int))).bind fun o15 => (match o15 with | .inl z16 => some (h99_o_y (-1 : Int)) | .inr o17 => some (h99_o_y (h99_p0_o1_x4 o17)))) := by kernel_rfl
def h74_y (x0 : List Int) : h74_I.den := ((x0, (((), ()), ())), (), ())
def h74_o_y (x0 : Bool) : h74_O.den := ((x0, ()), (), ())
def h74_o_x0 (z : h74_O.den) : Bool := z.1.1
@[simp] theorem h74_o_x0_y (x0 : Bool) : h74_o_x0 (h74_o_y x0) = x0 := id rfl
theorem h74_eq (x0 : List Int) : h74_F (h74_y x0) = ((h99_F (h99_y x0)).bind fun z18 => some (h74_o_y (decide ((h99_o_x0 z18) ≥ (0 : Int))))) := by kernel_rfl
theorem f57_eq (a0 : List UInt8) : f57_F (a0, ()) = (bif (decide ((a0.length : Int) ≤ (4000 : Int))) then ((h74_F (h74_y (bytesOf a0))).bind fun z19 => some ((!(h74_o_x0 z19)), ())) else (some (false, ()))) := by kernel_rfl
def f58_p0_y (x0 : List (List UInt8)) (x3 : Int) (x4 : List UInt8) (x5 : List (List UInt8)) (x6 : Int) (x7 : Int) : f58_p0_sh.den := ((x0, ((), ((), (x3, (x4, (x5, (x6, (x7, ((), ((), ((), ((), ((), ((), ((), ((), ((), ((), ((), ((), ((), ((), ((), ((), ((), ((), ((), ((), ((), ()))))))))))))))))))))))))))))), (), ())
def f58_p0_o0_y (x0 : List (List UInt8)) (x5 : List (List UInt8)) (x6 : Int) (x7 : Int) (x27 : Bool) : f58_p0_o0.den := ((x0, ((), ((), ((), ((), (x5, (x6, (x7, ((), ((), ((), ((), ((), ((), ((), ((), ((), ((), ((), ((), ((), ((), ((), ((), ((), ((), ((), (x27, ((), ()))))))))))))))))))))))))))))), (), ())
def f58_p0_o0_x0 (z : f58_p0_o0.den) : List (List UInt8) := z.1.1
def f58_p0_o0_x5 (z : f58_p0_o0.den) : List (List UInt8) := z.1.2.2.2.2.2.1
def f58_p0_o0_x6 (z : f58_p0_o0.den) : Int := z.1.2.2.2.2.2.2.1
def f58_p0_o0_x7 (z : f58_p0_o0.den) : Int := z.1.2.2.2.2.2.2.2.1
def f58_p0_o0_x27 (z : f58_p0_o0.den) : Bool := z.1.2.2.2.2.2.2.2.2.2.2.2.2.2.2.2.2.2.2.2.2.2.2.2.2.2.2.2.1
@[simp] theorem f58_p0_o0_x0_y (x0 : List (List UInt8)) (x5 : List (List UInt8)) (x6 : Int) (x7 : Int) (x27 : Bool) : f58_p0_o0_x0 (f58_p0_o0_y x0 x5 x6 x7 x27) = x0 := id rfl
@[simp] theorem f58_p0_o0_x5_y (x0 : List (List UInt8)) (x5 : List (List UInt8)) (x6 : Int) (x7 : Int) (x27 : Bool) : f58_p0_o0_x5 (f58_p0_o0_y x0 x5 x6 x7 x27) = x5 := id rfl
@[simp] theorem f58_p0_o0_x6_y (x0 : List (List UInt8)) (x5 : List (List UInt8)) (x6 : Int) (x7 : Int) (x27 : Bool) : f58_p0_o0_x6 (f58_p0_o0_y x0 x5 x6 x7 x27) = x6 := id rfl
@[simp] theorem f58_p0_o0_x7_y (x0 : List (List UInt8)) (x5 : List (List UInt8)) (x6 : Int) (x7 : Int) (x27 : Bool) : f58_p0_o0_x7 (f58_p0_o0_y x0 x5 x6 x7 x27) = x7 := id rfl
@[simp] theorem f58_p0_o0_x27_y (x0 : List (List UInt8)) (x5 : List (List UInt8)) (x6 : Int) (x7 : Int) (x27 : Bool) : f58_p0_o0_x27 (f58_p0_o0_y x0 x5 x6 x7 x27) = x27 := id rfl
theorem f58_p0_eq (x0 : List (List UInt8)) (x3 : Int) (x4 : List UInt8) (x5 : List (List UInt8)) (x6 : Int) (x7 : Int) : f58_p0_F (f58_p0_y x0 x3 x4 x5 x6 x7) = ((f57_F (x4, ())).bind fun r20 => bif (!r20.1) then (some ((f58_p0_o0_y x0 x5 x6 x7 true))) else (bif (decide (x3 > (0 : Int))) then ((nth x0 (IntKind.i64.wrap (x3 - (1 : Int)))).bind fun y21 => some ((f58_p0_o0_y x0 x5 x6 x7 (!(Op.bytesLess y21 x4))))) else (some ((f58_p0_o0_y x0 x5 x6 x7 false))))) := by kernel_rfl
def f58_p1_y (x0 : List (List UInt8)) (x5 : List (List UInt8)) (x6 : Int) (x7 : Int) : f58_p1_sh.den := ((x0, ((), ((), ((), ((), (x5, (x6, (x7, ((), ((), ((), ((), ((), ((), ((), ((), ((), ((), ((), ((), ((), ((), ((), ((), ((), ((), ((), ((), ((), ()))))))))))))))))))))))))))))), (), ())
def f58_p1_o0_y : f58_p1_o0.den := (((), ((), ((), ((), ((), ((), ((), ((), ((), ((), ((), ((), ((), ((), ((), ((), ((), ((), ((), ((), ((), ((), ((), ((), ((), ((), ((), ((), ((), ()))))))))))))))))))))))))))))), (), ())
def f58_p1_o1_y (x2 : Bool) : f58_p1_o1.den := (((), ((), (x2, ((), ((), ((), ((), ((), ((), ((), ((), ((), ((), ((), ((), ((), ((), ((), ((), ((), ((), ((), ((), ((), ((), ((), ((), ((), ((), ()))))))))))))))))))))))))))))), (), ())
def f58_p1_o1_x2 (z : f58_p1_o1.den) : Bool := z.1.2.2.1
@[simp] theorem f58_p1_o1_x2_y (x2 : Bool) : f58_p1_o1_x2 (f58_p1_o1_y x2) = x2 := id rfl
theorem f58_p1_eq (rec : f58_p1_sh.den → Option (OutDen f58_p1_outs)) (x0 : List (List UInt8)) (x5 : List (List UInt8)) (x6 : Int) (x7 : Int) : f58_p1_st rec (f58_p1_y x0 x5 x6 x7) = (bif (decide (x7 < x6)) then ((nth x5 x7).bind fun y22 => (f58_p0_F (f58_p0_y x0 x7 y22 x5 x6 x7)).bind fun o23 => bif (f58_p0_o0_x27 o23) then (some (.inr ((f58_p1_o1_y false)))) else (rec (f58_p1_y (f58_p0_o0_x0 o23) (f58_p0_o0_x5 o23) (f58_p0_o0_x6 o23) (IntKind.i64.wrap ((f58_p0_o0_x7 o23) + (1 : Int)))))) else (some (.inl f58_p1_o0_y))) := by kernel_rfl
theorem f58_eq (a0 : List (List UInt8)) : f58_F (a0, ()) = ((go f58_p1_st (f58_p1_y a0 a0 (a0.length : Int) (0 : Int))).bind fun o24 => (match o24 with | .inl z25 => some (true, ()) | .inr o26 => some ((f58_p1_o1_x2 o26), ()))) := by kernel_rfl
def f37_p0_y (x63 : Bool) (r0_0 : Int) (r0_1 : Int) (r0_2 : List UInt8) (r0_3 : List V) (r0_4 : List (List UInt8)) : f37_p0_sh.den := (((), ((), ((), ((), ((), ((), ((), ((), ((), ((), ((), ((), ((), ((), ((), ((), ((), ((), ((), ((), ((), ((), ((), ((), ((), ((), ((), ((), ((), ((), ((), ((), ((), ((), ((), ((), ((), ((), ((), ((), ((), ((), ((), ((), ((), ((), ((), ((), ((), ((), ((), ((), ((), ((), ((), ((), ((), ((), ((), ((), ((), ((), ((), (x63, ((), ((), ((), ((), ((), ((), ((), ((), ((), ((), ((), ((), ((), ((), ((), ((), ((), ((), ((), ((), ((), ((), ((), ()))))))))))))))))))))))))))))))))))))))))))))))))))))))))))))))))))))))))))))))))))))))), ((r0_0, (r0_1, (r0_2, (r0_3, (r0_4, ()))))), ()), ())
def f37_p0_o0_y (x2 : Bool) : f37_p0_o0.den := (((), ((), (x2, ((), ((), ((), ((), ((), ((), ((), ((), ((), ((), ((), ((), ((), ((), ((), ((), ((), ((), ((), ((), ((), ((), ((), ((), ((), ((), ((), ((), ((), ((), ((), ((), ((), ((), ((), ((), ((), ((), ((), ((), ((), ((), ((), ((), ((), ((), ((), ((), ((), ((), ((), ((), ((), ((), ((), ((), ((), ((), ((), ((), ((), ((), ((), ((), ((), ((), ((), ((), ((), ((), ((), ((), ((), ((), ((), ((), ((), ((), ((), ((), ((), ((), ((), ((), ()))))))))))))))))))))))))))))))))))))))))))))))))))))))))))))))))))))))))))))))))))))))), (), ())
def f37_p0_o0_x2 (z : f37_p0_o0.den) : Bool := z.1.2.2.1
@[simp] theorem f37_p0_o0_x2_y (x2 : Bool) : f37_p0_o0_x2 (f37_p0_o0_y x2) = x2 := id rfl
def f37_p0_o1_y : f37_p0_o1.den := (((), ((), ((), ((), ((), ((), ((), ((), ((), ((), ((), ((), ((), ((), ((), ((), ((), ((), ((), ((), ((), ((), ((), ((), ((), ((), ((), ((), ((), ((), ((), ((), ((), ((), ((), ((), ((), ((), ((), ((), ((), ((), ((), ((), ((), ((), ((), ((), ((), ((), ((), ((), ((), ((), ((), ((), ((), ((), ((), ((), ((), ((), ((), ((), ((), ((), ((), ((), ((), ((), ((), ((), ((), ((), ((), ((), ((), ((), ((), ((), ((), ((), ((), ((), ((), ((), ((), ()))))))))))))))))))))))))))))))))))))))))))))))))))))))))))))))))))))))))))))))))))))))), (), ())
theorem f37_p0_eq (x63 : Bool) (r0_0 : Int) (r0_1 : Int) (r0_2 : List UInt8) (r0_3 : List V) (r0_4 : List (List UInt8)) : f37_p0_F (f37_p0_y x63 r0_0 r0_1 r0_2 r0_3 r0_4) = (bif x63 then (bif (r0_1 == (0 : Int)) then (bif (r0_2 == ([] : List UInt8)) then (bif ((r0_4.length : Int) == (r0_3.length : Int)) then ((f58_F (r0_4, ())).bind fun r27 => some (.inl (f37_p0_o0_y r27.1))) else (some (.inl (f37_p0_o0_y false)))) else (some (.inl (f37_p0_o0_y false)))) else (some (.inl (f37_p0_o0_y false)))) else (some (.inr (f37_p0_o1_y)))) := by kernel_rfl
def f37_p1_y (r0_0 : Int) (r0_1 : Int) (r0_2 : List UInt8) (r0_3 : List V) (r0_4 : List (List UInt8)) : f37_p1_sh.den := (((), ((), ((), ((), ((), ((), ((), ((), ((), ((), ((), ((), ((), ((), ((), ((), ((), ((), ((), ((), ((), ((), ((), ((), ((), ((), ((), ((), ((), ((), ((), ((), ((), ((), ((), ((), ((), ((), ((), ((), ((), ((), ((), ((), ((), ((), ((), ((), ((), ((), ((), ((), ((), ((), ((), ((), ((), ((), ((), ((), ((), ((), ((), ((), ((), ((), ((), ((), ((), ((), ((), ((), ((), ((), ((), ((), ((), ((), ((), ((), ((), ((), ((), ((), ((), ((), ((), ()))))))))))))))))))))))))))))))))))))))))))))))))))))))))))))))))))))))))))))))))))))))), ((r0_0, (r0_1, (r0_2, (r0_3, (r0_4, ()))))), ()), ())
def f37_p1_o0_y (x3 : Bool) (r0_0 : Int) (r0_1 : Int) (r0_2 : List UInt8) (r0_3 : List V) (r0_4 : List (List UInt8)) : f37_p1_o0.den := (((), ((), ((), (x3, ((), ((), ((), ((), ((), ((), ((), ((), ((), ((), ((), ((), ((), ((), ((), ((), ((), ((), ((), ((), ((), ((), ((), ((), ((), ((), ((), ((), ((), ((), ((), ((), ((), ((), ((), ((), ((), ((), ((), ((), ((), ((), ((), ((), ((), ((), ((), ((), ((), ((), ((), ((), ((), ((), ((), ((), ((), ((), ((), ((), ((), ((), ((), ((), ((), ((), ((), ((), ((), ((), ((), ((), ((), ((), ((), ((), ((), ((), ((), ((), ((), ((), ((), ()))))))))))))))))))))))))))))))))))))))))))))))))))))))))))))))))))))))))))))))))))))))), ((r0_0, (r0_1, (r0_2, (r0_3, (r0_4, ()))))), ()), ())
def f37_p1_o0_x3 (z : f37_p1_o0.den) : Bool := z.1.2.2.2.1
def f37_p1_o0_r0_0 (z : f37_p1_o0.den) : Int := z.2.1.1.1
def f37_p1_o0_r0_1 (z : f37_p1_o0.den) : Int := z.2.1.1.2.1
def f37_p1_o0_r0_2 (z : f37_p1_o0.den) : List UInt8 := z.2.1.1.2.2.1
def f37_p1_o0_r0_3 (z : f37_p1_o0.den) : List V := z.2.1.1.2.2.2.1
def f37_p1_o0_r0_4 (z : f37_p1_o0.den) : List (List UInt8) := z.2.1.1.2.2.2.2.1
@[simp] theorem f37_p1_o0_x3_y (x3 : Bool) (r0_0 : Int) (r0_1 : Int) (r0_2 : List UInt8) (r0_3 : List V) (r0_4 : List (List UInt8)) : f37_p1_o0_x3 (f37_p1_o0_y x3 r0_0 r0_1 r0_2 r0_3 r0_4) = x3 := id rfl
@[simp] theorem f37_p1_o0_r0_0_y (x3 : Bool) (r0_0 : Int) (r0_1 : Int) (r0_2 : List UInt8) (r0_3 : List V) (r0_4 : List (List UInt8)) : f37_p1_o0_r0_0 (f37_p1_o0_y x3 r0_0 r0_1 r0_2 r0_3 r0_4) = r0_0 := id rfl
@[simp] theorem f37_p1_o0_r0_1_y (x3 : Bool) (r0_0 : Int) (r0_1 : Int) (r0_2 : List UInt8) (r0_3 : List V) (r0_4 : List (List UInt8)) : f37_p1_o0_r0_1 (f37_p1_o0_y x3 r0_0 r0_1 r0_2 r0_3 r0_4) = r0_1 := id rfl
@[simp] theorem f37_p1_o0_r0_2_y (x3 : Bool) (r0_0 : Int) (r0_1 : Int) (r0_2 : List UInt8) (r0_3 : List V) (r0_4 : List (List UInt8)) : f37_p1_o0_r0_2 (f37_p1_o0_y x3 r0_0 r0_1 r0_2 r0_3 r0_4) = r0_2 := id rfl
@[simp] theorem f37_p1_o0_r0_3_y (x3 : Bool) (r0_0 : Int) (r0_1 : Int) (r0_2 : List UInt8) (r0_3 : List V) (r0_4 : List (List UInt8)) : f37_p1_o0_r0_3 (f37_p1_o0_y x3 r0_0 r0_1 r0_2 r0_3 r0_4) = r0_3 := id rfl
@[simp] theorem f37_p1_o0_r0_4_y (x3 : Bool) (r0_0 : Int) (r0_1 : Int) (r0_2 : List UInt8) (r0_3 : List V) (r0_4 : List (List UInt8)) : f37_p1_o0_r0_4 (f37_p1_o0_y x3 r0_0 r0_1 r0_2 r0_3 r0_4) = r0_4 := id rfl
theorem f37_p1_eq (r0_0 : Int) (r0_1 : Int) (r0_2 : List UInt8) (r0_3 : List V) (r0_4 : List (List UInt8)) : f37_p1_F (f37_p1_y r0_0 r0_1 r0_2 r0_3 r0_4) = (bif ((r0_3.length : Int) == (0 : Int)) then (some ((f37_p1_o0_y ((r0_4.length : Int) == (0 : Int)) r0_0 r0_1 r0_2 r0_3 r0_4))) else (some ((f37_p1_o0_y false r0_0 r0_1 r0_2 r0_3 r0_4)))) := by kernel_rfl
theorem f37_eq (a0_0 : Int) (a0_1 : Int) (a0_2 : List UInt8) (a0_3 : List V) (a0_4 : List (List UInt8)) : f37_F ((a0_0, (a0_1, (a0_2, (a0_3, (a0_4, ()))))), ()) = ((f37_p1_F (f37_p1_y a0_0 a0_1 a0_2 a0_3 a0_4)).bind fun o28 => bif ((f37_p1_o0_r0_0 o28) == (1 : Int)) then (bif (f37_p1_o0_x3 o28) then (bif ((f37_p1_o0_r0_2 o28) == ([] : List UInt8)) then (bif (decide ((f37_p1_o0_r0_1 o28) ≥ (-1099511627776 : Int))) then (some ((decide ((f37_p1_o0_r0_1 o28) ≤ (1099511627776 : Int))), ())) else (some (false, ()))) else (some (false, ()))) else (some (false, ()))) else (bif ((f37_p1_o0_r0_0 o28) == (2 : Int)) then (bif (f37_p1_o0_x3 o28) then (bif ((f37_p1_o0_r0_1 o28) == (0 : Int)) then ((f57_F ((f37_p1_o0_r0_2 o28), ())).bind fun r29 => some (r29.1, ())) else (some (false, ()))) else (some (false, ()))) else (bif ((f37_p1_o0_r0_0 o28) == (3 : Int)) then (bif ((f37_p1_o0_r0_1 o28) == (0 : Int)) then (bif ((f37_p1_o0_r0_2 o28) == ([] : List UInt8)) then (some ((((f37_p1_o0_r0_4 o28).length : Int) == (0 : Int)), ())) else (some (false, ()))) else (some (false, ()))) else ((f37_p0_F (f37_p0_y ((f37_p1_o0_r0_0 o28) == (4 : Int)) (f37_p1_o0_r0_0 o28) (f37_p1_o0_r0_1 o28) (f37_p1_o0_r0_2 o28) (f37_p1_o0_r0_3 o28) (f37_p1_o0_r0_4 o28))).bind fun o30 => (match o30 with | .inl z31 => some ((f37_p0_o0_x2 z31), ()) | .inr o32 => some (false, ())))))) := by kernel_rfl
def h36_y (x0_0 : Int) (x0_1 : Int) (x0_2 : List UInt8) (x0_3 : List V) (x0_4 : List (List UInt8)) : h36_I.den := (((x0_0, (x0_1, (x0_2, (x0_3, (x0_4, ()))))), (((), ()), ())), (), ())
def h36_o_y (x0 : Bool) : h36_O.den := ((x0, ()), (), ())
def h36_o_x0 (z : h36_O.den) : Bool := z.1.1
@[simp] theorem h36_o_x0_y (x0 : Bool) : h36_o_x0 (h36_o_y x0) = x0 := id rfl
def h56_y (x0_0 : Int) (x0_1 : Int) (x0_2 : List UInt8) (x0_3 : List V) (x0_4 : List (List UInt8)) : h56_I.den := (((x0_0, (x0_1, (x0_2, (x0_3, (x0_4, ()))))), ((), ())), ((((), ()), ()), ()), ())
def h56_o_y (x0 : Bool) : h56_O.den := ((x0, ()), ((((), ()), ()), ()), ())
def h56_o_x0 (z : h56_O.den) : Bool := z.1.1
@[simp] theorem h56_o_x0_y (x0 : Bool) : h56_o_x0 (h56_o_y x0) = x0 := id rfl
theorem h56_eq (G : h36_I.den → Option h36_O.den) (hG : SoundH Tryd.prog 36 ⟨h36_I, h36_O, G⟩) (x0_0 : Int) (x0_1 : Int) (x0_2 : List UInt8) (x0_3 : List V) (x0_4 : List (List UInt8)) : h56_F G hG (h56_y x0_0 x0_1 x0_2 x0_3 x0_4) = ((G (h36_y x0_0 x0_1 x0_2 x0_3 x0_4)).bind fun z33 => some (h56_o_y (!(h36_o_x0 z33)))) := by kernel_rfl
def h73_y (x0 : List V) : h73_I.den := ((x0, (((), ((), ())), ())), ((((), ()), ()), ()), ())
def h73_o_y (x0 : Int) : h73_O.den := ((x0, ()), ((((), ()), ()), ()), ())
def h73_o_x0 (z : h73_O.den) : Int := z.1.1
@[simp] theorem h73_o_x0_y (x0 : Int) : h73_o_x0 (h73_o_y x0) = x0 := id rfl
def h73_p0_y (x0 : List V) (x7 : Int) (x8 : Int) : h73_p0_sh.den := ((x0, (((), ((), ())), ((), ((), ((), ((), ((), (x7, (x8, ((), ((), ((), ((), ((), ((), ((), ((), ((), ((), ()))))))))))))))))))), ((((), ()), ()), ()), ())
def h73_p0_o0_y : h73_p0_o0.den := (((), ((), ((), ((), ((), ((), ((), ((), ((), ((), ((), ((), ((), ((), ((), ((), ((), ((), ((), ()))))))))))))))))))), ((((), ()), ()), ()), ())
def h73_p0_o1_y (x4 : Int) : h73_p0_o1.den := (((), ((), ((), ((), (x4, ((), ((), ((), ((), ((), ((), ((), ((), ((), ((), ((), ((), ((), ((), ()))))))))))))))))))), ((((), ()), ()), ()), ())
def h73_p0_o1_x4 (z : h73_p0_o1.den) : Int := z.1.2.2.2.2.1
@[simp] theorem h73_p0_o1_x4_y (x4 : Int) : h73_p0_o1_x4 (h73_p0_o1_y x4) = x4 := id rfl
theorem h73_p0_eq (G : h36_I.den → Option h36_O.den) (hG : SoundH Tryd.prog 36 ⟨h36_I, h36_O, G⟩) (rec : h73_p0_sh.den → Option (OutDen h73_p0_outs)) (x0 : List V) (x7 : Int) (x8 : Int) : h73_p0_st G hG rec (h73_p0_y x0 x7 x8) = (bif (decide (x8 < x7)) then ((nth x0 x8).bind fun y34 => ((h56_F G hG) (h56_y y34.kind y34.n y34.s y34.items y34.keys)).bind fun z35 => bif (h56_o_x0 z35) then (some (.inr ((h73_p0_o1_y x8)))) else (rec (h73_p0_y x0 x7 (IntKind.i64.wrap (x8 + (1 : Int)))))) else (some (.inl h73_p0_o0_y))) := by kernel_rfl
theorem h73_eq (G : h36_I.den → Option h36_O.den) (hG : SoundH Tryd.prog 36 ⟨h36_I, h36_O, G⟩) (x0 : List V) : h73_F G hG (h73_y x0) = ((go (h73_p0_st G hG) (h73_p0_y x0 (x0.length : Int) (0 : Int))).bind fun o36 => (match o36 with | .inl z37 => some (h73_o_y (-1 : Int)) | .inr o38 => some (h73_o_y (h73_p0_o1_x4 o38)))) := by kernel_rfl
def h55_y (x0 : List V) : h55_I.den := ((x0, (((), ((), ())), ())), ((((), ()), ()), ()), ())
def h55_o_y (x0 : Bool) : h55_O.den := ((x0, ()), ((((), ()), ()), ()), ())
def h55_o_x0 (z : h55_O.den) : Bool := z.1.1
@[simp] theorem h55_o_x0_y (x0 : Bool) : h55_o_x0 (h55_o_y x0) = x0 := id rfl
theorem h55_eq (G : h36_I.den → Option h36_O.den) (hG : SoundH Tryd.prog 36 ⟨h36_I, h36_O, G⟩) (x0 : List V) : h55_F G hG (h55_y x0) = (((h73_F G hG) (h73_y x0)).bind fun z39 => some (h55_o_y (decide ((h73_o_x0 z39) ≥ (0 : Int))))) := by kernel_rfl
theorem h36_eq (G : h36_I.den → Option h36_O.den) (hG : SoundH Tryd.prog 36 ⟨h36_I, h36_O, G⟩) (x0_0 : Int) (x0_1 : Int) (x0_2 : List UInt8) (x0_3 : List V) (x0_4 : List (List UInt8)) : h36_b G hG (h36_y x0_0 x0_1 x0_2 x0_3 x0_4) = ((f37_F ((x0_0, (x0_1, (x0_2, (x0_3, (x0_4, ()))))), ())).bind fun r40 => bif r40.1 then (((h55_F G hG) (h55_y x0_3)).bind fun z41 => some (h36_o_y (!(h55_o_x0 z41)))) else (some (h36_o_y false))) := by kernel_rfl
theorem f19_eq (a0_0 : Int) (a0_1 : Int) (a0_2 : List UInt8) (a0_3 : List V) (a0_4 : List (List UInt8)) : f19_F ((a0_0, (a0_1, (a0_2, (a0_3, (a0_4, ()))))), ()) = ((f17_F ((a0_0, (a0_1, (a0_2, (a0_3, (a0_4, ()))))), ())).bind fun r42 => bif (decide (r42.1 ≤ (12 : Int))) then ((f15_F ((a0_0, (a0_1, (a0_2, (a0_3, (a0_4, ()))))), ())).bind fun r43 => bif (decide (r43.1 ≤ (2000 : Int))) then ((h36_F (h36_y a0_0 a0_1 a0_2 a0_3 a0_4)).bind fun z44 => some ((h36_o_x0 z44), ())) else (some (false, ()))) else (some (false, ()))) := by kernel_rfl
def h53_y (x1 : List UInt8) : h53_I.den := (((), (x1, ())), (((), ((), ())), ()), ())
def h53_o_y (x0 : Int) (l0 : List Int) : h53_O.den := ((x0, ((), ())), (((), ((), ())), ()), (l0, ()))
def h53_o_l0 (z : h53_O.den) : List Int := z.2.2.1
@[simp] theorem h53_o_l0_y (x0 : Int) (l0 : List Int) : h53_o_l0 (h53_o_y x0 l0) = l0 := id rfl
theorem h53_eq (x1 : List UInt8) : h53_F (h53_y x1) = ((h71_F (h71_y ([] : List (Int)))).bind fun z45 => appOk ((h71_o_l0 z45).length + (bytesOf x1).length) (some (h53_o_y (x1.length : Int) ((h71_o_l0 z45) ++ (bytesOf x1))))) := by kernel_rfl
theorem f54_eq (a0 : List UInt8) : f54_F (a0, ()) = ((replaceF (a0, (([92] : List UInt8), (([92, 92] : List UInt8), ())))).bind fun r46 => (replaceF (r46.1, (([34] : List UInt8), (([92, 34] : List UInt8), ())))).bind fun r47 => if ([34] : List UInt8).length + r47.1.length ≤ 4611686018427387904 then (if (([34] : List UInt8) ++ r47.1).length + ([34] : List UInt8).length ≤ 4611686018427387904 then (some (((([34] : List UInt8) ++ r47.1) ++ ([34] : List UInt8)), ())) else none) else none) := by kernel_rfl
def h53a_y (x1 : List UInt8) (l0 : List Int) : h53a_I.den := (((), (x1, ())), (((), ((), ())), ()), (l0, ()))
def h53a_o_y (x0 : Int) (l0 : List Int) : h53a_O.den := ((x0, ((), ())), (((), ((), ())), ()), (l0, ()))
def h53a_o_l0 (z : h53a_O.den) : List Int := z.2.2.1
@[simp] theorem h53a_o_l0_y (x0 : Int) (l0 : List Int) : h53a_o_l0 (h53a_o_y x0 l0) = l0 := id rfl
theorem h53a_eq (x1 : List UInt8) (l0 : List Int) : h53a_F (h53a_y x1 l0) = ((h71_F (h71_y l0)).bind fun z48 => appOk ((h71_o_l0 z48).length + (bytesOf x1).length) (some (h53a_o_y (x1.length : Int) ((h71_o_l0 z48) ++ (bytesOf x1))))) := by kernel_rfl
def h34a_y (x1_0 : Int) (x1_1 : Int) (x1_2 : List UInt8) (x1_3 : List V) (x1_4 : List (List UInt8)) (l0 : List Int) : h34a_I.den := (((), ((x1_0, (x1_1, (x1_2, (x1_3, (x1_4, ()))))), ())), (((), ((), ())), ()), (l0, ()))
def h34a_o_y (l0 : List Int) : h34a_O.den := ((), (((), ((), ())), ()), (l0, ()))
def h34a_o_l0 (z : h34a_O.den) : List Int := z.2.2.1
@[simp] theorem h34a_o_l0_y (l0 : List Int) : h34a_o_l0 (h34a_o_y l0) = l0 := id rfl
def h34a_p0_y (x4 : List UInt8) (x5 : Int) (x31 : List V) (x32 : Int) (x33 : Int) (r1_0 : Int) (r1_1 : Int) (r1_2 : List UInt8) (r1_3 : List V) (r1_4 : List (List UInt8)) (r2_0 : Int) (r2_1 : Int) (r2_2 : List UInt8) (r2_3 : List V) (r2_4 : List (List UInt8)) (l0 : List Int) : h34a_p0_sh.den := (((), ((), ((), ((), (x4, (x5, ((), ((), ((), ((), ((), ((), ((), ((), ((), ((), ((), ((), ((), ((), ((), ((), ((), ((), ((), ((), ((), ((), ((), ((), ((), (x31, (x32, (x33, ((), ((), ((), ((), ((), ((), ((), ((), ((), ((), ((), ((), ((), ((), ((), ((), ((), ((), ((), ((), ((), ((), ((), ((), ((), ((), ((), ((), ((), ()))))))))))))))))))))))))))))))))))))))))))))))))))))))))))))))), (((), ((), ())), ((r1_0, (r1_1, (r1_2, (r1_3, (r1_4, ()))))), ((r2_0, (r2_1, (r2_2, (r2_3, (r2_4, ()))))), ()))), (l0, ()))
def h34a_p0_o0_y (x4 : List UInt8) (x31 : List V) (x32 : Int) (x33 : Int) (r1_0 : Int) (r1_1 : Int) (r1_2 : List UInt8) (r1_3 : List V) (r1_4 : List (List UInt8)) (r2_0 : Int) (r2_1 : Int) (r2_2 : List UInt8) (r2_3 : List V) (r2_4 : List (List UInt8)) (l0 : List Int) : h34a_p0_o0.den := (((), ((), ((), ((), (x4, ((), ((), ((), ((), ((), ((), ((), ((), ((), ((), ((), ((), ((), ((), ((), ((), ((), ((), ((), ((), ((), ((), ((), ((), ((), ((), (x31, (x32, (x33, ((), ((), ((), ((), ((), ((), ((), ((), ((), ((), ((), ((), ((), ((), ((), ((), ((), ((), ((), ((), ((), ((), ((), ((), ((), ((), ((), ((), ((), ()))))))))))))))))))))))))))))))))))))))))))))))))))))))))))))))), (((), ((), ())), ((r1_0, (r1_1, (r1_2, (r1_3, (r1_4, ()))))), ((r2_0, (r2_1, (r2_2, (r2_3, (r2_4, ()))))), ()))), (l0, ()))
def h34a_p0_o0_x4 (z : h34a_p0_o0.den) : List UInt8 := z.1.2.2.2.2.1
def h34a_p0_o0_x31 (z : h34a_p0_o0.den) : List V := z.1.2.2.2.2.2.2.2.2.2.2.2.2.2.2.2.2.2.2.2.2.2.2.2.2.2.2.2.2.2.2.2.1
def h34a_p0_o0_x32 (z : h34a_p0_o0.den) : Int := z.1.2.2.2.2.2.2.2.2.2.2.2.2.2.2.2.2.2.2.2.2.2.2.2.2.2.2.2.2.2.2.2.2.1
def h34a_p0_o0_x33 (z : h34a_p0_o0.den) : Int := z.1.2.2.2.2.2.2.2.2.2.2.2.2.2.2.2.2.2.2.2.2.2.2.2.2.2.2.2.2.2.2.2.2.2.1
def h34a_p0_o0_r1_0 (z : h34a_p0_o0.den) : Int := z.2.1.2.1.1
def h34a_p0_o0_r1_1 (z : h34a_p0_o0.den) : Int := z.2.1.2.1.2.1
def h34a_p0_o0_r1_2 (z : h34a_p0_o0.den) : List UInt8 := z.2.1.2.1.2.2.1
def h34a_p0_o0_r1_3 (z : h34a_p0_o0.den) : List V := z.2.1.2.1.2.2.2.1
def h34a_p0_o0_r1_4 (z : h34a_p0_o0.den) : List (List UInt8) := z.2.1.2.1.2.2.2.2.1
def h34a_p0_o0_r2_0 (z : h34a_p0_o0.den) : Int := z.2.1.2.2.1.1
def h34a_p0_o0_r2_1 (z : h34a_p0_o0.den) : Int := z.2.1.2.2.1.2.1
def h34a_p0_o0_r2_2 (z : h34a_p0_o0.den) : List UInt8 := z.2.1.2.2.1.2.2.1
def h34a_p0_o0_r2_3 (z : h34a_p0_o0.den) : List V := z.2.1.2.2.1.2.2.2.1
def h34a_p0_o0_r2_4 (z : h34a_p0_o0.den) : List (List UInt8) := z.2.1.2.2.1.2.2.2.2.1
def h34a_p0_o0_l0 (z : h34a_p0_o0.den) : List Int := z.2.2.1
@[simp] theorem h34a_p0_o0_x4_y (x4 : List UInt8) (x31 : List V) (x32 : Int) (x33 : Int) (r1_0 : Int) (r1_1 : Int) (r1_2 : List UInt8) (r1_3 : List V) (r1_4 : List (List UInt8)) (r2_0 : Int) (r2_1 : Int) (r2_2 : List UInt8) (r2_3 : List V) (r2_4 : List (List UInt8)) (l0 : List Int) : h34a_p0_o0_x4 (h34a_p0_o0_y x4 x31 x32 x33 r1_0 r1_1 r1_2 r1_3 r1_4 r2_0 r2_1 r2_2 r2_3 r2_4 l0) = x4 := id rfl
@[simp] theorem h34a_p0_o0_x31_y (x4 : List UInt8) (x31 : List V) (x32 : Int) (x33 : Int) (r1_0 : Int) (r1_1 : Int) (r1_2 : List UInt8) (r1_3 : List V) (r1_4 : List (List UInt8)) (r2_0 : Int) (r2_1 : Int) (r2_2 : List UInt8) (r2_3 : List V) (r2_4 : List (List UInt8)) (l0 : List Int) : h34a_p0_o0_x31 (h34a_p0_o0_y x4 x31 x32 x33 r1_0 r1_1 r1_2 r1_3 r1_4 r2_0 r2_1 r2_2 r2_3 r2_4 l0) = x31 := id rfl
@[simp] theorem h34a_p0_o0_x32_y (x4 : List UInt8) (x31 : List V) (x32 : Int) (x33 : Int) (r1_0 : Int) (r1_1 : Int) (r1_2 : List UInt8) (r1_3 : List V) (r1_4 : List (List UInt8)) (r2_0 : Int) (r2_1 : Int) (r2_2 : List UInt8) (r2_3 : List V) (r2_4 : List (List UInt8)) (l0 : List Int) : h34a_p0_o0_x32 (h34a_p0_o0_y x4 x31 x32 x33 r1_0 r1_1 r1_2 r1_3 r1_4 r2_0 r2_1 r2_2 r2_3 r2_4 l0) = x32 := id rfl
@[simp] theorem h34a_p0_o0_x33_y (x4 : List UInt8) (x31 : List V) (x32 : Int) (x33 : Int) (r1_0 : Int) (r1_1 : Int) (r1_2 : List UInt8) (r1_3 : List V) (r1_4 : List (List UInt8)) (r2_0 : Int) (r2_1 : Int) (r2_2 : List UInt8) (r2_3 : List V) (r2_4 : List (List UInt8)) (l0 : List Int) : h34a_p0_o0_x33 (h34a_p0_o0_y x4 x31 x32 x33 r1_0 r1_1 r1_2 r1_3 r1_4 r2_0 r2_1 r2_2 r2_3 r2_4 l0) = x33 := id rfl
@[simp] theorem h34a_p0_o0_r1_0_y (x4 : List UInt8) (x31 : List V) (x32 : Int) (x33 : Int) (r1_0 : Int) (r1_1 : Int) (r1_2 : List UInt8) (r1_3 : List V) (r1_4 : List (List UInt8)) (r2_0 : Int) (r2_1 : Int) (r2_2 : List UInt8) (r2_3 : List V) (r2_4 : List (List UInt8)) (l0 : List Int) : h34a_p0_o0_r1_0 (h34a_p0_o0_y x4 x31 x32 x33 r1_0 r1_1 r1_2 r1_3 r1_4 r2_0 r2_1 r2_2 r2_3 r2_4 l0) = r1_0 := id rfl
@[simp] theorem h34a_p0_o0_r1_1_y (x4 : List UInt8) (x31 : List V) (x32 : Int) (x33 : Int) (r1_0 : Int) (r1_1 : Int) (r1_2 : List UInt8) (r1_3 : List V) (r1_4 : List (List UInt8)) (r2_0 : Int) (r2_1 : Int) (r2_2 : List UInt8) (r2_3 : List V) (r2_4 : List (List UInt8)) (l0 : List Int) : h34a_p0_o0_r1_1 (h34a_p0_o0_y x4 x31 x32 x33 r1_0 r1_1 r1_2 r1_3 r1_4 r2_0 r2_1 r2_2 r2_3 r2_4 l0) = r1_1 := id rfl
@[simp] theorem h34a_p0_o0_r1_2_y (x4 : List UInt8) (x31 : List V) (x32 : Int) (x33 : Int) (r1_0 : Int) (r1_1 : Int) (r1_2 : List UInt8) (r1_3 : List V) (r1_4 : List (List UInt8)) (r2_0 : Int) (r2_1 : Int) (r2_2 : List UInt8) (r2_3 : List V) (r2_4 : List (List UInt8)) (l0 : List Int) : h34a_p0_o0_r1_2 (h34a_p0_o0_y x4 x31 x32 x33 r1_0 r1_1 r1_2 r1_3 r1_4 r2_0 r2_1 r2_2 r2_3 r2_4 l0) = r1_2 := id rfl
@[simp] theorem h34a_p0_o0_r1_3_y (x4 : List UInt8) (x31 : List V) (x32 : Int) (x33 : Int) (r1_0 : Int) (r1_1 : Int) (r1_2 : List UInt8) (r1_3 : List V) (r1_4 : List (List UInt8)) (r2_0 : Int) (r2_1 : Int) (r2_2 : List UInt8) (r2_3 : List V) (r2_4 : List (List UInt8)) (l0 : List Int) : h34a_p0_o0_r1_3 (h34a_p0_o0_y x4 x31 x32 x33 r1_0 r1_1 r1_2 r1_3 r1_4 r2_0 r2_1 r2_2 r2_3 r2_4 l0) = r1_3 := id rfl
@[simp] theorem h34a_p0_o0_r1_4_y (x4 : List UInt8) (x31 : List V) (x32 : Int) (x33 : Int) (r1_0 : Int) (r1_1 : Int) (r1_2 : List UInt8) (r1_3 : List V) (r1_4 : List (List UInt8)) (r2_0 : Int) (r2_1 : Int) (r2_2 : List UInt8) (r2_3 : List V) (r2_4 : List (List UInt8)) (l0 : List Int) : h34a_p0_o0_r1_4 (h34a_p0_o0_y x4 x31 x32 x33 r1_0 r1_1 r1_2 r1_3 r1_4 r2_0 r2_1 r2_2 r2_3 r2_4 l0) = r1_4 := id rfl
@[simp] theorem h34a_p0_o0_r2_0_y (x4 : List UInt8) (x31 : List V) (x32 : Int) (x33 : Int) (r1_0 : Int) (r1_1 : Int) (r1_2 : List UInt8) (r1_3 : List V) (r1_4 : List (List UInt8)) (r2_0 : Int) (r2_1 : Int) (r2_2 : List UInt8) (r2_3 : List V) (r2_4 : List (List UInt8)) (l0 : List Int) : h34a_p0_o0_r2_0 (h34a_p0_o0_y x4 x31 x32 x33 r1_0 r1_1 r1_2 r1_3 r1_4 r2_0 r2_1 r2_2 r2_3 r2_4 l0) = r2_0 := id rfl
@[simp] theorem h34a_p0_o0_r2_1_y (x4 : List UInt8) (x31 : List V) (x32 : Int) (x33 : Int) (r1_0 : Int) (r1_1 : Int) (r1_2 : List UInt8) (r1_3 : List V) (r1_4 : List (List UInt8)) (r2_0 : Int) (r2_1 : Int) (r2_2 : List UInt8) (r2_3 : List V) (r2_4 : List (List UInt8)) (l0 : List Int) : h34a_p0_o0_r2_1 (h34a_p0_o0_y x4 x31 x32 x33 r1_0 r1_1 r1_2 r1_3 r1_4 r2_0 r2_1 r2_2 r2_3 r2_4 l0) = r2_1 := id rfl
@[simp] theorem h34a_p0_o0_r2_2_y (x4 : List UInt8) (x31 : List V) (x32 : Int) (x33 : Int) (r1_0 : Int) (r1_1 : Int) (r1_2 : List UInt8) (r1_3 : List V) (r1_4 : List (List UInt8)) (r2_0 : Int) (r2_1 : Int) (r2_2 : List UInt8) (r2_3 : List V) (r2_4 : List (List UInt8)) (l0 : List Int) : h34a_p0_o0_r2_2 (h34a_p0_o0_y x4 x31 x32 x33 r1_0 r1_1 r1_2 r1_3 r1_4 r2_0 r2_1 r2_2 r2_3 r2_4 l0) = r2_2 := id rfl
@[simp] theorem h34a_p0_o0_r2_3_y (x4 : List UInt8) (x31 : List V) (x32 : Int) (x33 : Int) (r1_0 : Int) (r1_1 : Int) (r1_2 : List UInt8) (r1_3 : List V) (r1_4 : List (List UInt8)) (r2_0 : Int) (r2_1 : Int) (r2_2 : List UInt8) (r2_3 : List V) (r2_4 : List (List UInt8)) (l0 : List Int) : h34a_p0_o0_r2_3 (h34a_p0_o0_y x4 x31 x32 x33 r1_0 r1_1 r1_2 r1_3 r1_4 r2_0 r2_1 r2_2 r2_3 r2_4 l0) = r2_3 := id rfl
@[simp] theorem h34a_p0_o0_r2_4_y (x4 : List UInt8) (x31 : List V) (x32 : Int) (x33 : Int) (r1_0 : Int) (r1_1 : Int) (r1_2 : List UInt8) (r1_3 : List V) (r1_4 : List (List UInt8)) (r2_0 : Int) (r2_1 : Int) (r2_2 : List UInt8) (r2_3 : List V) (r2_4 : List (List UInt8)) (l0 : List Int) : h34a_p0_o0_r2_4 (h34a_p0_o0_y x4 x31 x32 x33 r1_0 r1_1 r1_2 r1_3 r1_4 r2_0 r2_1 r2_2 r2_3 r2_4 l0) = r2_4 := id rfl
@[simp] theorem h34a_p0_o0_l0_y (x4 : List UInt8) (x31 : List V) (x32 : Int) (x33 : Int) (r1_0 : Int) (r1_1 : Int) (r1_2 : List UInt8) (r1_3 : List V) (r1_4 : List (List UInt8)) (r2_0 : Int) (r2_1 : Int) (r2_2 : List UInt8) (r2_3 : List V) (r2_4 : List (List UInt8)) (l0 : List Int) : h34a_p0_o0_l0 (h34a_p0_o0_y x4 x31 x32 x33 r1_0 r1_1 r1_2 r1_3 r1_4 r2_0 r2_1 r2_2 r2_3 r2_4 l0) = l0 := id rfl
theorem h34a_p0_eq (G : h34a_I.den → Option h34a_O.den) (hG : SoundH Tryd.prog 34 ⟨h34a_I, h34a_O, G⟩) (x4 : List UInt8) (x5 : Int) (x31 : List V) (x32 : Int) (x33 : Int) (r1_0 : Int) (r1_1 : Int) (r1_2 : List UInt8) (r1_3 : List V) (r1_4 : List (List UInt8)) (r2_0 : Int) (r2_1 : Int) (r2_2 : List UInt8) (r2_3 : List V) (r2_4 : List (List UInt8)) (l0 : List Int) : h34a_p0_F G hG (h34a_p0_y x4 x5 x31 x32 x33 r1_0 r1_1 r1_2 r1_3 r1_4 r2_0 r2_1 r2_2 r2_3 r2_4 l0) = (bif (r1_0 == (4 : Int)) then ((nth r1_4 x5).bind fun y49 => (f54_F (y49, ())).bind fun r50 => (h53a_F (h53a_y r50.1 l0)).bind fun z51 => (h53a_F (h53a_y ([58] : List UInt8) (h53a_o_l0 z51))).bind fun z52 => some ((h34a_p0_o0_y x4 x31 x32 x33 r1_0 r1_1 r1_2 r1_3 r1_4 r2_0 r2_1 r2_2 r2_3 r2_4 (h53a_o_l0 z52)))) else (some ((h34a_p0_o0_y x4 x31 x32 x33 r1_0 r1_1 r1_2 r1_3 r1_4 r2_0 r2_1 r2_2 r2_3 r2_4 l0)))) := by kernel_rfl
def h34a_p1_y (x4 : List UInt8) (x5 : Int) (x31 : List V) (x32 : Int) (x33 : Int) (r1_0 : Int) (r1_1 : Int) (r1_2 : List UInt8) (r1_3 : List V) (r1_4 : List (List UInt8)) (r2_0 : Int) (r2_1 : Int) (r2_2 : List UInt8) (r2_3 : List V) (r2_4 : List (List UInt8)) (l0 : List Int) : h34a_p1_sh.den := (((), ((), ((), ((), (x4, (x5, ((), ((), ((), ((), ((), ((), ((), ((), ((), ((), ((), ((), ((), ((), ((), ((), ((), ((), ((), ((), ((), ((), ((), ((), ((), (x31, (x32, (x33, ((), ((), ((), ((), ((), ((), ((), ((), ((), ((), ((), ((), ((), ((), ((), ((), ((), ((), ((), ((), ((), ((), ((), ((), ((), ((), ((), ((), ((), ()))))))))))))))))))))))))))))))))))))))))))))))))))))))))))))))), (((), ((), ())), ((r1_0, (r1_1, (r1_2, (r1_3, (r1_4, ()))))), ((r2_0, (r2_1, (r2_2, (r2_3, (r2_4, ()))))), ()))), (l0, ()))
def h34a_p1_o0_y (x4 : List UInt8) (x5 : Int) (x31 : List V) (x32 : Int) (x33 : Int) (r1_0 : Int) (r1_1 : Int) (r1_2 : List UInt8) (r1_3 : List V) (r1_4 : List (List UInt8)) (r2_0 : Int) (r2_1 : Int) (r2_2 : List UInt8) (r2_3 : List V) (r2_4 : List (List UInt8)) (l0 : List Int) : h34a_p1_o0.den := (((), ((), ((), ((), (x4, (x5, ((), ((), ((), ((), ((), ((), ((), ((), ((), ((), ((), ((), ((), ((), ((), ((), ((), ((), ((), ((), ((), ((), ((), ((), ((), (x31, (x32, (x33, ((), ((), ((), ((), ((), ((), ((), ((), ((), ((), ((), ((), ((), ((), ((), ((), ((), ((), ((), ((), ((), ((), ((), ((), ((), ((), ((), ((), ((), ()))))))))))))))))))))))))))))))))))))))))))))))))))))))))))))))), (((), ((), ())), ((r1_0, (r1_1, (r1_2, (r1_3, (r1_4, ()))))), ((r2_0, (r2_1, (r2_2, (r2_3, (r2_4, ()))))), ()))), (l0, ()))
def h34a_p1_o0_x4 (z : h34a_p1_o0.den) : List UInt8 := z.1.2.2.2.2.1
def h34a_p1_o0_x5 (z : h34a_p1_o0.den) : Int := z.1.2.2.2.2.2.1
def h34a_p1_o0_x31 (z : h34a_p1_o0.den) : List V := z.1.2.2.2.2.2.2.2.2.2.2.2.2.2.2.2.2.2.2.2.2.2.2.2.2.2.2.2.2.2.2.2.1
def h34a_p1_o0_x32 (z : h34a_p1_o0.den) : Int := z.1.2.2.2.2.2.2.2.2.2.2.2.2.2.2.2.2.2.2.2.2.2.2.2.2.2.2.2.2.2.2.2.2.1
def h34a_p1_o0_x33 (z : h34a_p1_o0.den) : Int := z.1.2.2.2.2.2.2.2.2.2.2.2.2.2.2.2.2.2.2.2.2.2.2.2.2.2.2.2.2.2.2.2.2.2.1
def h34a_p1_o0_r1_0 (z : h34a_p1_o0.den) : Int := z.2.1.2.1.1
def h34a_p1_o0_r1_1 (z : h34a_p1_o0.den) : Int := z.2.1.2.1.2.1
def h34a_p1_o0_r1_2 (z : h34a_p1_o0.den) : List UInt8 := z.2.1.2.1.2.2.1
def h34a_p1_o0_r1_3 (z : h34a_p1_o0.den) : List V := z.2.1.2.1.2.2.2.1
def h34a_p1_o0_r1_4 (z : h34a_p1_o0.den) : List (List UInt8) := z.2.1.2.1.2.2.2.2.1
def h34a_p1_o0_r2_0 (z : h34a_p1_o0.den) : Int := z.2.1.2.2.1.1
def h34a_p1_o0_r2_1 (z : h34a_p1_o0.den) : Int := z.2.1.2.2.1.2.1
def h34a_p1_o0_r2_2 (z : h34a_p1_o0.den) : List UInt8 := z.2.1.2.2.1.2.2.1
def h34a_p1_o0_r2_3 (z : h34a_p1_o0.den) : List V := z.2.1.2.2.1.2.2.2.1
def h34a_p1_o0_r2_4 (z : h34a_p1_o0.den) : List (List UInt8) := z.2.1.2.2.1.2.2.2.2.1
def h34a_p1_o0_l0 (z : h34a_p1_o0.den) : List Int := z.2.2.1
@[simp] theorem h34a_p1_o0_x4_y (x4 : List UInt8) (x5 : Int) (x31 : List V) (x32 : Int) (x33 : Int) (r1_0 : Int) (r1_1 : Int) (r1_2 : List UInt8) (r1_3 : List V) (r1_4 : List (List UInt8)) (r2_0 : Int) (r2_1 : Int) (r2_2 : List UInt8) (r2_3 : List V) (r2_4 : List (List UInt8)) (l0 : List Int) : h34a_p1_o0_x4 (h34a_p1_o0_y x4 x5 x31 x32 x33 r1_0 r1_1 r1_2 r1_3 r1_4 r2_0 r2_1 r2_2 r2_3 r2_4 l0) = x4 := id rfl
@[simp] theorem h34a_p1_o0_x5_y (x4 : List UInt8) (x5 : Int) (x31 : List V) (x32 : Int) (x33 : Int) (r1_0 : Int) (r1_1 : Int) (r1_2 : List UInt8) (r1_3 : List V) (r1_4 : List (List UInt8)) (r2_0 : Int) (r2_1 : Int) (r2_2 : List UInt8) (r2_3 : List V) (r2_4 : List (List UInt8)) (l0 : List Int) : h34a_p1_o0_x5 (h34a_p1_o0_y x4 x5 x31 x32 x33 r1_0 r1_1 r1_2 r1_3 r1_4 r2_0 r2_1 r2_2 r2_3 r2_4 l0) = x5 := id rfl
@[simp] theorem h34a_p1_o0_x31_y (x4 : List UInt8) (x5 : Int) (x31 : List V) (x32 : Int) (x33 : Int) (r1_0 : Int) (r1_1 : Int) (r1_2 : List UInt8) (r1_3 : List V) (r1_4 : List (List UInt8)) (r2_0 : Int) (r2_1 : Int) (r2_2 : List UInt8) (r2_3 : List V) (r2_4 : List (List UInt8)) (l0 : List Int) : h34a_p1_o0_x31 (h34a_p1_o0_y x4 x5 x31 x32 x33 r1_0 r1_1 r1_2 r1_3 r1_4 r2_0 r2_1 r2_2 r2_3 r2_4 l0) = x31 := id rfl
@[simp] theorem h34a_p1_o0_x32_y (x4 : List UInt8) (x5 : Int) (x31 : List V) (x32 : Int) (x33 : Int) (r1_0 : Int) (r1_1 : Int) (r1_2 : List UInt8) (r1_3 : List V) (r1_4 : List (List UInt8)) (r2_0 : Int) (r2_1 : Int) (r2_2 : List UInt8) (r2_3 : List V) (r2_4 : List (List UInt8)) (l0 : List Int) : h34a_p1_o0_x32 (h34a_p1_o0_y x4 x5 x31 x32 x33 r1_0 r1_1 r1_2 r1_3 r1_4 r2_0 r2_1 r2_2 r2_3 r2_4 l0) = x32 := id rfl
@[simp] theorem h34a_p1_o0_x33_y (x4 : List UInt8) (x5 : Int) (x31 : List V) (x32 : Int) (x33 : Int) (r1_0 : Int) (r1_1 : Int) (r1_2 : List UInt8) (r1_3 : List V) (r1_4 : List (List UInt8)) (r2_0 : Int) (r2_1 : Int) (r2_2 : List UInt8) (r2_3 : List V) (r2_4 : List (List UInt8)) (l0 : List Int) : h34a_p1_o0_x33 (h34a_p1_o0_y x4 x5 x31 x32 x33 r1_0 r1_1 r1_2 r1_3 r1_4 r2_0 r2_1 r2_2 r2_3 r2_4 l0) = x33 := id rfl
@[simp] theorem h34a_p1_o0_r1_0_y (x4 : List UInt8) (x5 : Int) (x31 : List V) (x32 : Int) (x33 : Int) (r1_0 : Int) (r1_1 : Int) (r1_2 : List UInt8) (r1_3 : List V) (r1_4 : List (List UInt8)) (r2_0 : Int) (r2_1 : Int) (r2_2 : List UInt8) (r2_3 : List V) (r2_4 : List (List UInt8)) (l0 : List Int) : h34a_p1_o0_r1_0 (h34a_p1_o0_y x4 x5 x31 x32 x33 r1_0 r1_1 r1_2 r1_3 r1_4 r2_0 r2_1 r2_2 r2_3 r2_4 l0) = r1_0 := id rfl
@[simp] theorem h34a_p1_o0_r1_1_y (x4 : List UInt8) (x5 : Int) (x31 : List V) (x32 : Int) (x33 : Int) (r1_0 : Int) (r1_1 : Int) (r1_2 : List UInt8) (r1_3 : List V) (r1_4 : List (List UInt8)) (r2_0 : Int) (r2_1 : Int) (r2_2 : List UInt8) (r2_3 : List V) (r2_4 : List (List UInt8)) (l0 : List Int) : h34a_p1_o0_r1_1 (h34a_p1_o0_y x4 x5 x31 x32 x33 r1_0 r1_1 r1_2 r1_3 r1_4 r2_0 r2_1 r2_2 r2_3 r2_4 l0) = r1_1 := id rfl
@[simp] theorem h34a_p1_o0_r1_2_y (x4 : List UInt8) (x5 : Int) (x31 : List V) (x32 : Int) (x33 : Int) (r1_0 : Int) (r1_1 : Int) (r1_2 : List UInt8) (r1_3 : List V) (r1_4 : List (List UInt8)) (r2_0 : Int) (r2_1 : Int) (r2_2 : List UInt8) (r2_3 : List V) (r2_4 : List (List UInt8)) (l0 : List Int) : h34a_p1_o0_r1_2 (h34a_p1_o0_y x4 x5 x31 x32 x33 r1_0 r1_1 r1_2 r1_3 r1_4 r2_0 r2_1 r2_2 r2_3 r2_4 l0) = r1_2 := id rfl
@[simp] theorem h34a_p1_o0_r1_3_y (x4 : List UInt8) (x5 : Int) (x31 : List V) (x32 : Int) (x33 : Int) (r1_0 : Int) (r1_1 : Int) (r1_2 : List UInt8) (r1_3 : List V) (r1_4 : List (List UInt8)) (r2_0 : Int) (r2_1 : Int) (r2_2 : List UInt8) (r2_3 : List V) (r2_4 : List (List UInt8)) (l0 : List Int) : h34a_p1_o0_r1_3 (h34a_p1_o0_y x4 x5 x31 x32 x33 r1_0 r1_1 r1_2 r1_3 r1_4 r2_0 r2_1 r2_2 r2_3 r2_4 l0) = r1_3 := id rfl
@[simp] theorem h34a_p1_o0_r1_4_y (x4 : List UInt8) (x5 : Int) (x31 : List V) (x32 : Int) (x33 : Int) (r1_0 : Int) (r1_1 : Int) (r1_2 : List UInt8) (r1_3 : List V) (r1_4 : List (List UInt8)) (r2_0 : Int) (r2_1 : Int) (r2_2 : List UInt8) (r2_3 : List V) (r2_4 : List (List UInt8)) (l0 : List Int) : h34a_p1_o0_r1_4 (h34a_p1_o0_y x4 x5 x31 x32 x33 r1_0 r1_1 r1_2 r1_3 r1_4 r2_0 r2_1 r2_2 r2_3 r2_4 l0) = r1_4 := id rfl
@[simp] theorem h34a_p1_o0_r2_0_y (x4 : List UInt8) (x5 : Int) (x31 : List V) (x32 : Int) (x33 : Int) (r1_0 : Int) (r1_1 : Int) (r1_2 : List UInt8) (r1_3 : List V) (r1_4 : List (List UInt8)) (r2_0 : Int) (r2_1 : Int) (r2_2 : List UInt8) (r2_3 : List V) (r2_4 : List (List UInt8)) (l0 : List Int) : h34a_p1_o0_r2_0 (h34a_p1_o0_y x4 x5 x31 x32 x33 r1_0 r1_1 r1_2 r1_3 r1_4 r2_0 r2_1 r2_2 r2_3 r2_4 l0) = r2_0 := id rfl
@[simp] theorem h34a_p1_o0_r2_1_y (x4 : List UInt8) (x5 : Int) (x31 : List V) (x32 : Int) (x33 : Int) (r1_0 : Int) (r1_1 : Int) (r1_2 : List UInt8) (r1_3 : List V) (r1_4 : List (List UInt8)) (r2_0 : Int) (r2_1 : Int) (r2_2 : List UInt8) (r2_3 : List V) (r2_4 : List (List UInt8)) (l0 : List Int) : h34a_p1_o0_r2_1 (h34a_p1_o0_y x4 x5 x31 x32 x33 r1_0 r1_1 r1_2 r1_3 r1_4 r2_0 r2_1 r2_2 r2_3 r2_4 l0) = r2_1 := id rfl
@[simp] theorem h34a_p1_o0_r2_2_y (x4 : List UInt8) (x5 : Int) (x31 : List V) (x32 : Int) (x33 : Int) (r1_0 : Int) (r1_1 : Int) (r1_2 : List UInt8) (r1_3 : List V) (r1_4 : List (List UInt8)) (r2_0 : Int) (r2_1 : Int) (r2_2 : List UInt8) (r2_3 : List V) (r2_4 : List (List UInt8)) (l0 : List Int) : h34a_p1_o0_r2_2 (h34a_p1_o0_y x4 x5 x31 x32 x33 r1_0 r1_1 r1_2 r1_3 r1_4 r2_0 r2_1 r2_2 r2_3 r2_4 l0) = r2_2 := id rfl
@[simp] theorem h34a_p1_o0_r2_3_y (x4 : List UInt8) (x5 : Int) (x31 : List V) (x32 : Int) (x33 : Int) (r1_0 : Int) (r1_1 : Int) (r1_2 : List UInt8) (r1_3 : List V) (r1_4 : List (List UInt8)) (r2_0 : Int) (r2_1 : Int) (r2_2 : List UInt8) (r2_3 : List V) (r2_4 : List (List UInt8)) (l0 : List Int) : h34a_p1_o0_r2_3 (h34a_p1_o0_y x4 x5 x31 x32 x33 r1_0 r1_1 r1_2 r1_3 r1_4 r2_0 r2_1 r2_2 r2_3 r2_4 l0) = r2_3 := id rfl
@[simp] theorem h34a_p1_o0_r2_4_y (x4 : List UInt8) (x5 : Int) (x31 : List V) (x32 : Int) (x33 : Int) (r1_0 : Int) (r1_1 : Int) (r1_2 : List UInt8) (r1_3 : List V) (r1_4 : List (List UInt8)) (r2_0 : Int) (r2_1 : Int) (r2_2 : List UInt8) (r2_3 : List V) (r2_4 : List (List UInt8)) (l0 : List Int) : h34a_p1_o0_r2_4 (h34a_p1_o0_y x4 x5 x31 x32 x33 r1_0 r1_1 r1_2 r1_3 r1_4 r2_0 r2_1 r2_2 r2_3 r2_4 l0) = r2_4 := id rfl
@[simp] theorem h34a_p1_o0_l0_y (x4 : List UInt8) (x5 : Int) (x31 : List V) (x32 : Int) (x33 : Int) (r1_0 : Int) (r1_1 : Int) (r1_2 : List UInt8) (r1_3 : List V) (r1_4 : List (List UInt8)) (r2_0 : Int) (r2_1 : Int) (r2_2 : List UInt8) (r2_3 : List V) (r2_4 : List (List UInt8)) (l0 : List Int) : h34a_p1_o0_l0 (h34a_p1_o0_y x4 x5 x31 x32 x33 r1_0 r1_1 r1_2 r1_3 r1_4 r2_0 r2_1 r2_2 r2_3 r2_4 l0) = l0 := id rfl
theorem h34a_p1_eq (G : h34a_I.den → Option h34a_O.den) (hG : SoundH Tryd.prog 34 ⟨h34a_I, h34a_O, G⟩) (x4 : List UInt8) (x5 : Int) (x31 : List V) (x32 : Int) (x33 : Int) (r1_0 : Int) (r1_1 : Int) (r1_2 : List UInt8) (r1_3 : List V) (r1_4 : List (List UInt8)) (r2_0 : Int) (r2_1 : Int) (r2_2 : List UInt8) (r2_3 : List V) (r2_4 : List (List UInt8)) (l0 : List Int) : h34a_p1_F G hG (h34a_p1_y x4 x5 x31 x32 x33 r1_0 r1_1 r1_2 r1_3 r1_4 r2_0 r2_1 r2_2 r2_3 r2_4 l0) = (bif (decide (x5 > (0 : Int))) then ((h53a_F (h53a_y ([44] : List UInt8) l0)).bind fun z53 => some ((h34a_p1_o0_y x4 x5 x31 x32 x33 r1_0 r1_1 r1_2 r1_3 r1_4 r2_0 r2_1 r2_2 r2_3 r2_4 (h53a_o_l0 z53)))) else (some ((h34a_p1_o0_y x4 x5 x31 x32 x33 r1_0 r1_1 r1_2 r1_3 r1_4 r2_0 r2_1 r2_2 r2_3 r2_4 l0)))) := by kernel_rfl
def h34a_p2_y (x4 : List UInt8) (x31 : List V) (x32 : Int) (x33 : Int) (r1_0 : Int) (r1_1 : Int) (r1_2 : List UInt8) (r1_3 : List V) (r1_4 : List (List UInt8)) (l0 : List Int) : h34a_p2_sh.den := (((), ((), ((), ((), (x4, ((), ((), ((), ((), ((), ((), ((), ((), ((), ((), ((), ((), ((), ((), ((), ((), ((), ((), ((), ((), ((), ((), ((), ((), ((), ((), (x31, (x32, (x33, ((), ((), ((), ((), ((), ((), ((), ((), ((), ((), ((), ((), ((), ((), ((), ((), ((), ((), ((), ((), ((), ((), ((), ((), ((), ((), ((), ((), ((), ()))))))))))))))))))))))))))))))))))))))))))))))))))))))))))))))), (((), ((), ())), ((r1_0, (r1_1, (r1_2, (r1_3, (r1_4, ()))))), ())), (l0, ()))
def h34a_p2_o0_y (x4 : List UInt8) (l0 : List Int) : h34a_p2_o0.den := (((), ((), ((), ((), (x4, ((), ((), ((), ((), ((), ((), ((), ((), ((), ((), ((), ((), ((), ((), ((), ((), ((), ((), ((), ((), ((), ((), ((), ((), ((), ((), ((), ((), ((), ((), ((), ((), ((), ((), ((), ((), ((), ((), ((), ((), ((), ((), ((), ((), ((), ((), ((), ((), ((), ((), ((), ((), ((), ((), ((), ((), ((), ((), ()))))))))))))))))))))))))))))))))))))))))))))))))))))))))))))))), (((), ((), ())), ()), (l0, ()))
def h34a_p2_o0_x4 (z : h34a_p2_o0.den) : List UInt8 := z.1.2.2.2.2.1
def h34a_p2_o0_l0 (z : h34a_p2_o0.den) : List Int := z.2.2.1
@[simp] theorem h34a_p2_o0_x4_y (x4 : List UInt8) (l0 : List Int) : h34a_p2_o0_x4 (h34a_p2_o0_y x4 l0) = x4 := id rfl
@[simp] theorem h34a_p2_o0_l0_y (x4 : List UInt8) (l0 : List Int) : h34a_p2_o0_l0 (h34a_p2_o0_y x4 l0) = l0 := id rfl
theorem h34a_p2_eq (G : h34a_I.den → Option h34a_O.den) (hG : SoundH Tryd.prog 34 ⟨h34a_I, h34a_O, G⟩) (rec : h34a_p2_sh.den → Option (OutDen h34a_p2_outs)) (x4 : List UInt8) (x31 : List V) (x32 : Int) (x33 : Int) (r1_0 : Int) (r1_1 : Int) (r1_2 : List UInt8) (r1_3 : List V) (r1_4 : List (List UInt8)) (l0 : List Int) : h34a_p2_st G hG rec (h34a_p2_y x4 x31 x32 x33 r1_0 r1_1 r1_2 r1_3 r1_4 l0) = (bif (decide (x33 < x32)) then ((nth x31 x33).bind fun y54 => (h34a_p1_F G hG (h34a_p1_y x4 x33 x31 x32 x33 r1_0 r1_1 r1_2 r1_3 r1_4 y54.kind y54.n y54.s y54.items y54.keys l0)).bind fun o55 => (h34a_p0_F G hG (h34a_p0_y (h34a_p1_o0_x4 o55) (h34a_p1_o0_x5 o55) (h34a_p1_o0_x31 o55) (h34a_p1_o0_x32 o55) (h34a_p1_o0_x33 o55) (h34a_p1_o0_r1_0 o55) (h34a_p1_o0_r1_1 o55) (h34a_p1_o0_r1_2 o55) (h34a_p1_o0_r1_3 o55) (h34a_p1_o0_r1_4 o55) (h34a_p1_o0_r2_0 o55) (h34a_p1_o0_r2_1 o55) (h34a_p1_o0_r2_2 o55) (h34a_p1_o0_r2_3 o55) (h34a_p1_o0_r2_4 o55) (h34a_p1_o0_l0 o55))).bind fun o56 => (G (h34a_y (h34a_p0_o0_r2_0 o56) (h34a_p0_o0_r2_1 o56) (h34a_p0_o0_r2_2 o56) (h34a_p0_o0_r2_3 o56) (h34a_p0_o0_r2_4 o56) (h34a_p0_o0_l0 o56))).bind fun z57 => rec (h34a_p2_y (h34a_p0_o0_x4 o56) (h34a_p0_o0_x31 o56) (h34a_p0_o0_x32 o56) (IntKind.i64.wrap ((h34a_p0_o0_x33 o56) + (1 : Int))) (h34a_p0_o0_r1_0 o56) (h34a_p0_o0_r1_1 o56) (h34a_p0_o0_r1_2 o56) (h34a_p0_o0_r1_3 o56) (h34a_p0_o0_r1_4 o56) (h34a_o_l0 z57))) else (some ((h34a_p2_o0_y x4 l0)))) := by kernel_rfl
theorem h34a_eq (G : h34a_I.den → Option h34a_O.den) (hG : SoundH Tryd.prog 34 ⟨h34a_I, h34a_O, G⟩) (x1_0 : Int) (x1_1 : Int) (x1_2 : List UInt8) (x1_3 : List V) (x1_4 : List (List UInt8)) (l0 : List Int) : h34a_b G hG (h34a_y x1_0 x1_1 x1_2 x1_3 x1_4 l0) = (bif (x1_0 == (1 : Int)) then ((formatF (x1_1, ((10 : Int), ()))).bind fun r58 => (h53a_F (h53a_y r58.1 l0)).bind fun z59 => some (h34a_o_y (h53a_o_l0 z59))) else (bif (x1_0 == (2 : Int)) then ((f54_F (x1_2, ())).bind fun r60 => (h53a_F (h53a_y r60.1 l0)).bind fun z61 => some (h34a_o_y (h53a_o_l0 z61))) else (bif (x1_0 == (4 : Int)) then (cutHi ([123, 125] : List UInt8) (1 : Int) fun s62 => (h53a_F (h53a_y s62 l0)).bind fun z63 => (go (h34a_p2_st G hG) (h34a_p2_y ([123, 125] : List UInt8) x1_3 (x1_3.length : Int) (0 : Int) x1_0 x1_1 x1_2 x1_3 x1_4 (h53a_o_l0 z63))).bind fun o64 => cutLo (h34a_p2_o0_x4 o64) (1 : Int) fun s65 => (h53a_F (h53a_y s65 (h34a_p2_o0_l0 o64))).bind fun z66 => some (h34a_o_y (h53a_o_l0 z66))) else (cutHi ([91, 93] : List UInt8) (1 : Int) fun s67 => (h53a_F (h53a_y s67 l0)).bind fun z68 => (go (h34a_p2_st G hG) (h34a_p2_y ([91, 93] : List UInt8) x1_3 (x1_3.length : Int) (0 : Int) x1_0 x1_1 x1_2 x1_3 x1_4 (h53a_o_l0 z68))).bind fun o69 => cutLo (h34a_p2_o0_x4 o69) (1 : Int) fun s70 => (h53a_F (h53a_y s70 (h34a_p2_o0_l0 o69))).bind fun z71 => some (h34a_o_y (h53a_o_l0 z71)))))) := by kernel_rfl
def h34_y (x1_0 : Int) (x1_1 : Int) (x1_2 : List UInt8) (x1_3 : List V) (x1_4 : List (List UInt8)) : h34_I.den := (((), ((x1_0, (x1_1, (x1_2, (x1_3, (x1_4, ()))))), ())), (((), ((), ())), ()), ())
def h34_o_y (l0 : List Int) : h34_O.den := ((), (((), ((), ())), ()), (l0, ()))
def h34_o_l0 (z : h34_O.den) : List Int := z.2.2.1
@[simp] theorem h34_o_l0_y (l0 : List Int) : h34_o_l0 (h34_o_y l0) = l0 := id rfl
def h34_p0_y (x4 : List UInt8) (x5 : Int) (x31 : List V) (x32 : Int) (x33 : Int) (r1_0 : Int) (r1_1 : Int) (r1_2 : List UInt8) (r1_3 : List V) (r1_4 : List (List UInt8)) (r2_0 : Int) (r2_1 : Int) (r2_2 : List UInt8) (r2_3 : List V) (r2_4 : List (List UInt8)) (l0 : List Int) : h34_p0_sh.den := (((), ((), ((), ((), (x4, (x5, ((), ((), ((), ((), ((), ((), ((), ((), ((), ((), ((), ((), ((), ((), ((), ((), ((), ((), ((), ((), ((), ((), ((), ((), ((), (x31, (x32, (x33, ((), ((), ((), ((), ((), ((), ((), ((), ((), ((), ((), ((), ((), ((), ((), ((), ((), ((), ((), ((), ((), ((), ((), ((), ((), ((), ((), ((), ((), ()))))))))))))))))))))))))))))))))))))))))))))))))))))))))))))))), (((), ((), ())), ((r1_0, (r1_1, (r1_2, (r1_3, (r1_4, ()))))), ((r2_0, (r2_1, (r2_2, (r2_3, (r2_4, ()))))), ()))), (l0, ()))
def h34_p0_o0_y (x4 : List UInt8) (x31 : List V) (x32 : Int) (x33 : Int) (r1_0 : Int) (r1_1 : Int) (r1_2 : List UInt8) (r1_3 : List V) (r1_4 : List (List UInt8)) (r2_0 : Int) (r2_1 : Int) (r2_2 : List UInt8) (r2_3 : List V) (r2_4 : List (List UInt8)) (l0 : List Int) : h34_p0_o0.den := (((), ((), ((), ((), (x4, ((), ((), ((), ((), ((), ((), ((), ((), ((), ((), ((), ((), ((), ((), ((), ((), ((), ((), ((), ((), ((), ((), ((), ((), ((), ((), (x31, (x32, (x33, ((), ((), ((), ((), ((), ((), ((), ((), ((), ((), ((), ((), ((), ((), ((), ((), ((), ((), ((), ((), ((), ((), ((), ((), ((), ((), ((), ((), ((), ()))))))))))))))))))))))))))))))))))))))))))))))))))))))))))))))), (((), ((), ())), ((r1_0, (r1_1, (r1_2, (r1_3, (r1_4, ()))))), ((r2_0, (r2_1, (r2_2, (r2_3, (r2_4, ()))))), ()))), (l0, ()))
def h34_p0_o0_x4 (z : h34_p0_o0.den) : List UInt8 := z.1.2.2.2.2.1
def h34_p0_o0_x31 (z : h34_p0_o0.den) : List V := z.1.2.2.2.2.2.2.2.2.2.2.2.2.2.2.2.2.2.2.2.2.2.2.2.2.2.2.2.2.2.2.2.1
def h34_p0_o0_x32 (z : h34_p0_o0.den) : Int := z.1.2.2.2.2.2.2.2.2.2.2.2.2.2.2.2.2.2.2.2.2.2.2.2.2.2.2.2.2.2.2.2.2.1
def h34_p0_o0_x33 (z : h34_p0_o0.den) : Int := z.1.2.2.2.2.2.2.2.2.2.2.2.2.2.2.2.2.2.2.2.2.2.2.2.2.2.2.2.2.2.2.2.2.2.1
def h34_p0_o0_r1_0 (z : h34_p0_o0.den) : Int := z.2.1.2.1.1
def h34_p0_o0_r1_1 (z : h34_p0_o0.den) : Int := z.2.1.2.1.2.1
def h34_p0_o0_r1_2 (z : h34_p0_o0.den) : List UInt8 := z.2.1.2.1.2.2.1
def h34_p0_o0_r1_3 (z : h34_p0_o0.den) : List V := z.2.1.2.1.2.2.2.1
def h34_p0_o0_r1_4 (z : h34_p0_o0.den) : List (List UInt8) := z.2.1.2.1.2.2.2.2.1
def h34_p0_o0_r2_0 (z : h34_p0_o0.den) : Int := z.2.1.2.2.1.1
def h34_p0_o0_r2_1 (z : h34_p0_o0.den) : Int := z.2.1.2.2.1.2.1
def h34_p0_o0_r2_2 (z : h34_p0_o0.den) : List UInt8 := z.2.1.2.2.1.2.2.1
def h34_p0_o0_r2_3 (z : h34_p0_o0.den) : List V := z.2.1.2.2.1.2.2.2.1
def h34_p0_o0_r2_4 (z : h34_p0_o0.den) : List (List UInt8) := z.2.1.2.2.1.2.2.2.2.1
def h34_p0_o0_l0 (z : h34_p0_o0.den) : List Int := z.2.2.1
@[simp] theorem h34_p0_o0_x4_y (x4 : List UInt8) (x31 : List V) (x32 : Int) (x33 : Int) (r1_0 : Int) (r1_1 : Int) (r1_2 : List UInt8) (r1_3 : List V) (r1_4 : List (List UInt8)) (r2_0 : Int) (r2_1 : Int) (r2_2 : List UInt8) (r2_3 : List V) (r2_4 : List (List UInt8)) (l0 : List Int) : h34_p0_o0_x4 (h34_p0_o0_y x4 x31 x32 x33 r1_0 r1_1 r1_2 r1_3 r1_4 r2_0 r2_1 r2_2 r2_3 r2_4 l0) = x4 := id rfl
@[simp] theorem h34_p0_o0_x31_y (x4 : List UInt8) (x31 : List V) (x32 : Int) (x33 : Int) (r1_0 : Int) (r1_1 : Int) (r1_2 : List UInt8) (r1_3 : List V) (r1_4 : List (List UInt8)) (r2_0 : Int) (r2_1 : Int) (r2_2 : List UInt8) (r2_3 : List V) (r2_4 : List (List UInt8)) (l0 : List Int) : h34_p0_o0_x31 (h34_p0_o0_y x4 x31 x32 x33 r1_0 r1_1 r1_2 r1_3 r1_4 r2_0 r2_1 r2_2 r2_3 r2_4 l0) = x31 := id rfl
@[simp] theorem h34_p0_o0_x32_y (x4 : List UInt8) (x31 : List V) (x32 : Int) (x33 : Int) (r1_0 : Int) (r1_1 : Int) (r1_2 : List UInt8) (r1_3 : List V) (r1_4 : List (List UInt8)) (r2_0 : Int) (r2_1 : Int) (r2_2 : List UInt8) (r2_3 : List V) (r2_4 : List (List UInt8)) (l0 : List Int) : h34_p0_o0_x32 (h34_p0_o0_y x4 x31 x32 x33 r1_0 r1_1 r1_2 r1_3 r1_4 r2_0 r2_1 r2_2 r2_3 r2_4 l0) = x32 := id rfl
@[simp] theorem h34_p0_o0_x33_y (x4 : List UInt8) (x31 : List V) (x32 : Int) (x33 : Int) (r1_0 : Int) (r1_1 : Int) (r1_2 : List UInt8) (r1_3 : List V) (r1_4 : List (List UInt8)) (r2_0 : Int) (r2_1 : Int) (r2_2 : List UInt8) (r2_3 : List V) (r2_4 : List (List UInt8)) (l0 : List Int) : h34_p0_o0_x33 (h34_p0_o0_y x4 x31 x32 x33 r1_0 r1_1 r1_2 r1_3 r1_4 r2_0 r2_1 r2_2 r2_3 r2_4 l0) = x33 := id rfl
@[simp] theorem h34_p0_o0_r1_0_y (x4 : List UInt8) (x31 : List V) (x32 : Int) (x33 : Int) (r1_0 : Int) (r1_1 : Int) (r1_2 : List UInt8) (r1_3 : List V) (r1_4 : List (List UInt8)) (r2_0 : Int) (r2_1 : Int) (r2_2 : List UInt8) (r2_3 : List V) (r2_4 : List (List UInt8)) (l0 : List Int) : h34_p0_o0_r1_0 (h34_p0_o0_y x4 x31 x32 x33 r1_0 r1_1 r1_2 r1_3 r1_4 r2_0 r2_1 r2_2 r2_3 r2_4 l0) = r1_0 := id rfl
@[simp] theorem h34_p0_o0_r1_1_y (x4 : List UInt8) (x31 : List V) (x32 : Int) (x33 : Int) (r1_0 : Int) (r1_1 : Int) (r1_2 : List UInt8) (r1_3 : List V) (r1_4 : List (List UInt8)) (r2_0 : Int) (r2_1 : Int) (r2_2 : List UInt8) (r2_3 : List V) (r2_4 : List (List UInt8)) (l0 : List Int) : h34_p0_o0_r1_1 (h34_p0_o0_y x4 x31 x32 x33 r1_0 r1_1 r1_2 r1_3 r1_4 r2_0 r2_1 r2_2 r2_3 r2_4 l0) = r1_1 := id rfl
@[simp] theorem h34_p0_o0_r1_2_y (x4 : List UInt8) (x31 : List V) (x32 : Int) (x33 : Int) (r1_0 : Int) (r1_1 : Int) (r1_2 : List UInt8) (r1_3 : List V) (r1_4 : List (List UInt8)) (r2_0 : Int) (r2_1 : Int) (r2_2 : List UInt8) (r2_3 : List V) (r2_4 : List (List UInt8)) (l0 : List Int) : h34_p0_o0_r1_2 (h34_p0_o0_y x4 x31 x32 x33 r1_0 r1_1 r1_2 r1_3 r1_4 r2_0 r2_1 r2_2 r2_3 r2_4 l0) = r1_2 := id rfl
@[simp] theorem h34_p0_o0_r1_3_y (x4 : List UInt8) (x31 : List V) (x32 : Int) (x33 : Int) (r1_0 : Int) (r1_1 : Int) (r1_2 : List UInt8) (r1_3 : List V) (r1_4 : List (List UInt8)) (r2_0 : Int) (r2_1 : Int) (r2_2 : List UInt8) (r2_3 : List V) (r2_4 : List (List UInt8)) (l0 : List Int) : h34_p0_o0_r1_3 (h34_p0_o0_y x4 x31 x32 x33 r1_0 r1_1 r1_2 r1_3 r1_4 r2_0 r2_1 r2_2 r2_3 r2_4 l0) = r1_3 := id rfl
@[simp] theorem h34_p0_o0_r1_4_y (x4 : List UInt8) (x31 : List V) (x32 : Int) (x33 : Int) (r1_0 : Int) (r1_1 : Int) (r1_2 : List UInt8) (r1_3 : List V) (r1_4 : List (List UInt8)) (r2_0 : Int) (r2_1 : Int) (r2_2 : List UInt8) (r2_3 : List V) (r2_4 : List (List UInt8)) (l0 : List Int) : h34_p0_o0_r1_4 (h34_p0_o0_y x4 x31 x32 x33 r1_0 r1_1 r1_2 r1_3 r1_4 r2_0 r2_1 r2_2 r2_3 r2_4 l0) = r1_4 := id rfl
@[simp] theorem h34_p0_o0_r2_0_y (x4 : List UInt8) (x31 : List V) (x32 : Int) (x33 : Int) (r1_0 : Int) (r1_1 : Int) (r1_2 : List UInt8) (r1_3 : List V) (r1_4 : List (List UInt8)) (r2_0 : Int) (r2_1 : Int) (r2_2 : List UInt8) (r2_3 : List V) (r2_4 : List (List UInt8)) (l0 : List Int) : h34_p0_o0_r2_0 (h34_p0_o0_y x4 x31 x32 x33 r1_0 r1_1 r1_2 r1_3 r1_4 r2_0 r2_1 r2_2 r2_3 r2_4 l0) = r2_0 := id rfl
@[simp] theorem h34_p0_o0_r2_1_y (x4 : List UInt8) (x31 : List V) (x32 : Int) (x33 : Int) (r1_0 : Int) (r1_1 : Int) (r1_2 : List UInt8) (r1_3 : List V) (r1_4 : List (List UInt8)) (r2_0 : Int) (r2_1 : Int) (r2_2 : List UInt8) (r2_3 : List V) (r2_4 : List (List UInt8)) (l0 : List Int) : h34_p0_o0_r2_1 (h34_p0_o0_y x4 x31 x32 x33 r1_0 r1_1 r1_2 r1_3 r1_4 r2_0 r2_1 r2_2 r2_3 r2_4 l0) = r2_1 := id rfl
@[simp] theorem h34_p0_o0_r2_2_y (x4 : List UInt8) (x31 : List V) (x32 : Int) (x33 : Int) (r1_0 : Int) (r1_1 : Int) (r1_2 : List UInt8) (r1_3 : List V) (r1_4 : List (List UInt8)) (r2_0 : Int) (r2_1 : Int) (r2_2 : List UInt8) (r2_3 : List V) (r2_4 : List (List UInt8)) (l0 : List Int) : h34_p0_o0_r2_2 (h34_p0_o0_y x4 x31 x32 x33 r1_0 r1_1 r1_2 r1_3 r1_4 r2_0 r2_1 r2_2 r2_3 r2_4 l0) = r2_2 := id rfl
@[simp] theorem h34_p0_o0_r2_3_y (x4 : List UInt8) (x31 : List V) (x32 : Int) (x33 : Int) (r1_0 : Int) (r1_1 : Int) (r1_2 : List UInt8) (r1_3 : List V) (r1_4 : List (List UInt8)) (r2_0 : Int) (r2_1 : Int) (r2_2 : List UInt8) (r2_3 : List V) (r2_4 : List (List UInt8)) (l0 : List Int) : h34_p0_o0_r2_3 (h34_p0_o0_y x4 x31 x32 x33 r1_0 r1_1 r1_2 r1_3 r1_4 r2_0 r2_1 r2_2 r2_3 r2_4 l0) = r2_3 := id rfl
@[simp] theorem h34_p0_o0_r2_4_y (x4 : List UInt8) (x31 : List V) (x32 : Int) (x33 : Int) (r1_0 : Int) (r1_1 : Int) (r1_2 : List UInt8) (r1_3 : List V) (r1_4 : List (List UInt8)) (r2_0 : Int) (r2_1 : Int) (r2_2 : List UInt8) (r2_3 : List V) (r2_4 : List (List UInt8)) (l0 : List Int) : h34_p0_o0_r2_4 (h34_p0_o0_y x4 x31 x32 x33 r1_0 r1_1 r1_2 r1_3 r1_4 r2_0 r2_1 r2_2 r2_3 r2_4 l0) = r2_4 := id rfl
@[simp] theorem h34_p0_o0_l0_y (x4 : List UInt8) (x31 : List V) (x32 : Int) (x33 : Int) (r1_0 : Int) (r1_1 : Int) (r1_2 : List UInt8) (r1_3 : List V) (r1_4 : List (List UInt8)) (r2_0 : Int) (r2_1 : Int) (r2_2 : List UInt8) (r2_3 : List V) (r2_4 : List (List UInt8)) (l0 : List Int) : h34_p0_o0_l0 (h34_p0_o0_y x4 x31 x32 x33 r1_0 r1_1 r1_2 r1_3 r1_4 r2_0 r2_1 r2_2 r2_3 r2_4 l0) = l0 := id rfl
theorem h34_p0_eq (x4 : List UInt8) (x5 : Int) (x31 : List V) (x32 : Int) (x33 : Int) (r1_0 : Int) (r1_1 : Int) (r1_2 : List UInt8) (r1_3 : List V) (r1_4 : List (List UInt8)) (r2_0 : Int) (r2_1 : Int) (r2_2 : List UInt8) (r2_3 : List V) (r2_4 : List (List UInt8)) (l0 : List Int) : h34_p0_F (h34_p0_y x4 x5 x31 x32 x33 r1_0 r1_1 r1_2 r1_3 r1_4 r2_0 r2_1 r2_2 r2_3 r2_4 l0) = (bif (r1_0 == (4 : Int)) then ((nth r1_4 x5).bind fun y72 => (f54_F (y72, ())).bind fun r73 => (h53a_F (h53a_y r73.1 l0)).bind fun z74 => (h53a_F (h53a_y ([58] : List UInt8) (h53a_o_l0 z74))).bind fun z75 => some ((h34_p0_o0_y x4 x31 x32 x33 r1_0 r1_1 r1_2 r1_3 r1_4 r2_0 r2_1 r2_2 r2_3 r2_4 (h53a_o_l0 z75)))) else (some ((h34_p0_o0_y x4 x31 x32 x33 r1_0 r1_1 r1_2 r1_3 r1_4 r2_0 r2_1 r2_2 r2_3 r2_4 l0)))) := by kernel_rfl
def h34_p1_y (x4 : List UInt8) (x5 : Int) (x31 : List V) (x32 : Int) (x33 : Int) (r1_0 : Int) (r1_1 : Int) (r1_2 : List UInt8) (r1_3 : List V) (r1_4 : List (List UInt8)) (r2_0 : Int) (r2_1 : Int) (r2_2 : List UInt8) (r2_3 : List V) (r2_4 : List (List UInt8)) (l0 : List Int) : h34_p1_sh.den := (((), ((), ((), ((), (x4, (x5, ((), ((), ((), ((), ((), ((), ((), ((), ((), ((), ((), ((), ((), ((), ((), ((), ((), ((), ((), ((), ((), ((), ((), ((), ((), (x31, (x32, (x33, ((), ((), ((), ((), ((), ((), ((), ((), ((), ((), ((), ((), ((), ((), ((), ((), ((), ((), ((), ((), ((), ((), ((), ((), ((), ((), ((), ((), ((), ()))))))))))))))))))))))))))))))))))))))))))))))))))))))))))))))), (((), ((), ())), ((r1_0, (r1_1, (r1_2, (r1_3, (r1_4, ()))))), ((r2_0, (r2_1, (r2_2, (r2_3, (r2_4, ()))))), ()))), (l0, ()))
def h34_p1_o0_y (x4 : List UInt8) (x5 : Int) (x31 : List V) (x32 : Int) (x33 : Int) (r1_0 : Int) (r1_1 : Int) (r1_2 : List UInt8) (r1_3 : List V) (r1_4 : List (List UInt8)) (r2_0 : Int) (r2_1 : Int) (r2_2 : List UInt8) (r2_3 : List V) (r2_4 : List (List UInt8)) (l0 : List Int) : h34_p1_o0.den := (((), ((), ((), ((), (x4, (x5, ((), ((), ((), ((), ((), ((), ((), ((), ((), ((), ((), ((), ((), ((), ((), ((), ((), ((), ((), ((), ((), ((), ((), ((), ((), (x31, (x32, (x33, ((), ((), ((), ((), ((), ((), ((), ((), ((), ((), ((), ((), ((), ((), ((), ((), ((), ((), ((), ((), ((), ((), ((), ((), ((), ((), ((), ((), ((), ()))))))))))))))))))))))))))))))))))))))))))))))))))))))))))))))), (((), ((), ())), ((r1_0, (r1_1, (r1_2, (r1_3, (r1_4, ()))))), ((r2_0, (r2_1, (r2_2, (r2_3, (r2_4, ()))))), ()))), (l0, ()))
def h34_p1_o0_x4 (z : h34_p1_o0.den) : List UInt8 := z.1.2.2.2.2.1
def h34_p1_o0_x5 (z : h34_p1_o0.den) : Int := z.1.2.2.2.2.2.1
def h34_p1_o0_x31 (z : h34_p1_o0.den) : List V := z.1.2.2.2.2.2.2.2.2.2.2.2.2.2.2.2.2.2.2.2.2.2.2.2.2.2.2.2.2.2.2.2.1
def h34_p1_o0_x32 (z : h34_p1_o0.den) : Int := z.1.2.2.2.2.2.2.2.2.2.2.2.2.2.2.2.2.2.2.2.2.2.2.2.2.2.2.2.2.2.2.2.2.1
def h34_p1_o0_x33 (z : h34_p1_o0.den) : Int := z.1.2.2.2.2.2.2.2.2.2.2.2.2.2.2.2.2.2.2.2.2.2.2.2.2.2.2.2.2.2.2.2.2.2.1
def h34_p1_o0_r1_0 (z : h34_p1_o0.den) : Int := z.2.1.2.1.1
def h34_p1_o0_r1_1 (z : h34_p1_o0.den) : Int := z.2.1.2.1.2.1
def h34_p1_o0_r1_2 (z : h34_p1_o0.den) : List UInt8 := z.2.1.2.1.2.2.1
def h34_p1_o0_r1_3 (z : h34_p1_o0.den) : List V := z.2.1.2.1.2.2.2.1
def h34_p1_o0_r1_4 (z : h34_p1_o0.den) : List (List UInt8) := z.2.1.2.1.2.2.2.2.1
def h34_p1_o0_r2_0 (z : h34_p1_o0.den) : Int := z.2.1.2.2.1.1
def h34_p1_o0_r2_1 (z : h34_p1_o0.den) : Int := z.2.1.2.2.1.2.1
def h34_p1_o0_r2_2 (z : h34_p1_o0.den) : List UInt8 := z.2.1.2.2.1.2.2.1
def h34_p1_o0_r2_3 (z : h34_p1_o0.den) : List V := z.2.1.2.2.1.2.2.2.1
def h34_p1_o0_r2_4 (z : h34_p1_o0.den) : List (List UInt8) := z.2.1.2.2.1.2.2.2.2.1
def h34_p1_o0_l0 (z : h34_p1_o0.den) : List Int := z.2.2.1
@[simp] theorem h34_p1_o0_x4_y (x4 : List UInt8) (x5 : Int) (x31 : List V) (x32 : Int) (x33 : Int) (r1_0 : Int) (r1_1 : Int) (r1_2 : List UInt8) (r1_3 : List V) (r1_4 : List (List UInt8)) (r2_0 : Int) (r2_1 : Int) (r2_2 : List UInt8) (r2_3 : List V) (r2_4 : List (List UInt8)) (l0 : List Int) : h34_p1_o0_x4 (h34_p1_o0_y x4 x5 x31 x32 x33 r1_0 r1_1 r1_2 r1_3 r1_4 r2_0 r2_1 r2_2 r2_3 r2_4 l0) = x4 := id rfl
@[simp] theorem h34_p1_o0_x5_y (x4 : List UInt8) (x5 : Int) (x31 : List V) (x32 : Int) (x33 : Int) (r1_0 : Int) (r1_1 : Int) (r1_2 : List UInt8) (r1_3 : List V) (r1_4 : List (List UInt8)) (r2_0 : Int) (r2_1 : Int) (r2_2 : List UInt8) (r2_3 : List V) (r2_4 : List (List UInt8)) (l0 : List Int) : h34_p1_o0_x5 (h34_p1_o0_y x4 x5 x31 x32 x33 r1_0 r1_1 r1_2 r1_3 r1_4 r2_0 r2_1 r2_2 r2_3 r2_4 l0) = x5 := id rfl
@[simp] theorem h34_p1_o0_x31_y (x4 : List UInt8) (x5 : Int) (x31 : List V) (x32 : Int) (x33 : Int) (r1_0 : Int) (r1_1 : Int) (r1_2 : List UInt8) (r1_3 : List V) (r1_4 : List (List UInt8)) (r2_0 : Int) (r2_1 : Int) (r2_2 : List UInt8) (r2_3 : List V) (r2_4 : List (List UInt8)) (l0 : List Int) : h34_p1_o0_x31 (h34_p1_o0_y x4 x5 x31 x32 x33 r1_0 r1_1 r1_2 r1_3 r1_4 r2_0 r2_1 r2_2 r2_3 r2_4 l0) = x31 := id rfl
@[simp] theorem h34_p1_o0_x32_y (x4 : List UInt8) (x5 : Int) (x31 : List V) (x32 : Int) (x33 : Int) (r1_0 : Int) (r1_1 : Int) (r1_2 : List UInt8) (r1_3 : List V) (r1_4 : List (List UInt8)) (r2_0 : Int) (r2_1 : Int) (r2_2 : List UInt8) (r2_3 : List V) (r2_4 : List (List UInt8)) (l0 : List Int) : h34_p1_o0_x32 (h34_p1_o0_y x4 x5 x31 x32 x33 r1_0 r1_1 r1_2 r1_3 r1_4 r2_0 r2_1 r2_2 r2_3 r2_4 l0) = x32 := id rfl
@[simp] theorem h34_p1_o0_x33_y (x4 : List UInt8) (x5 : Int) (x31 : List V) (x32 : Int) (x33 : Int) (r1_0 : Int) (r1_1 : Int) (r1_2 : List UInt8) (r1_3 : List V) (r1_4 : List (List UInt8)) (r2_0 : Int) (r2_1 : Int) (r2_2 : List UInt8) (r2_3 : List V) (r2_4 : List (List UInt8)) (l0 : List Int) : h34_p1_o0_x33 (h34_p1_o0_y x4 x5 x31 x32 x33 r1_0 r1_1 r1_2 r1_3 r1_4 r2_0 r2_1 r2_2 r2_3 r2_4 l0) = x33 := id rfl
@[simp] theorem h34_p1_o0_r1_0_y (x4 : List UInt8) (x5 : Int) (x31 : List V) (x32 : Int) (x33 : Int) (r1_0 : Int) (r1_1 : Int) (r1_2 : List UInt8) (r1_3 : List V) (r1_4 : List (List UInt8)) (r2_0 : Int) (r2_1 : Int) (r2_2 : List UInt8) (r2_3 : List V) (r2_4 : List (List UInt8)) (l0 : List Int) : h34_p1_o0_r1_0 (h34_p1_o0_y x4 x5 x31 x32 x33 r1_0 r1_1 r1_2 r1_3 r1_4 r2_0 r2_1 r2_2 r2_3 r2_4 l0) = r1_0 := id rfl
@[simp] theorem h34_p1_o0_r1_1_y (x4 : List UInt8) (x5 : Int) (x31 : List V) (x32 : Int) (x33 : Int) (r1_0 : Int) (r1_1 : Int) (r1_2 : List UInt8) (r1_3 : List V) (r1_4 : List (List UInt8)) (r2_0 : Int) (r2_1 : Int) (r2_2 : List UInt8) (r2_3 : List V) (r2_4 : List (List UInt8)) (l0 : List Int) : h34_p1_o0_r1_1 (h34_p1_o0_y x4 x5 x31 x32 x33 r1_0 r1_1 r1_2 r1_3 r1_4 r2_0 r2_1 r2_2 r2_3 r2_4 l0) = r1_1 := id rfl
@[simp] theorem h34_p1_o0_r1_2_y (x4 : List UInt8) (x5 : Int) (x31 : List V) (x32 : Int) (x33 : Int) (r1_0 : Int) (r1_1 : Int) (r1_2 : List UInt8) (r1_3 : List V) (r1_4 : List (List UInt8)) (r2_0 : Int) (r2_1 : Int) (r2_2 : List UInt8) (r2_3 : List V) (r2_4 : List (List UInt8)) (l0 : List Int) : h34_p1_o0_r1_2 (h34_p1_o0_y x4 x5 x31 x32 x33 r1_0 r1_1 r1_2 r1_3 r1_4 r2_0 r2_1 r2_2 r2_3 r2_4 l0) = r1_2 := id rfl
@[simp] theorem h34_p1_o0_r1_3_y (x4 : List UInt8) (x5 : Int) (x31 : List V) (x32 : Int) (x33 : Int) (r1_0 : Int) (r1_1 : Int) (r1_2 : List UInt8) (r1_3 : List V) (r1_4 : List (List UInt8)) (r2_0 : Int) (r2_1 : Int) (r2_2 : List UInt8) (r2_3 : List V) (r2_4 : List (List UInt8)) (l0 : List Int) : h34_p1_o0_r1_3 (h34_p1_o0_y x4 x5 x31 x32 x33 r1_0 r1_1 r1_2 r1_3 r1_4 r2_0 r2_1 r2_2 r2_3 r2_4 l0) = r1_3 := id rfl
@[simp] theorem h34_p1_o0_r1_4_y (x4 : List UInt8) (x5 : Int) (x31 : List V) (x32 : Int) (x33 : Int) (r1_0 : Int) (r1_1 : Int) (r1_2 : List UInt8) (r1_3 : List V) (r1_4 : List (List UInt8)) (r2_0 : Int) (r2_1 : Int) (r2_2 : List UInt8) (r2_3 : List V) (r2_4 : List (List UInt8)) (l0 : List Int) : h34_p1_o0_r1_4 (h34_p1_o0_y x4 x5 x31 x32 x33 r1_0 r1_1 r1_2 r1_3 r1_4 r2_0 r2_1 r2_2 r2_3 r2_4 l0) = r1_4 := id rfl
@[simp] theorem h34_p1_o0_r2_0_y (x4 : List UInt8) (x5 : Int) (x31 : List V) (x32 : Int) (x33 : Int) (r1_0 : Int) (r1_1 : Int) (r1_2 : List UInt8) (r1_3 : List V) (r1_4 : List (List UInt8)) (r2_0 : Int) (r2_1 : Int) (r2_2 : List UInt8) (r2_3 : List V) (r2_4 : List (List UInt8)) (l0 : List Int) : h34_p1_o0_r2_0 (h34_p1_o0_y x4 x5 x31 x32 x33 r1_0 r1_1 r1_2 r1_3 r1_4 r2_0 r2_1 r2_2 r2_3 r2_4 l0) = r2_0 := id rfl
@[simp] theorem h34_p1_o0_r2_1_y (x4 : List UInt8) (x5 : Int) (x31 : List V) (x32 : Int) (x33 : Int) (r1_0 : Int) (r1_1 : Int) (r1_2 : List UInt8) (r1_3 : List V) (r1_4 : List (List UInt8)) (r2_0 : Int) (r2_1 : Int) (r2_2 : List UInt8) (r2_3 : List V) (r2_4 : List (List UInt8)) (l0 : List Int) : h34_p1_o0_r2_1 (h34_p1_o0_y x4 x5 x31 x32 x33 r1_0 r1_1 r1_2 r1_3 r1_4 r2_0 r2_1 r2_2 r2_3 r2_4 l0) = r2_1 := id rfl
@[simp] theorem h34_p1_o0_r2_2_y (x4 : List UInt8) (x5 : Int) (x31 : List V) (x32 : Int) (x33 : Int) (r1_0 : Int) (r1_1 : Int) (r1_2 : List UInt8) (r1_3 : List V) (r1_4 : List (List UInt8)) (r2_0 : Int) (r2_1 : Int) (r2_2 : List UInt8) (r2_3 : List V) (r2_4 : List (List UInt8)) (l0 : List Int) : h34_p1_o0_r2_2 (h34_p1_o0_y x4 x5 x31 x32 x33 r1_0 r1_1 r1_2 r1_3 r1_4 r2_0 r2_1 r2_2 r2_3 r2_4 l0) = r2_2 := id rfl
@[simp] theorem h34_p1_o0_r2_3_y (x4 : List UInt8) (x5 : Int) (x31 : List V) (x32 : Int) (x33 : Int) (r1_0 : Int) (r1_1 : Int) (r1_2 : List UInt8) (r1_3 : List V) (r1_4 : List (List UInt8)) (r2_0 : Int) (r2_1 : Int) (r2_2 : List UInt8) (r2_3 : List V) (r2_4 : List (List UInt8)) (l0 : List Int) : h34_p1_o0_r2_3 (h34_p1_o0_y x4 x5 x31 x32 x33 r1_0 r1_1 r1_2 r1_3 r1_4 r2_0 r2_1 r2_2 r2_3 r2_4 l0) = r2_3 := id rfl
@[simp] theorem h34_p1_o0_r2_4_y (x4 : List UInt8) (x5 : Int) (x31 : List V) (x32 : Int) (x33 : Int) (r1_0 : Int) (r1_1 : Int) (r1_2 : List UInt8) (r1_3 : List V) (r1_4 : List (List UInt8)) (r2_0 : Int) (r2_1 : Int) (r2_2 : List UInt8) (r2_3 : List V) (r2_4 : List (List UInt8)) (l0 : List Int) : h34_p1_o0_r2_4 (h34_p1_o0_y x4 x5 x31 x32 x33 r1_0 r1_1 r1_2 r1_3 r1_4 r2_0 r2_1 r2_2 r2_3 r2_4 l0) = r2_4 := id rfl
@[simp] theorem h34_p1_o0_l0_y (x4 : List UInt8) (x5 : Int) (x31 : List V) (x32 : Int) (x33 : Int) (r1_0 : Int) (r1_1 : Int) (r1_2 : List UInt8) (r1_3 : List V) (r1_4 : List (List UInt8)) (r2_0 : Int) (r2_1 : Int) (r2_2 : List UInt8) (r2_3 : List V) (r2_4 : List (List UInt8)) (l0 : List Int) : h34_p1_o0_l0 (h34_p1_o0_y x4 x5 x31 x32 x33 r1_0 r1_1 r1_2 r1_3 r1_4 r2_0 r2_1 r2_2 r2_3 r2_4 l0) = l0 := id rfl
theorem h34_p1_eq (x4 : List UInt8) (x5 : Int) (x31 : List V) (x32 : Int) (x33 : Int) (r1_0 : Int) (r1_1 : Int) (r1_2 : List UInt8) (r1_3 : List V) (r1_4 : List (List UInt8)) (r2_0 : Int) (r2_1 : Int) (r2_2 : List UInt8) (r2_3 : List V) (r2_4 : List (List UInt8)) (l0 : List Int) : h34_p1_F (h34_p1_y x4 x5 x31 x32 x33 r1_0 r1_1 r1_2 r1_3 r1_4 r2_0 r2_1 r2_2 r2_3 r2_4 l0) = (bif (decide (x5 > (0 : Int))) then ((h53a_F (h53a_y ([44] : List UInt8) l0)).bind fun z76 => some ((h34_p1_o0_y x4 x5 x31 x32 x33 r1_0 r1_1 r1_2 r1_3 r1_4 r2_0 r2_1 r2_2 r2_3 r2_4 (h53a_o_l0 z76)))) else (some ((h34_p1_o0_y x4 x5 x31 x32 x33 r1_0 r1_1 r1_2 r1_3 r1_4 r2_0 r2_1 r2_2 r2_3 r2_4 l0)))) := by kernel_rfl
def h34_p2_y (x4 : List UInt8) (x31 : List V) (x32 : Int) (x33 : Int) (r1_0 : Int) (r1_1 : Int) (r1_2 : List UInt8) (r1_3 : List V) (r1_4 : List (List UInt8)) (l0 : List Int) : h34_p2_sh.den := (((), ((), ((), ((), (x4, ((), ((), ((), ((), ((), ((), ((), ((), ((), ((), ((), ((), ((), ((), ((), ((), ((), ((), ((), ((), ((), ((), ((), ((), ((), ((), (x31, (x32, (x33, ((), ((), ((), ((), ((), ((), ((), ((), ((), ((), ((), ((), ((), ((), ((), ((), ((), ((), ((), ((), ((), ((), ((), ((), ((), ((), ((), ((), ((), ()))))))))))))))))))))))))))))))))))))))))))))))))))))))))))))))), (((), ((), ())), ((r1_0, (r1_1, (r1_2, (r1_3, (r1_4, ()))))), ())), (l0, ()))
def h34_p2_o0_y (x4 : List UInt8) (l0 : List Int) : h34_p2_o0.den := (((), ((), ((), ((), (x4, ((), ((), ((), ((), ((), ((), ((), ((), ((), ((), ((), ((), ((), ((), ((), ((), ((), ((), ((), ((), ((), ((), ((), ((), ((), ((), ((), ((), ((), ((), ((), ((), ((), ((), ((), ((), ((), ((), ((), ((), ((), ((), ((), ((), ((), ((), ((), ((), ((), ((), ((), ((), ((), ((), ((), ((), ((), ((), ()))))))))))))))))))))))))))))))))))))))))))))))))))))))))))))))), (((), ((), ())), ()), (l0, ()))
def h34_p2_o0_x4 (z : h34_p2_o0.den) : List UInt8 := z.1.2.2.2.2.1
def h34_p2_o0_l0 (z : h34_p2_o0.den) : List Int := z.2.2.1
@[simp] theorem h34_p2_o0_x4_y (x4 : List UInt8) (l0 : List Int) : h34_p2_o0_x4 (h34_p2_o0_y x4 l0) = x4 := id rfl
@[simp] theorem h34_p2_o0_l0_y (x4 : List UInt8) (l0 : List Int) : h34_p2_o0_l0 (h34_p2_o0_y x4 l0) = l0 := id rfl
theorem h34_p2_eq (rec : h34_p2_sh.den → Option (OutDen h34_p2_outs)) (x4 : List UInt8) (x31 : List V) (x32 : Int) (x33 : Int) (r1_0 : Int) (r1_1 : Int) (r1_2 : List UInt8) (r1_3 : List V) (r1_4 : List (List UInt8)) (l0 : List Int) : h34_p2_st rec (h34_p2_y x4 x31 x32 x33 r1_0 r1_1 r1_2 r1_3 r1_4 l0) = (bif (decide (x33 < x32)) then ((nth x31 x33).bind fun y77 => (h34_p1_F (h34_p1_y x4 x33 x31 x32 x33 r1_0 r1_1 r1_2 r1_3 r1_4 y77.kind y77.n y77.s y77.items y77.keys l0)).bind fun o78 => (h34_p0_F (h34_p0_y (h34_p1_o0_x4 o78) (h34_p1_o0_x5 o78) (h34_p1_o0_x31 o78) (h34_p1_o0_x32 o78) (h34_p1_o0_x33 o78) (h34_p1_o0_r1_0 o78) (h34_p1_o0_r1_1 o78) (h34_p1_o0_r1_2 o78) (h34_p1_o0_r1_3 o78) (h34_p1_o0_r1_4 o78) (h34_p1_o0_r2_0 o78) (h34_p1_o0_r2_1 o78) (h34_p1_o0_r2_2 o78) (h34_p1_o0_r2_3 o78) (h34_p1_o0_r2_4 o78) (h34_p1_o0_l0 o78))).bind fun o79 => (h34a_F (h34a_y (h34_p0_o0_r2_0 o79) (h34_p0_o0_r2_1 o79) (h34_p0_o0_r2_2 o79) (h34_p0_o0_r2_3 o79) (h34_p0_o0_r2_4 o79) (h34_p0_o0_l0 o79))).bind fun z80 => rec (h34_p2_y (h34_p0_o0_x4 o79) (h34_p0_o0_x31 o79) (h34_p0_o0_x32 o79) (IntKind.i64.wrap ((h34_p0_o0_x33 o79) + (1 : Int))) (h34_p0_o0_r1_0 o79) (h34_p0_o0_r1_1 o79) (h34_p0_o0_r1_2 o79) (h34_p0_o0_r1_3 o79) (h34_p0_o0_r1_4 o79) (h34a_o_l0 z80))) else (some ((h34_p2_o0_y x4 l0)))) := by kernel_rfl
theorem h34_eq (x1_0 : Int) (x1_1 : Int) (x1_2 : List UInt8) (x1_3 : List V) (x1_4 : List (List UInt8)) : h34_F (h34_y x1_0 x1_1 x1_2 x1_3 x1_4) = (bif (x1_0 == (1 : Int)) then ((formatF (x1_1, ((10 : Int), ()))).bind fun r81 => (h53_F (h53_y r81.1)).bind fun z82 => some (h34_o_y (h53_o_l0 z82))) else (bif (x1_0 == (2 : Int)) then ((f54_F (x1_2, ())).bind fun r83 => (h53_F (h53_y r83.1)).bind fun z84 => some (h34_o_y (h53_o_l0 z84))) else (bif (x1_0 == (4 : Int)) then (cutHi ([123, 125] : List UInt8) (1 : Int) fun s85 => (h53_F (h53_y s85)).bind fun z86 => (go h34_p2_st (h34_p2_y ([123, 125] : List UInt8) x1_3 (x1_3.length : Int) (0 : Int) x1_0 x1_1 x1_2 x1_3 x1_4 (h53_o_l0 z86))).bind fun o87 => cutLo (h34_p2_o0_x4 o87) (1 : Int) fun s88 => (h53a_F (h53a_y s88 (h34_p2_o0_l0 o87))).bind fun z89 => some (h34_o_y (h53a_o_l0 z89))) else (cutHi ([91, 93] : List UInt8) (1 : Int) fun s90 => (h53_F (h53_y s90)).bind fun z91 => (go h34_p2_st (h34_p2_y ([91, 93] : List UInt8) x1_3 (x1_3.length : Int) (0 : Int) x1_0 x1_1 x1_2 x1_3 x1_4 (h53_o_l0 z91))).bind fun o92 => cutLo (h34_p2_o0_x4 o92) (1 : Int) fun s93 => (h53a_F (h53a_y s93 (h34_p2_o0_l0 o92))).bind fun z94 => some (h34_o_y (h53a_o_l0 z94)))))) := by kernel_rfl
theorem f14_eq (a0_0 : Int) (a0_1 : Int) (a0_2 : List UInt8) (a0_3 : List V) (a0_4 : List (List UInt8)) : f14_F ((a0_0, (a0_1, (a0_2, (a0_3, (a0_4, ()))))), ()) = ((f19_F ((a0_0, (a0_1, (a0_2, (a0_3, (a0_4, ()))))), ())).bind fun r95 => bif (!r95.1) then (some (([] : List UInt8), ((1 : Int), ()))) else ((h34_F (h34_y a0_0 a0_1 a0_2 a0_3 a0_4)).bind fun z96 => (h35_F (h35_y (h34_o_l0 z96))).bind fun z97 => some ((h35_o_x0 z97), ((0 : Int), ())))) := by kernel_rfl
theorem f13_eq : f13_F () = ((f23_F ((1 : Int), ())).bind fun r98 => (f22_F (([97, 34, 98] : List UInt8), ())).bind fun r99 => (f28_F ([(V.mk r98.1.1 r98.1.2.1 r98.1.2.2.1 r98.1.2.2.2.1 r98.1.2.2.2.2.1), (V.mk r99.1.1 r99.1.2.1 r99.1.2.2.1 r99.1.2.2.2.1 r99.1.2.2.2.2.1)], ())).bind fun r100 => (f14_F ((r100.1.1, (r100.1.2.1, (r100.1.2.2.1, (r100.1.2.2.2.1, (r100.1.2.2.2.2.1, ()))))), ())).bind fun r101 => bif (r101.2.1 == (0 : Int)) then (some ((r101.1 == ([91, 49, 44, 34, 97, 92, 34, 98, 34, 93] : List UInt8)), ())) else (some (false, ()))) := by rw [f13_Fe]; kernel_rfl
def f24_p0_y (x64 : Int) (x65 : Int) (r0_0 : Int) (r0_1 : Int) (r0_2 : List UInt8) (r0_3 : List V) (r0_4 : List (List UInt8)) (r1_0 : Int) (r1_1 : Int) (r1_2 : List UInt8) (r1_3 : List V) (r1_4 : List (List UInt8)) : f24_p0_sh.den := (((), ((), ((), ((), ((), ((), ((), ((), ((), ((), ((), ((), ((), ((), ((), ((), ((), ((), ((), ((), ((), ((), ((), ((), ((), ((), ((), ((), ((), ((), ((), ((), ((), ((), ((), ((), ((), ((), ((), ((), ((), ((), ((), ((), ((), ((), ((), ((), ((), ((), ((), ((), ((), ((), ((), ((), ((), ((), ((), ((), ((), ((), ((), ((), (x64, (x65, ((), ((), ((), ((), ((), ((), ((), ((), ((), ((), ((), ((), ((), ((), ((), ()))))))))))))))))))))))))))))))))))))))))))))))))))))))))))))))))))))))))))))))))), ((r0_0, (r0_1, (r0_2, (r0_3, (r0_4, ()))))), ((r1_0, (r1_1, (r1_2, (r1_3, (r1_4, ()))))), ())), ())
def f24_p0_o0_y : f24_p0_o0.den := (((), ((), ((), ((), ((), ((), ((), ((), ((), ((), ((), ((), ((), ((), ((), ((), ((), ((), ((), ((), ((), ((), ((), ((), ((), ((), ((), ((), ((), ((), ((), ((), ((), ((), ((), ((), ((), ((), ((), ((), ((), ((), ((), ((), ((), ((), ((), ((), ((), ((), ((), ((), ((), ((), ((), ((), ((), ((), ((), ((), ((), ((), ((), ((), ((), ((), ((), ((), ((), ((), ((), ((), ((), ((), ((), ((), ((), ((), ((), ((), ((), ()))))))))))))))))))))))))))))))))))))))))))))))))))))))))))))))))))))))))))))))))), (), ())
def f24_p0_o1_y (x4 : Bool) : f24_p0_o1.den := (((), ((), ((), ((), (x4, ((), ((), ((), ((), ((), ((), ((), ((), ((), ((), ((), ((), ((), ((), ((), ((), ((), ((), ((), ((), ((), ((), ((), ((), ((), ((), ((), ((), ((), ((), ((), ((), ((), ((), ((), ((), ((), ((), ((), ((), ((), ((), ((), ((), ((), ((), ((), ((), ((), ((), ((), ((), ((), ((), ((), ((), ((), ((), ((), ((), ((), ((), ((), ((), ((), ((), ((), ((), ((), ((), ((), ((), ((), ((), ((), ((), ()))))))))))))))))))))))))))))))))))))))))))))))))))))))))))))))))))))))))))))))))), (), ())
def f24_p0_o1_x4 (z : f24_p0_o1.den) : Bool := z.1.2.2.2.2.1
@[simp] theorem f24_p0_o1_x4_y (x4 : Bool) : f24_p0_o1_x4 (f24_p0_o1_y x4) = x4 := id rfl
theorem f24_p0_eq (G : argsDen f24_ps → Option (argsDen f24_rs)) (hG : Sound Tryd.prog 24 (pfun G)) (rec : f24_p0_sh.den → Option (OutDen f24_p0_outs)) (x64 : Int) (x65 : Int) (r0_0 : Int) (r0_1 : Int) (r0_2 : List UInt8) (r0_3 : List V) (r0_4 : List (List UInt8)) (r1_0 : Int) (r1_1 : Int) (r1_2 : List UInt8) (r1_3 : List V) (r1_4 : List (List UInt8)) : f24_p0_st G hG rec (f24_p0_y x64 x65 r0_0 r0_1 r0_2 r0_3 r0_4 r1_0 r1_1 r1_2 r1_3 r1_4) = (bif (decide (x65 < x64)) then ((nth r0_3 x65).bind fun y188 => (nth r1_3 x65).bind fun y189 => (G ((y188.kind, (y188.n, (y188.s, (y188.items, (y188.keys, ()))))), ((y189.kind, (y189.n, (y189.s, (y189.items, (y189.keys, ()))))), ()))).bind fun r190 => bif (!r190.1) then (some (.inr ((f24_p0_o1_y false)))) else (rec (f24_p0_y x64 (IntKind.i64.wrap (x65 + (1 : Int))) r0_0 r0_1 r0_2 r0_3 r0_4 r1_0 r1_1 r1_2 r1_3 r1_4))) else (some (.inl f24_p0_o0_y))) := by kernel_rfl
def f24_p1_y (x46 : Int) (x47 : Int) (r0_0 : Int) (r0_1 : Int) (r0_2 : List UInt8) (r0_3 : List V) (r0_4 : List (List UInt8)) (r1_0 : Int) (r1_1 : Int) (r1_2 : List UInt8) (r1_3 : List V) (r1_4 : List (List UInt8)) : f24_p1_sh.den := (((), ((), ((), ((), ((), ((), ((), ((), ((), ((), ((), ((), ((), ((), ((), ((), ((), ((), ((), ((), ((), ((), ((), ((), ((), ((), ((), ((), ((), ((), ((), ((), ((), ((), ((), ((), ((), ((), ((), ((), ((), ((), ((), ((), ((), ((), (x46, (x47, ((), ((), ((), ((), ((), ((), ((), ((), ((), ((), ((), ((), ((), ((), ((), ((), ((), ((), ((), ((), ((), ((), ((), ((), ((), ((), ((), ((), ((), ((), ((), ((), ((), ()))))))))))))))))))))))))))))))))))))))))))))))))))))))))))))))))))))))))))))))))), ((r0_0, (r0_1, (r0_2, (r0_3, (r0_4, ()))))), ((r1_0, (r1_1, (r1_2, (r1_3, (r1_4, ()))))), ())), ())
def f24_p1_o0_y (r0_0 : Int) (r0_1 : Int) (r0_2 : List UInt8) (r0_3 : List V) (r0_4 : List (List UInt8)) (r1_0 : Int) (r1_1 : Int) (r1_2 : List UInt8) (r1_3 : List V) (r1_4 : List (List UInt8)) : f24_p1_o0.den := (((), ((), ((), ((), ((), ((), ((), ((), ((), ((), ((), ((), ((), ((), ((), ((), ((), ((), ((), ((), ((), ((), ((), ((), ((), ((), ((), ((), ((), ((), ((), ((), ((), ((), ((), ((), ((), ((), ((), ((), ((), ((), ((), ((), ((), ((), ((), ((), ((), ((), ((), ((), ((), ((), ((), ((), ((), ((), ((), ((), ((), ((), ((), ((), ((), ((), ((), ((), ((), ((), ((), ((), ((), ((), ((), ((), ((), ((), ((), ((), ((), ()))))))))))))))))))))))))))))))))))))))))))))))))))))))))))))))))))))))))))))))))), ((r0_0, (r0_1, (r0_2, (r0_3, (r0_4, ()))))), ((r1_0, (r1_1, (r1_2, (r1_3, (r1_4, ()))))), ())), ())
def f24_p1_o0_r0_0 (z : f24_p1_o0.den) : Int := z.2.1.1.1
def f24_p1_o0_r0_1 (z : f24_p1_o0.den) : Int := z.2.1.1.2.1
def f24_p1_o0_r0_2 (z : f24_p1_o0.den) : List UInt8 := z.2.1.1.2.2.1
def f24_p1_o0_r0_3 (z : f24_p1_o0.den) : List V := z.2.1.1.2.2.2.1
def f24_p1_o0_r0_4 (z : f24_p1_o0.den) : List (List UInt8) := z.2.1.1.2.2.2.2.1
def f24_p1_o0_r1_0 (z : f24_p1_o0.den) : Int := z.2.1.2.1.1
def f24_p1_o0_r1_1 (z : f24_p1_o0.den) : Int := z.2.1.2.1.2.1
def f24_p1_o0_r1_2 (z : f24_p1_o0.den) : List UInt8 := z.2.1.2.1.2.2.1
def f24_p1_o0_r1_3 (z : f24_p1_o0.den) : List V := z.2.1.2.1.2.2.2.1
def f24_p1_o0_r1_4 (z : f24_p1_o0.den) : List (List UInt8) := z.2.1.2.1.2.2.2.2.1
@[simp] theorem f24_p1_o0_r0_0_y (r0_0 : Int) (r0_1 : Int) (r0_2 : List UInt8) (r0_3 : List V) (r0_4 : List (List UInt8)) (r1_0 : Int) (r1_1 : Int) (r1_2 : List UInt8) (r1_3 : List V) (r1_4 : List (List UInt8)) : f24_p1_o0_r0_0 (f24_p1_o0_y r0_0 r0_1 r0_2 r0_3 r0_4 r1_0 r1_1 r1_2 r1_3 r1_4) = r0_0 := id rfl
@[simp] theorem f24_p1_o0_r0_1_y (r0_0 : Int) (r0_1 : Int) (r0_2 : List UInt8) (r0_3 : List V) (r0_4 : List (List UInt8)) (r1_0 : Int) (r1_1 : Int) (r1_2 : List UInt8) (r1_3 : List V) (r1_4 : List (List UInt8)) : f24_p1_o0_r0_1 (f24_p1_o0_y r0_0 r0_1 r0_2 r0_3 r0_4 r1_0 r1_1 r1_2 r1_3 r1_4) = r0_1 := id rfl
@[simp] theorem f24_p1_o0_r0_2_y (r0_0 : Int) (r0_1 : Int) (r0_2 : List UInt8) (r0_3 : List V) (r0_4 : List (List UInt8)) (r1_0 : Int) (r1_1 : Int) (r1_2 : List UInt8) (r1_3 : List V) (r1_4 : List (List UInt8)) : f24_p1_o0_r0_2 (f24_p1_o0_y r0_0 r0_1 r0_2 r0_3 r0_4 r1_0 r1_1 r1_2 r1_3 r1_4) = r0_2 := id rfl
@[simp] theorem f24_p1_o0_r0_3_y (r0_0 : Int) (r0_1 : Int) (r0_2 : List UInt8) (r0_3 : List V) (r0_4 : List (List UInt8)) (r1_0 : Int) (r1_1 : Int) (r1_2 : List UInt8) (r1_3 : List V) (r1_4 : List (List UInt8)) : f24_p1_o0_r0_3 (f24_p1_o0_y r0_0 r0_1 r0_2 r0_3 r0_4 r1_0 r1_1 r1_2 r1_3 r1_4) = r0_3 := id rfl
@[simp] theorem f24_p1_o0_r0_4_y (r0_0 : Int) (r0_1 : Int) (r0_2 : List UInt8) (r0_3 : List V) (r0_4 : List (List UInt8)) (r1_0 : Int) (r1_1 : Int) (r1_2 : List UInt8) (r1_3 : List V) (r1_4 : List (List UInt8)) : f24_p1_o0_r0_4 (f24_p1_o0_y r0_0 r0_1 r0_2 r0_3 r0_4 r1_0 r1_1 r1_2 r1_3 r1_4) = r0_4 := id rfl
@[simp] theorem f24_p1_o0_r1_0_y (r0_0 : Int) (r0_1 : Int) (r0_2 : List UInt8) (r0_3 : List V) (r0_4 : List (List UInt8)) (r1_0 : Int) (r1_1 : Int) (r1_2 : List UInt8) (r1_3 : List V) (r1_4 : List (List UInt8)) : f24_p1_o0_r1_0 (f24_p1_o0_y r0_0 r0_1 r0_2 r0_3 r0_4 r1_0 r1_1 r1_2 r1_3 r1_4) = r1_0 := id rfl
@[simp] theorem f24_p1_o0_r1_1_y (r0_0 : Int) (r0_1 : Int) (r0_2 : List UInt8) (r0_3 : List V) (r0_4 : List (List UInt8)) (r1_0 : Int) (r1_1 : Int) (r1_2 : List UInt8) (r1_3 : List V) (r1_4 : List (List UInt8)) : f24_p1_o0_r1_1 (f24_p1_o0_y r0_0 r0_1 r0_2 r0_3 r0_4 r1_0 r1_1 r1_2 r1_3 r1_4) = r1_1 := id rfl
@[simp] theorem f24_p1_o0_r1_2_y (r0_0 : Int) (r0_1 : Int) (r0_2 : List UInt8) (r0_3 : List V) (r0_4 : List (List UInt8)) (r1_0 : Int) (r1_1 : Int) (r1_2 : List UInt8) (r1_3 : List V) (r1_4 : List (List UInt8)) : f24_p1_o0_r1_2 (f24_p1_o0_y r0_0 r0_1 r0_2 r0_3 r0_4 r1_0 r1_1 r1_2 r1_3 r1_4) = r1_2 := id rfl
@[simp] theorem f24_p1_o0_r1_3_y (r0_0 : Int) (r0_1 : Int) (r0_2 : List UInt8) (r0_3 : List V) (r0_4 : List (List UInt8)) (r1_0 : Int) (r1_1 : Int) (r1_2 : List UInt8) (r1_3 : List V) (r1_4 : List (List UInt8)) : f24_p1_o0_r1_3 (f24_p1_o0_y r0_0 r0_1 r0_2 r0_3 r0_4 r1_0 r1_1 r1_2 r1_3 r1_4) = r1_3 := id rfl
@[simp] theorem f24_p1_o0_r1_4_y (r0_0 : Int) (r0_1 : Int) (r0_2 : List UInt8) (r0_3 : List V) (r0_4 : List (List UInt8)) (r1_0 : Int) (r1_1 : Int) (r1_2 : List UInt8) (r1_3 : List V) (r1_4 : List (List UInt8)) : f24_p1_o0_r1_4 (f24_p1_o0_y r0_0 r0_1 r0_2 r0_3 r0_4 r1_0 r1_1 r1_2 r1_3 r1_4) = r1_4 := id rfl
def f24_p1_o1_y (x4 : Bool) : f24_p1_o1.den := (((), ((), ((), ((), (x4, ((), ((), ((), ((), ((), ((), ((), ((), ((), ((), ((), ((), ((), ((), ((), ((), ((), ((), ((), ((), ((), ((), ((), ((), ((), ((), ((), ((), ((), ((), ((), ((), ((), ((), ((), ((), ((), ((), ((), ((), ((), ((), ((), ((), ((), ((), ((), ((), ((), ((), ((), ((), ((), ((), ((), ((), ((), ((), ((), ((), ((), ((), ((), ((), ((), ((), ((), ((), ((), ((), ((), ((), ((), ((), ((), ((), ()))))))))))))))))))))))))))))))))))))))))))))))))))))))))))))))))))))))))))))))))), (), ())
def f24_p1_o1_x4 (z : f24_p1_o1.den) : Bool := z.1.2.2.2.2.1
@[simp] theorem f24_p1_o1_x4_y (x4 : Bool) : f24_p1_o1_x4 (f24_p1_o1_y x4) = x4 := id rfl
theorem f24_p1_eq (G : argsDen f24_ps → Option (argsDen f24_rs)) (hG : Sound Tryd.prog 24 (pfun G)) (rec : f24_p1_sh.den → Option (OutDen f24_p1_outs)) (x46 : Int) (x47 : Int) (r0_0 : Int) (r0_1 : Int) (r0_2 : List UInt8) (r0_3 : List V) (r0_4 : List (List UInt8)) (r1_0 : Int) (r1_1 : Int) (r1_2 : List UInt8) (r1_3 : List V) (r1_4 : List (List UInt8)) : f24_p1_st G hG rec (f24_p1_y x46 x47 r0_0 r0_1 r0_2 r0_3 r0_4 r1_0 r1_1 r1_2 r1_3 r1_4) = (bif (decide (x47 < x46)) then ((nth r0_4 x47).bind fun y191 => (nth r1_4 x47).bind fun y192 => bif (y191 != y192) then (some (.inr ((f24_p1_o1_y false)))) else (rec (f24_p1_y x46 (IntKind.i64.wrap (x47 + (1 : Int))) r0_0 r0_1 r0_2 r0_3 r0_4 r1_0 r1_1 r1_2 r1_3 r1_4))) else (some (.inl (f24_p1_o0_y r0_0 r0_1 r0_2 r0_3 r0_4 r1_0 r1_1 r1_2 r1_3 r1_4)))) := by kernel_rfl
def f24_p2_y (r0_0 : Int) (r0_1 : Int) (r0_2 : List UInt8) (r0_3 : List V) (r0_4 : List (List UInt8)) (r1_0 : Int) (r1_1 : Int) (r1_2 : List UInt8) (r1_3 : List V) (r1_4 : List (List UInt8)) : f24_p2_sh.den := (((), ((), ((), ((), ((), ((), ((), ((), ((), ((), ((), ((), ((), ((), ((), ((), ((), ((), ((), ((), ((), ((), ((), ((), ((), ((), ((), ((), ((), ((), ((), ((), ((), ((), ((), ((), ((), ((), ((), ((), ((), ((), ((), ((), ((), ((), ((), ((), ((), ((), ((), ((), ((), ((), ((), ((), ((), ((), ((), ((), ((), ((), ((), ((), ((), ((), ((), ((), ((), ((), ((), ((), ((), ((), ((), ((), ((), ((), ((), ((), ((), ()))))))))))))))))))))))))))))))))))))))))))))))))))))))))))))))))))))))))))))))))), ((r0_0, (r0_1, (r0_2, (r0_3, (r0_4, ()))))), ((r1_0, (r1_1, (r1_2, (r1_3, (r1_4, ()))))), ())), ())
def f24_p2_o0_y (x43 : Bool) (r0_0 : Int) (r0_1 : Int) (r0_2 : List UInt8) (r0_3 : List V) (r0_4 : List (List UInt8)) (r1_0 : Int) (r1_1 : Int) (r1_2 : List UInt8) (r1_3 : List V) (r1_4 : List (List UInt8)) : f24_p2_o0.den := (((), ((), ((), ((), ((), ((), ((), ((), ((), ((), ((), ((), ((), ((), ((), ((), ((), ((), ((), ((), ((), ((), ((), ((), ((), ((), ((), ((), ((), ((), ((), ((), ((), ((), ((), ((), ((), ((), ((), ((), ((), ((), ((), (x43, ((), ((), ((), ((), ((), ((), ((), ((), ((), ((), ((), ((), ((), ((), ((), ((), ((), ((), ((), ((), ((), ((), ((), ((), ((), ((), ((), ((), ((), ((), ((), ((), ((), ((), ((), ((), ((), ()))))))))))))))))))))))))))))))))))))))))))))))))))))))))))))))))))))))))))))))))), ((r0_0, (r0_1, (r0_2, (r0_3, (r0_4, ()))))), ((r1_0, (r1_1, (r1_2, (r1_3, (r1_4, ()))))), ())), ())
def f24_p2_o0_x43 (z : f24_p2_o0.den) : Bool := z.1.2.2.2.2.2.2.2.2.2.2.2.2.2.2.2.2.2.2.2.2.2.2.2.2.2.2.2.2.2.2.2.2.2.2.2.2.2.2.2.2.2.2.2.1
def f24_p2_o0_r0_0 (z : f24_p2_o0.den) : Int := z.2.1.1.1
def f24_p2_o0_r0_1 (z : f24_p2_o0.den) : Int := z.2.1.1.2.1
def f24_p2_o0_r0_2 (z : f24_p2_o0.den) : List UInt8 := z.2.1.1.2.2.1
def f24_p2_o0_r0_3 (z : f24_p2_o0.den) : List V := z.2.1.1.2.2.2.1
def f24_p2_o0_r0_4 (z : f24_p2_o0.den) : List (List UInt8) := z.2.1.1.2.2.2.2.1
def f24_p2_o0_r1_0 (z : f24_p2_o0.den) : Int := z.2.1.2.1.1
def f24_p2_o0_r1_1 (z : f24_p2_o0.den) : Int := z.2.1.2.1.2.1
def f24_p2_o0_r1_2 (z : f24_p2_o0.den) : List UInt8 := z.2.1.2.1.2.2.1
def f24_p2_o0_r1_3 (z : f24_p2_o0.den) : List V := z.2.1.2.1.2.2.2.1
def f24_p2_o0_r1_4 (z : f24_p2_o0.den) : List (List UInt8) := z.2.1.2.1.2.2.2.2.1
@[simp] theorem f24_p2_o0_x43_y (x43 : Bool) (r0_0 : Int) (r0_1 : Int) (r0_2 : List UInt8) (r0_3 : List V) (r0_4 : List (List UInt8)) (r1_0 : Int) (r1_1 : Int) (r1_2 : List UInt8) (r1_3 : List V) (r1_4 : List (List UInt8)) : f24_p2_o0_x43 (f24_p2_o0_y x43 r0_0 r0_1 r0_2 r0_3 r0_4 r1_0 r1_1 r1_2 r1_3 r1_4) = x43 := id rfl
@[simp] theorem f24_p2_o0_r0_0_y (x43 : Bool) (r0_0 : Int) (r0_1 : Int) (r0_2 : List UInt8) (r0_3 : List V) (r0_4 : List (List UInt8)) (r1_0 : Int) (r1_1 : Int) (r1_2 : List UInt8) (r1_3 : List V) (r1_4 : List (List UInt8)) : f24_p2_o0_r0_0 (f24_p2_o0_y x43 r0_0 r0_1 r0_2 r0_3 r0_4 r1_0 r1_1 r1_2 r1_3 r1_4) = r0_0 := id rfl
@[simp] theorem f24_p2_o0_r0_1_y (x43 : Bool) (r0_0 : Int) (r0_1 : Int) (r0_2 : List UInt8) (r0_3 : List V) (r0_4 : List (List UInt8)) (r1_0 : Int) (r1_1 : Int) (r1_2 : List UInt8) (r1_3 : List V) (r1_4 : List (List UInt8)) : f24_p2_o0_r0_1 (f24_p2_o0_y x43 r0_0 r0_1 r0_2 r0_3 r0_4 r1_0 r1_1 r1_2 r1_3 r1_4) = r0_1 := id rfl
@[simp] theorem f24_p2_o0_r0_2_y (x43 : Bool) (r0_0 : Int) (r0_1 : Int) (r0_2 : List UInt8) (r0_3 : List V) (r0_4 : List (List UInt8)) (r1_0 : Int) (r1_1 : Int) (r1_2 : List UInt8) (r1_3 : List V) (r1_4 : List (List UInt8)) : f24_p2_o0_r0_2 (f24_p2_o0_y x43 r0_0 r0_1 r0_2 r0_3 r0_4 r1_0 r1_1 r1_2 r1_3 r1_4) = r0_2 := id rfl
@[simp] theorem f24_p2_o0_r0_3_y (x43 : Bool) (r0_0 : Int) (r0_1 : Int) (r0_2 : List UInt8) (r0_3 : List V) (r0_4 : List (List UInt8)) (r1_0 : Int) (r1_1 : Int) (r1_2 : List UInt8) (r1_3 : List V) (r1_4 : List (List UInt8)) : f24_p2_o0_r0_3 (f24_p2_o0_y x43 r0_0 r0_1 r0_2 r0_3 r0_4 r1_0 r1_1 r1_2 r1_3 r1_4) = r0_3 := id rfl
@[simp] theorem f24_p2_o0_r0_4_y (x43 : Bool) (r0_0 : Int) (r0_1 : Int) (r0_2 : List UInt8) (r0_3 : List V) (r0_4 : List (List UInt8)) (r1_0 : Int) (r1_1 : Int) (r1_2 : List UInt8) (r1_3 : List V) (r1_4 : List (List UInt8)) : f24_p2_o0_r0_4 (f24_p2_o0_y x43 r0_0 r0_1 r0_2 r0_3 r0_4 r1_0 r1_1 r1_2 r1_3 r1_4) = r0_4 := id rfl
@[simp] theorem f24_p2_o0_r1_0_y (x43 : Bool) (r0_0 : Int) (r0_1 : Int) (r0_2 : List UInt8) (r0_3 : List V) (r0_4 : List (List UInt8)) (r1_0 : Int) (r1_1 : Int) (r1_2 : List UInt8) (r1_3 : List V) (r1_4 : List (List UInt8)) : f24_p2_o0_r1_0 (f24_p2_o0_y x43 r0_0 r0_1 r0_2 r0_3 r0_4 r1_0 r1_1 r1_2 r1_3 r1_4) = r1_0 := id rfl
@[simp] theorem f24_p2_o0_r1_1_y (x43 : Bool) (r0_0 : Int) (r0_1 : Int) (r0_2 : List UInt8) (r0_3 : List V) (r0_4 : List (List UInt8)) (r1_0 : Int) (r1_1 : Int) (r1_2 : List UInt8) (r1_3 : List V) (r1_4 : List (List UInt8)) : f24_p2_o0_r1_1 (f24_p2_o0_y x43 r0_0 r0_1 r0_2 r0_3 r0_4 r1_0 r1_1 r1_2 r1_3 r1_4) = r1_1 := id rfl
@[simp] theorem f24_p2_o0_r1_2_y (x43 : Bool) (r0_0 : Int) (r0_1 : Int) (r0_2 : List UInt8) (r0_3 : List V) (r0_4 : List (List UInt8)) (r1_0 : Int) (r1_1 : Int) (r1_2 : List UInt8) (r1_3 : List V) (r1_4 : List (List UInt8)) : f24_p2_o0_r1_2 (f24_p2_o0_y x43 r0_0 r0_1 r0_2 r0_3 r0_4 r1_0 r1_1 r1_2 r1_3 r1_4) = r1_2 := id rfl
@[simp] theorem f24_p2_o0_r1_3_y (x43 : Bool) (r0_0 : Int) (r0_1 : Int) (r0_2 : List UInt8) (r0_3 : List V) (r0_4 : List (List UInt8)) (r1_0 : Int) (r1_1 : Int) (r1_2 : List UInt8) (r1_3 : List V) (r1_4 : List (List UInt8)) : f24_p2_o0_r1_3 (f24_p2_o0_y x43 r0_0 r0_1 r0_2 r0_3 r0_4 r1_0 r1_1 r1_2 r1_3 r1_4) = r1_3 := id rfl
@[simp] theorem f24_p2_o0_r1_4_y (x43 : Bool) (r0_0 : Int) (r0_1 : Int) (r0_2 : List UInt8) (r0_3 : List V) (r0_4 : List (List UInt8)) (r1_0 : Int) (r1_1 : Int) (r1_2 : List UInt8) (r1_3 : List V) (r1_4 : List (List UInt8)) : f24_p2_o0_r1_4 (f24_p2_o0_y x43 r0_0 r0_1 r0_2 r0_3 r0_4 r1_0 r1_1 r1_2 r1_3 r1_4) = r1_4 := id rfl
theorem f24_p2_eq (G : argsDen f24_ps → Option (argsDen f24_rs)) (hG : Sound Tryd.prog 24 (pfun G)) (r0_0 : Int) (r0_1 : Int) (r0_2 : List UInt8) (r0_3 : List V) (r0_4 : List (List UInt8)) (r1_0 : Int) (r1_1 : Int) (r1_2 : List UInt8) (r1_3 : List V) (r1_4 : List (List UInt8)) : f24_p2_F G hG (f24_p2_y r0_0 r0_1 r0_2 r0_3 r0_4 r1_0 r1_1 r1_2 r1_3 r1_4) = (bif (r0_0 != r1_0) then (some ((f24_p2_o0_y true r0_0 r0_1 r0_2 r0_3 r0_4 r1_0 r1_1 r1_2 r1_3 r1_4))) else (bif (r0_1 != r1_1) then (some ((f24_p2_o0_y true r0_0 r0_1 r0_2 r0_3 r0_4 r1_0 r1_1 r1_2 r1_3 r1_4))) else (bif (r0_2 != r1_2) then (some ((f24_p2_o0_y true r0_0 r0_1 r0_2 r0_3 r0_4 r1_0 r1_1 r1_2 r1_3 r1_4))) else (bif ((r0_3.length : Int) != (r1_3.length : Int)) then (some ((f24_p2_o0_y true r0_0 r0_1 r0_2 r0_3 r0_4 r1_0 r1_1 r1_2 r1_3 r1_4))) else (some ((f24_p2_o0_y ((r0_4.length : Int) != (r1_4.length : Int)) r0_0 r0_1 r0_2 r0_3 r0_4 r1_0 r1_1 r1_2 r1_3 r1_4))))))) := by kernel_rfl
theorem f24_eq (G : argsDen f24_ps → Option (argsDen f24_rs)) (hG : Sound Tryd.prog 24 (pfun G)) (a0_0 : Int) (a0_1 : Int) (a0_2 : List UInt8) (a0_3 : List V) (a0_4 : List (List UInt8)) (a1_0 : Int) (a1_1 : Int) (a1_2 : List UInt8) (a1_3 : List V) (a1_4 : List (List UInt8)) : f24_b G hG ((a0_0, (a0_1, (a0_2, (a0_3, (a0_4, ()))))), ((a1_0, (a1_1, (a1_2, (a1_3, (a1_4, ()))))), ())) = ((f24_p2_F G hG (f24_p2_y a0_0 a0_1 a0_2 a0_3 a0_4 a1_0 a1_1 a1_2 a1_3 a1_4)).bind fun o193 => bif (f24_p2_o0_x43 o193) then (some (false, ())) else ((go (f24_p1_st G hG) (f24_p1_y ((f24_p2_o0_r0_4 o193).length : Int) (0 : Int) (f24_p2_o0_r0_0 o193) (f24_p2_o0_r0_1 o193) (f24_p2_o0_r0_2 o193) (f24_p2_o0_r0_3 o193) (f24_p2_o0_r0_4 o193) (f24_p2_o0_r1_0 o193) (f24_p2_o0_r1_1 o193) (f24_p2_o0_r1_2 o193) (f24_p2_o0_r1_3 o193) (f24_p2_o0_r1_4 o193))).bind fun o194 => (match o194 with | .inl z195 => (go (f24_p0_st G hG) (f24_p0_y ((f24_p1_o0_r0_3 z195).length : Int) (0 : Int) (f24_p1_o0_r0_0 z195) (f24_p1_o0_r0_1 z195) (f24_p1_o0_r0_2 z195) (f24_p1_o0_r0_3 z195) (f24_p1_o0_r0_4 z195) (f24_p1_o0_r1_0 z195) (f24_p1_o0_r1_1 z195) (f24_p1_o0_r1_2 z195) (f24_p1_o0_r1_3 z195) (f24_p1_o0_r1_4 z195))).bind fun o197 => (match o197 with | .inl z198 => some (true, ()) | .inr o199 => some ((f24_p0_o1_x4 o199), ())) | .inr o196 => some ((f24_p1_o1_x4 o196), ())))) := by kernel_rfl
end Go.Pe.Tryd
end
section
set_option linter.unusedSectionVars false
set_option linter.unusedVariables false
set_option linter.unusedSimpArgs false
namespace Go.Pe
open Go.RowKit Go.Proofs Go.Lib Go.Sort Go.Shelf
/-- Go's own order of a list, by what tells which of two comes first: sorted by places. -/
noncomputable def sortF {α : Type} (cf : α → α → Int) (xs : List α) : List α := match xs with
  | [] => []
  | x :: l => (pdq (ltOf fun i j : Nat => cf ((x :: l).getD i x) ((x :: l).getD j x)) (Array.range (l.length + 1)) 0 (l.length + 1) (Lib.bitLen (l.length + 1)) true true).toList.map fun i => (x :: l).getD i x
theorem sortF_cons {α : Type} (cf : α → α → Int) (x : α) (l : List α) : sortF cf (x :: l) = (pdq (ltOf fun i j : Nat => cf ((x :: l).getD i x) ((x :: l).getD j x)) (Array.range (l.length + 1)) 0 (l.length + 1) (Lib.bitLen (l.length + 1)) true true).toList.map fun i => (x :: l).getD i x := rfl
theorem swo_getD {α : Type} {cf : α → α → Int} (h : SWO (ltOf cf)) (xs : List α) (x : α) : SWO (ltOf fun i j : Nat => cf (xs.getD i x) (xs.getD j x)) :=
  ⟨fun i => h.irrefl (xs.getD i x), fun i j k => h.trans (xs.getD i x) (xs.getD j x) (xs.getD k x), fun i j k => h.ntrans (xs.getD i x) (xs.getD j x) (xs.getD k x)⟩
theorem sort_sorts' {cf : Nat → Nat → Int} (h : SWO (ltOf cf)) (n lim : Nat) : PermIn 0 n (Array.range n) (pdq (ltOf cf) (Array.range n) 0 n lim true true) ∧ SortedIn (ltOf cf) 0 n (pdq (ltOf cf) (Array.range n) 0 n lim true true) :=
  pdq_sorts (ltOf cf) h (Array.range n) 0 n lim true true (Nat.zero_le _) (by simp) (Or.inl rfl)
theorem range_getD {α : Type} : ∀ (xs : List α) (x : α), (List.range xs.length).map (fun i => xs.getD i x) = xs := fun xs x => by
  apply List.ext_getElem?
  intro i
  rcases Nat.lt_or_ge i xs.length with h | h
  · rw [List.getElem?_map, List.getElem?_range h]; simp [List.getD_eq_getElem?_getD, h]
  · rw [List.getElem?_eq_none (by simpa using h), List.getElem?_eq_none h]
theorem sortF_len {α : Type} {cf : α → α → Int} (h : SWO (ltOf cf)) (xs : List α) : (sortF cf xs).length = xs.length := by
  cases xs with
  | nil => rfl
  | cons x l =>
    have := (sort_sorts' (swo_getD h (x :: l) x) (l.length + 1) (Lib.bitLen (l.length + 1))).1.1
    simp only [sortF, List.length_map, Array.length_toList, this]; simp
/-- It holds the same, in order. -/
theorem sortF_perm {α : Type} {cf : α → α → Int} (h : SWO (ltOf cf)) (xs : List α) : (sortF cf xs).Perm xs := by
  cases xs with
  | nil => exact List.Perm.refl _
  | cons x l =>
    have h1 := (sort_sorts' (swo_getD h (x :: l) x) (l.length + 1) (Lib.bitLen (l.length + 1))).1
    rw [sortF_cons]
    generalize pdq (ltOf fun i j : Nat => cf ((x :: l).getD i x) ((x :: l).getD j x)) (Array.range (l.length + 1)) 0 (l.length + 1) (Lib.bitLen (l.length + 1)) true true = D at h1
    have hp := h1.2.2
    have e1 : D.extract 0 (l.length + 1) = D := by
      have : D.size = l.length + 1 := by rw [h1.1]; simp
      rw [← this]; simp
    have e2 : (Array.range (l.length + 1)).extract 0 (l.length + 1) = Array.range (l.length + 1) := by
      have : (Array.range (l.length + 1)).size = l.length + 1 := by simp
      conv => lhs; arg 3; rw [← this]
      simp
    rw [e1, e2] at hp
    have hm := hp.map fun i => (x :: l).getD i x
    have := range_getD (x :: l) x
    rw [List.length_cons] at this
    rw [Array.toList_range, this] at hm
    exact hm
theorem sortF_sorted {α : Type} {cf : α → α → Int} (h : SWO (ltOf cf)) (xs : List α) (i j : Nat) (a b : α) (hij : i < j) (hi : (sortF cf xs)[i]? = some a) (hj : (sortF cf xs)[j]? = some b) : ¬ cf b a < 0 := by
  cases xs with
  | nil => cases hi
  | cons x l =>
    have h1 := sort_sorts' (swo_getD h (x :: l) x) (l.length + 1) (Lib.bitLen (l.length + 1))
    rw [sortF_cons] at hi hj
    generalize pdq (ltOf fun i j : Nat => cf ((x :: l).getD i x) ((x :: l).getD j x)) (Array.range (l.length + 1)) 0 (l.length + 1) (Lib.bitLen (l.length + 1)) true true = D at h1 hi hj
    have hD : D.size = l.length + 1 := by rw [h1.1.1]; simp
    have hjl : j < D.size := by
      rcases Nat.lt_or_ge j D.size with h | h
      · exact h
      · rw [List.getElem?_eq_none (by simpa using h)] at hj; cases hj
    have h2 := h1.2 i j (Nat.zero_le _) hij (by omega)
    unfold ltOf at h2
    rw [getElem!_pos D j hjl, getElem!_pos D i (by omega), decide_eq_false_iff_not] at h2
    rw [List.getElem?_map, Array.getElem?_toList, Array.getElem?_eq_getElem (by omega), Option.map_some, Option.some.injEq] at hi hj
    rw [← hi, ← hj]; exact h2
theorem flat_get {α : Type} (enc : α → List Value) (k : Nat) (hk : ∀ x, (enc x).length = k) : ∀ (l : List α) (t : Nat), t < l.length * k → ∃ (h : t / k < l.length), (l.flatMap enc)[t]? = (enc l[t / k])[t % k]?
  | [], t, h => by simp at h
  | x :: l, t, h => by
    have hk0 : 0 < k := by
      rcases Nat.eq_zero_or_pos k with h0 | h0
      · subst h0; simp at h
      · exact h0
    rw [List.flatMap_cons]
    rcases Nat.lt_or_ge t k with hlt | hge
    · refine ⟨by rw [Nat.div_eq_of_lt hlt]; simp, ?_⟩
      rw [List.getElem?_append_left (by rw [hk]; exact hlt)]
      simp only [Nat.div_eq_of_lt hlt, Nat.mod_eq_of_lt hlt, List.getElem_cons_zero]
    · simp only [List.length_cons, Nat.succ_mul] at h
      obtain ⟨h1, h2⟩ := flat_get enc k hk l (t - k) (by omega)
      have hd : t / k = (t - k) / k + 1 := Nat.div_eq_sub_div hk0 hge
      have hm : t % k = (t - k) % k := Nat.mod_eq_sub_mod hge
      refine ⟨by rw [hd]; simpa using h1, ?_⟩
      rw [List.getElem?_append_right (by rw [hk]; exact hge), hk, h2]
      simp only [hd, hm, List.getElem_cons_succ]
theorem flatK_list {α : Type} [Inhabited α] (enc : α → List Value) (k : Nat) (hk : ∀ x, (enc x).length = k) (d : Array α) : (flatK enc k d).toList = d.toList.flatMap enc := by
  apply List.ext_getElem?
  intro t
  rcases Nat.lt_or_ge t (d.size * k) with h | h
  · have hs : t < (flatK enc k d).size := by rw [size_flatK]; exact h
    obtain ⟨h1, h2⟩ := flat_get enc k hk d.toList t (by simpa using h)
    rw [h2, Array.getElem?_toList, Array.getElem?_eq_getElem hs, ← getElem!_pos (flatK enc k d) t hs, get_flatK enc k d t h]
    have h1' : t / k < d.size := by simpa using h1
    have hk0 : 0 < k := by
      rcases Nat.eq_zero_or_pos k with h0 | h0
      · subst h0; simp at h
      · exact h0
    have hm : t % k < (enc d[t / k]).length := by rw [hk]; exact Nat.mod_lt _ hk0
    rw [getElem!_pos d (t / k) h1', getElem!_pos (enc d[t / k]) (t % k) hm]
    simp [hm]
  · rw [List.getElem?_eq_none (by simp; exact h), List.getElem?_eq_none]
    rw [List.length_flatMap]
    have : (d.toList.map fun a => (enc a).length).sum = d.size * k := by
      have e : (d.toList.map fun a => (enc a).length) = List.replicate d.size k := by
        apply List.ext_getElem?
        intro i
        rcases Nat.lt_or_ge i d.size with h | h <;> simp [h, hk]
      rw [e]; simp
    rw [this]; exact h
theorem putCells_list (F vs : Array Value) (us rest : List Value) (hvs : vs.toList = us ++ rest) (hl : us.length = F.size) : (putCells id 0 F vs).toList = F.toList ++ rest := by
  apply List.ext_getElem?
  intro t
  unfold putCells
  have hv : ∀ t, vs[t]? = (us ++ rest)[t]? := fun t => by rw [← hvs, Array.getElem?_toList]
  rw [Array.getElem?_toList, Array.getElem?_mapIdx]
  rcases Nat.lt_or_ge t F.size with h | h
  · rw [hv, List.getElem?_append_left (by omega), List.getElem?_append_left (by simpa using h)]
    have hu : t < us.length := by omega
    rw [List.getElem?_eq_getElem hu]
    simp [h, getElem!_pos F t h]
  · rw [hv, List.getElem?_append_right (by omega), List.getElem?_append_right (by simpa using h), hl]
    have : ¬ (0 ≤ t ∧ t < 0 + F.size) := by omega
    simp only [Array.length_toList]
    cases rest[t - F.size]? with
    | none => rfl
    | some x =>
      simp [this]
      intro h'; omega
theorem mapBlock_row {w : World} {b : Nat} {vs : Array Value} (ho : Own w b vs) (f : Array Value → Array Value) : mapBlock w b f = w.setRow b (f vs) := by
  obtain ⟨el, h⟩ := ho
  unfold mapBlock World.setRow
  congr 1
  apply Array.ext_getElem?
  intro k
  simp only [Array.getElem?_modify]
  split
  · rename_i e; subst e
    rw [h]; rfl
  · rfl
/-- A list of pairs: the cells, and what they are. -/
theorem pairs_of {e : Ty} {R : e.den → List Value → Prop} : ∀ {xs : List e.den} {us : List Value}, RepAll R xs us → ∃ d : List {p : List Value × e.den // R p.2 p.1}, d.map (fun p => p.1.2) = xs ∧ d.flatMap (fun p => p.1.1) = us
  | [], us, h => ⟨[], rfl, by simp only [RepAll] at h; subst h; rfl⟩
  | x :: xs, us, h => by
    obtain ⟨u1, u2, e1, h1, h2⟩ := h
    obtain ⟨d, e2, e3⟩ := pairs_of h2
    exact ⟨⟨(u1, x), h1⟩ :: d, by simp [e2], by simp [e3, e1]⟩
theorem pairs_to {e : Ty} {R : e.den → List Value → Prop} : ∀ d : List {p : List Value × e.den // R p.2 p.1}, RepAll R (d.map fun p => p.1.2) (d.flatMap fun p => p.1.1)
  | [] => rfl
  | p :: d => ⟨p.1.1, _, rfl, p.2, pairs_to d⟩
/-- A list of the call's own, sorted in its place. -/
noncomputable def sortExt (e : Ty) (g : Nat) (cf : e.den → e.den → Int) : Ext := fun st args K => match args with
  | [.whole t, .fn (.func g') [] []] => (match Nat.beq g' g with
    | true => (match getL st.lsts t with
      | some o => if h : Ty.list o.e = Ty.list e then appOk (h ▸ (o.xs : (Ty.list o.e).den) : (Ty.list e).den).length (K (.tup []) { st with lsts := st.lsts.set t (some ⟨e, sortF cf (h ▸ (o.xs : (Ty.list o.e).den) : (Ty.list e).den)⟩) }) else none
      | none => none)
    | false => none)
  | _ => none
section
variable [GI]
theorem below_growK (w : World) (k : Nat) (os : Array Obj) : Below w.heap.size w (grow (w.drewN k) os) :=
  ⟨rfl, rfl, rfl, by simp [grow, World.drewN], fun j hj => by simp only [grow, World.drewN]; rw [Array.getElem?_append_left hj]⟩
theorem set_same {lsts : List (Option LObj)} {t : Nat} {o : LObj} (h : getL lsts t = some o) : lsts.set t (some o) = lsts := by
  apply List.ext_getElem?
  intro i
  rw [List.getElem?_set]
  split
  · rename_i e; subst e
    have htl := getL_lt h
    unfold getL at h
    split at h
    · rename_i h2; cases h; rw [if_pos htl, h2]
    · cases h
  · rfl
theorem sort_ok {P : Program} {ρ : Ren} (L : SlLaysF0.n6 P ρ) (e : Ty) (aE : ∀ w, (isAgg (ρ.t 24)).run P w = .ok true w) (zE : ∀ w, (Go.sizeOf (ρ.t 24)).run P w = .ok e.size w)
    (cf : e.den → e.den → Int) (hO : SWO (ltOf cf)) (g : Nat) (eg : ∀ args w, (callFunc g args).run P w = .ok (.enter g args) w)
    (hfn : ∃ fn, P.funcs[ρ.f 6]? = some fn ∧ (fn.name == "runtime.NumGoroutine") = false ∧ fn.body.isSome = true)
    (hg : ∀ (A : Nat → Prop) (w : World) (x y : e.den) (us vs : List Value), Rep A w e x us → Rep A w e y vs → ∀ W : World, Calls P g #[.agg us.toArray, .agg vs.toArray] W fun e w' => e = .returned (.int .i64 (cf x y)) ∧ ∃ q os', w' = grow (W.drewN q) os') :
    ExtOk P (ρ.f 6) (sortExt e g cf) := by
  refine ⟨hfn, ?_⟩
  intro S st args K r h
  unfold sortExt at h
  dsimp only at h
  split at h
  · rename_i t g'
    split at h
    · rename_i hgb
      have hgg : g' = g := Nat.eq_of_beq_eq_true hgb
      subst hgg
      split at h
      · rename_i o ho
        split at h
        · rename_i he
          obtain ⟨oe, oxs⟩ := o
          have he' : oe = e := by cases he; rfl
          subst he'
          unfold appOk at h
          split at h
          · rename_i h12
            simp only at h12 h
            refine ⟨_, _, h, ?_⟩
            intro A0 w0 w tmps μ vs hs hargs
            obtain ⟨v1, us1, rfl, r1, hargs⟩ := hargs.cons'
            obtain ⟨v2, us2, rfl, r2, hargs⟩ := hargs.cons'
            obtain rfl := hargs.nil
            simp only [RepAV, cx] at r1 r2
            obtain ⟨a', b', rfl, ra, rb⟩ := r2
            have ha' : a' = #[] := by apply Array.ext'; simpa using ra.nil
            have hb' : b' = #[] := by apply Array.ext'; simpa using rb.nil
            subst ha'; subst hb'
            obtain ⟨htl, _, hwh⟩ := r1
            have hW := hwh _ ho
            cases hxs : oxs with
            | nil =>
              subst hxs
              have hset : st.lsts.set t (some ⟨oe, sortF cf []⟩) = st.lsts := set_same ho
              have hlen : ∃ p cap, v1 = .slice p 0 cap := by
                rcases hW with ⟨_, rfl⟩ | ⟨b, _, rfl⟩
                · exact ⟨_, _, rfl⟩
                · exact ⟨_, _, rfl⟩
              obtain ⟨p, cap, rfl⟩ := hlen
              refine (AnyF.slices_SortFunc_none (P := P) (ρ := ρ) { L with } p cap (.func (.func g') #[] #[]) w).mono ?_
              rintro e w' ⟨rfl, rfl⟩
              refine ⟨.tuple #[], μ, rfl, ⟨#[], rfl, rfl⟩, ?_⟩
              rw [hset]; exact hs
            | cons x0 l0 =>
              rw [← hxs]
              rcases hs.mem.hlst t _ ho with ⟨hn, hx⟩ | ⟨b, vs, hb, hown, hsz, hcap, us, rest, hvs, hrep⟩
              · simp only [cx] at hx
                rw [hxs] at hx; cases hx
              · simp only [cx] at hb hsz hcap hrep hown
                rcases hW with ⟨hn, _⟩ | ⟨b2, hb2, rfl⟩
                · rw [hn] at hb; cases hb
                · try simp only at hb2
                  rw [hb] at hb2; cases hb2
                  obtain ⟨d, hd1, hd2⟩ := pairs_of hrep
                  have hd0 : d ≠ [] := by rintro rfl; rw [hxs] at hd1; cases hd1
                  obtain ⟨p0, d1, hdd⟩ : ∃ p0 d1, d = p0 :: d1 := by cases d with | nil => exact absurd rfl hd0 | cons p q => exact ⟨p, q, rfl⟩
                  have hp0 : p0.1.2 = x0 := by rw [hdd, hxs] at hd1; simp only [List.map_cons, List.cons.injEq] at hd1; exact hd1.1
                  have hdl : d.length = oxs.length := by rw [← hd1]; simp
                  -- the places
                  have hget : ∀ i : Nat, (d.getD i p0).1.2 = oxs.getD i x0 := fun i => by
                    rw [← hd1, List.getD_eq_getElem?_getD, List.getD_eq_getElem?_getD, List.getElem?_map]
                    cases d[i]? with
                    | none => exact hp0
                    | some y => rfl
                  let enc : Nat → List Value := fun i => (d.getD i p0).1.1
                  have hk : ∀ i, (enc i).length = oe.size := fun i => Rep.length (d.getD i p0).2
                  have hus : (List.range oxs.length).flatMap enc = us := by
                    rw [← hd2, ← hdl]
                    conv => rhs; rw [← range_getD d p0, List.flatMap_map]
                  have hfl := flatK_list enc oe.size hk (Array.range oxs.length)
                  rw [Array.toList_range, hus] at hfl
                  have hul : us.length = oxs.length * oe.size := by rw [← hfl]; simp
                  obtain ⟨el, hheap⟩ := hown
                  have hH : HoldsK enc oe.size w b 0 (Array.range oxs.length) := by
                    intro j hj
                    constructor
                    · have : w.cell? ⟨b, 0 + j, none⟩ = vs[j]? := by simp [World.cell?, hheap]
                      rw [this, ← Array.getElem?_toList, hvs, ← hfl, List.getElem?_append_left (by simpa using hj), Array.getElem?_toList, Array.getElem?_eq_getElem hj, getElem!_pos _ j hj]
                      rfl
                    · simp [World.frozen?, hheap]
                  have hcf : (fun i j : Nat => cf (d.getD i p0).1.2 (d.getD j p0).1.2) = fun i j : Nat => cf (oxs.getD i x0) (oxs.getD j x0) := by
                    funext i j; rw [hget, hget]
                  have hcon := AnyQ.slices_SortFunc_eq L oe.size aE zE enc hk (fun i => Rep.one (d.getD i p0).2) (fun i j : Nat => cf (d.getD i p0).1.2 (d.getD j p0).1.2) (by rw [hcf]; exact swo_getD hO oxs x0) g' #[] b 0 (μ.cap t) (Array.range oxs.length) w eg
                    (fun m os dk hdk i j => by rw [Array.append_empty]; exact hg _ _ _ _ _ _ (d.getD i p0).2 (d.getD j p0).2 _) hH (hs.mem.live _ _ hb).2.1 (by simp only [Array.size_range]; omega)
                  rw [hcf] at hcon
                  simp only [Array.size_range] at hcon
                  refine hcon.mono ?_
                  rintro e w' ⟨rfl, n, os, rfl⟩
                  have hF : sortF cf oxs = (pdq (ltOf fun i j : Nat => cf (oxs.getD i x0) (oxs.getD j x0)) (Array.range oxs.length) 0 oxs.length (Lib.bitLen oxs.length) true true).toList.map fun i => oxs.getD i x0 := by
                    rw [hxs]; rfl
                  have hsz2 : (pdq (ltOf fun i j : Nat => cf (oxs.getD i x0) (oxs.getD j x0)) (Array.range oxs.length) 0 oxs.length (Lib.bitLen oxs.length) true true).size = oxs.length := by
                    rw [(sort_sorts' (swo_getD hO oxs x0) oxs.length (Lib.bitLen oxs.length)).1.1]; simp
                  generalize pdq (ltOf fun i j : Nat => cf (oxs.getD i x0) (oxs.getD j x0)) (Array.range oxs.length) 0 oxs.length (Lib.bitLen oxs.length) true true = D at hF hsz2 ⊢
                  have hDf := flatK_list enc oe.size hk D
                  have hcs := putCells_list (flatK enc oe.size D) vs us rest hvs (by rw [size_flatK, hsz2, hul])
                  rw [hDf] at hcs
                  have hww : sortWorldK enc oe.size w b 0 n D os = grow ((w.setRow b (putCells id 0 (flatK enc oe.size D) vs)).drewN n) os := by
                    unfold sortWorldK putRowK putRow
                    rw [mapBlock_row (w := Sort.ahead w n) (b := b) (vs := vs) ⟨el, hheap⟩]
                    rfl
                  have hxl : (sortF cf oxs).length = oxs.length := sortF_len hO oxs
                  have hrep2 := pairs_to (D.toList.map fun i => d.getD i p0)
                  have e1 : (D.toList.map fun i => d.getD i p0).map (fun p => p.1.2) = sortF cf oxs := by
                    rw [hF, List.map_map]
                    apply List.map_congr_left
                    intro i _
                    exact hget i
                  have e2 : (D.toList.map fun i => d.getD i p0).flatMap (fun p => p.1.1) = D.toList.flatMap enc := by
                    rw [List.flatMap_map]
                  rw [e1, e2] at hrep2
                  have hm := hs.mem.setLst (o := ⟨oe, oxs⟩) ho hxl hb ⟨el, hheap⟩ (cs := putCells id 0 (flatK enc oe.size D) vs) (by simp [putCells]) hsz hcap hcs hrep2
                  have hle := le_setLst (A0 := A0) (w0 := w0) (w := w) (recs := st.recs) (lsts := st.lsts) (μ := μ) (cs := putCells id 0 (flatK enc oe.size D) vs) (o := ⟨oe, oxs⟩) ho hxl hb
                  have hsim : Sim A0 w0 { st with lsts := st.lsts.set t (some ⟨oe, sortF cf oxs⟩) } tmps (w.setRow b (putCells id 0 (flatK enc oe.size D) vs)) μ := ⟨hs.slots.mono hle, hm⟩
                  rw [hww]
                  exact ⟨.tuple #[], μ, rfl, ⟨#[], rfl, rfl⟩, hsim.ext (below_growK _ n os)⟩
          · cases h
        · cases h
      · cases h
    · cases h
  · cases h
end
end Go.Pe
end
section
set_option linter.unusedSectionVars false
set_option linter.unusedVariables false
set_option linter.unusedSimpArgs false
namespace Go.Proofs
open Go.Shelf
def Tryd.sortP_ren : Go.Shelf.Ren := ⟨fun | 6 => 48 | 15 => 69 | 14 => 68 | 28 => 95 | 29 => 96 | 20 => 87 | 21 => 88 | 22 => 89 | 23 => 90 | 24 => 91 | 25 => 92 | 26 => 93 | 27 => 94 | 46 => 105 | 47 => 106 | 48 => 107 | 49 => 108 | 50 => 109 | 57 => 116 | n => n, fun | 22 => 47 | 24 => 49 | 25 => 80 | 3 => 3 | 39 => 97 | 0 => 0 | 53 => 122 | 55 => 104 | 4 => 4 | 46 => 115 | 45 => 114 | 50 => 119 | 5 => 5 | 9 => 9 | 66 => 133 | 70 => 137 | 76 => 142 | 77 => 143 | n => n, fun | n => n⟩
theorem Tryd.sortP : Go.Proofs.SlLaysF0.n6 Tryd.prog Tryd.sortP_ren := {
  mixed := by kernel_rfl
  f6 := ⟨Tryd.f48.name, by decide, Tryd.func48.trans (congrArg some (by kernel_rfl))⟩
  f14 := ⟨Tryd.f68.name, by decide, Tryd.func68.trans (congrArg some (by kernel_rfl))⟩
  f15 := Tryd.func69.trans (congrArg some (by kernel_rfl))
  f20 := ⟨Tryd.f87.name, by decide, Tryd.func87.trans (congrArg some (by kernel_rfl))⟩
  f21 := ⟨Tryd.f88.name, by decide, Tryd.func88.trans (congrArg some (by kernel_rfl))⟩
  f22 := ⟨Tryd.f89.name, by decide, Tryd.func89.trans (congrArg some (by kernel_rfl))⟩
  f23 := ⟨Tryd.f90.name, by decide, Tryd.func90.trans (congrArg some (by kernel_rfl))⟩
  f24 := ⟨Tryd.f91.name, by decide, Tryd.func91.trans (congrArg some (by kernel_rfl))⟩
  f25 := ⟨Tryd.f92.name, by decide, Tryd.func92.trans (congrArg some (by kernel_rfl))⟩
  f26 := ⟨Tryd.f93.name, by decide, Tryd.func93.trans (congrArg some (by kernel_rfl))⟩
  f27 := ⟨Tryd.f94.name, by decide, Tryd.func94.trans (congrArg some (by kernel_rfl))⟩
  f28 := Tryd.func95.trans (congrArg some (by kernel_rfl))
  f29 := Tryd.func96.trans (congrArg some (by kernel_rfl))
  f46 := ⟨Tryd.f105.name, by decide, Tryd.func105.trans (congrArg some (by kernel_rfl))⟩
  f47 := Tryd.func106.trans (congrArg some (by kernel_rfl))
  f48 := Tryd.func107.trans (congrArg some (by kernel_rfl))
  f49 := ⟨Tryd.f108.name, by decide, Tryd.func108.trans (congrArg some (by kernel_rfl))⟩
  f50 := ⟨Tryd.f109.name, by decide, Tryd.func109.trans (congrArg some (by kernel_rfl))⟩
  f57 := ⟨Tryd.f116.name, by decide, Tryd.func116.trans (congrArg some (by kernel_rfl))⟩
  t0 := Tryd.underlying0
  a0 := Tryd.isAgg0
  z0 := Tryd.sizeOf0
  v0 := Tryd.zeroValue0
  t3 := Tryd.underlying3
  a3 := Tryd.isAgg3
  z3 := Tryd.sizeOf3
  v3 := Tryd.zeroValue3
  t4 := Tryd.underlying4
  a4 := Tryd.isAgg4
  z4 := Tryd.sizeOf4
  v4 := Tryd.zeroValue4
  t5 := Tryd.underlying5
  a5 := Tryd.isAgg5
  z5 := Tryd.sizeOf5
  v5 := Tryd.zeroValue5
  t9 := Tryd.underlying9
  a9 := Tryd.isAgg9
  z9 := Tryd.sizeOf9
  v9 := Tryd.zeroValue9
  t22 := Tryd.underlying47
  a22 := Tryd.isAgg47
  z22 := Tryd.sizeOf47
  v22 := Tryd.zeroValue47
  t25 := Tryd.underlying80
  a25 := Tryd.isAgg80
  z25 := Tryd.sizeOf80
  v25 := Tryd.zeroValue80
  t39 := Tryd.underlying97
  a39 := Tryd.isAgg97
  z39 := Tryd.sizeOf97
  v39 := Tryd.zeroValue97
  t45 := Tryd.underlying114
  a45 := Tryd.isAgg114
  z45 := Tryd.sizeOf114
  v45 := Tryd.zeroValue114
  t46 := Tryd.underlying115
  a46 := Tryd.isAgg115
  z46 := Tryd.sizeOf115
  v46 := Tryd.zeroValue115
  t50 := Tryd.underlying119
  a50 := Tryd.isAgg119
  z50 := Tryd.sizeOf119
  v50 := Tryd.zeroValue119
  t53 := Tryd.underlying122
  a53 := Tryd.isAgg122
  z53 := Tryd.sizeOf122
  v53 := Tryd.zeroValue122
  t55 := Tryd.underlying104
  a55 := Tryd.isAgg104
  z55 := Tryd.sizeOf104
  v55 := Tryd.zeroValue104
  t66 := Tryd.underlying133
  a66 := Tryd.isAgg133
  z66 := Tryd.sizeOf133
  v66 := Tryd.zeroValue133
  t70 := Tryd.underlying137
  a70 := Tryd.isAgg137
  z70 := Tryd.sizeOf137
  v70 := Tryd.zeroValue137
  t76 := Tryd.underlying142
  a76 := Tryd.isAgg142
  z76 := Tryd.sizeOf142
  v76 := Tryd.zeroValue142
  t77 := Tryd.underlying143
  a77 := Tryd.isAgg143
  z77 := Tryd.sizeOf143
  v77 := Tryd.zeroValue143 }
end Go.Proofs
namespace Go.Pe.Tryd
open Go.Proofs Go.RowKit Go.Lib Go.Sort
/-- What tells which of two texts comes first. -/
def cmpS (a b : List UInt8) : Int := if Op.bytesLess a b = true then -1 else if (!(Op.bytesLess a b || a == b)) = true then 1 else 0
theorem nan_call (s : ByteArray) (W : World) : Calls Tryd.prog 70 #[.string s] W fun e w' => e = .returned (.bool false) ∧ w' = W := by
  go_enter Tryd.func70, Tryd.ntmps70
  go_wp2
  go_ret
  exact ⟨by simp, rfl⟩
theorem gtr_run {P : Program} {w : World} (t : TypeId) (x y : List UInt8) : (binOp .gtr t (.string ⟨x.toArray⟩) (.string ⟨y.toArray⟩)).run P w = .ok (.bool (!(Op.bytesLess x y || x == y))) w := by
  simp only [binOp, Op.stringOp, toList_str]; rfl
theorem cmp_walk (a b : List UInt8) (r : Int) (h1 : Op.bytesLess a b = true → r = -1) (h2 : Op.bytesLess a b = false → (!(Op.bytesLess a b || a == b)) = true → r = 1) (h3 : Op.bytesLess a b = false → (!(Op.bytesLess a b || a == b)) = false → r = 0) (W : World) :
    Calls Tryd.prog 50 #[.string ⟨a.toArray⟩, .string ⟨b.toArray⟩] W fun e w' => e = .returned (.int .i64 r) ∧ w' = W := by
  have hcon := fun s W' => nan_call s W'
  generalize hc : (!(Op.bytesLess a b || a == b)) = c at h2 h3
  go_enter Tryd.func50, Tryd.ntmps50
  go_wp2_with (go_at_call 70; refine (hcon _ _).mono ?_; rintro e w' ⟨rfl, rfl⟩)
  · rename_i h
    have := h1 h
    subst this
    clear h1 h2 h3 hc
    go_ret
    exact ⟨rfl, rfl⟩
  · rename_i h _ _ _ _ _ _
    rw [gtr_run, hc]
    simp only [Result.andThen, Oper.upon]
    cases c with
    | true =>
      have := h2 h rfl
      subst this
      clear h1 h2 h3 hc
      go_wp2
      go_ret
      exact ⟨rfl, rfl⟩
    | false =>
      have := h3 h rfl
      subst this
      clear h1 h2 h3 hc
      go_wp2
      go_ret
      exact ⟨rfl, rfl⟩
theorem cmp_call (a b : List UInt8) (W : World) : Calls Tryd.prog 50 #[.string ⟨a.toArray⟩, .string ⟨b.toArray⟩] W fun e w' => e = .returned (.int .i64 (cmpS a b)) ∧ w' = W := by
  refine cmp_walk a b _ (fun h => ?_) (fun h h' => ?_) (fun h h' => ?_) W <;> unfold cmpS
  · rw [if_pos h]
  · rw [if_neg (by rw [h]; simp), if_pos h']
  · rw [if_neg (by rw [h]; simp), if_neg (by rw [h']; simp)]
theorem close_call (x y : List UInt8 × V) (us vs : List Value) (W : World) (h1 : ∃ r, us = Value.string ⟨x.1.toArray⟩ :: r ∧ r.length = 5 ∧ ∀ v ∈ us, v.oneCell' = true) (h2 : ∃ r, vs = Value.string ⟨y.1.toArray⟩ :: r ∧ r.length = 5 ∧ ∀ v ∈ vs, v.oneCell' = true) :
    Calls Tryd.prog 49 #[.agg us.toArray, .agg vs.toArray] W fun e w' => e = .returned (.int .i64 (cmpS x.1 y.1)) ∧ ∃ q os', w' = grow (W.drewN q) os' := by
  obtain ⟨r, rfl, hr, o1⟩ := h1
  obtain ⟨s, rfl, hs, o2⟩ := h2
  match r, hr with
  | [r1, r2, r3, r4, r5], _ =>
    match s, hs with
    | [s1, s2, s3, s4, s5], _ =>
      have hcon := fun W' => cmp_call x.1 y.1 W'
      have q1 := o1 r1 (by simp)
      have q2 := o1 r2 (by simp)
      have q3 := o1 r3 (by simp)
      have q4 := o1 r4 (by simp)
      have q5 := o1 r5 (by simp)
      have p1 := o2 s1 (by simp)
      have p2 := o2 s2 (by simp)
      have p3 := o2 s3 (by simp)
      have p4 := o2 s4 (by simp)
      have p5 := o2 s5 (by simp)
      clear o1 o2
      generalize cmpS x.1 y.1 = r at hcon ⊢
      go_enter Tryd.func49, Tryd.ntmps49
      go_wp2_with (go_at_call 50; refine (hcon _).mono ?_; rintro e w' ⟨rfl, rfl⟩)
      go_ret
      exact ⟨rfl, 0, _, by rw [alloc_eq_grow, alloc_eq_grow, grow_grow]; rfl⟩
theorem rep_pair {A : Nat → Prop} {w : World} {x : (Ty.prod .str .value).den} {us : List Value} (h : Rep A w (.prod .str .value) x us) : ∃ r, us = Value.string ⟨(x.1 : List UInt8).toArray⟩ :: r ∧ r.length = 5 ∧ ∀ v ∈ us, v.oneCell' = true := by
  have h1 := Rep.one h
  obtain ⟨u1, u2, rfl, a, b⟩ := h
  simp only [Rep] at a b
  subst a
  exact ⟨u2, rfl, b.length, h1⟩
def cmpP (x y : (Ty.prod .str .value).den) : Int := cmpS x.1 y.1
theorem cmpS_neg (a b : List UInt8) : (cmpS a b < 0) ↔ Op.bytesLess a b = true := by
  unfold cmpS
  split
  · simp [*]
  · split <;> simp [*]
theorem bl_irr : ∀ a : List UInt8, Op.bytesLess a a = false
  | [] => rfl
  | a :: x => by simp [Op.bytesLess, bl_irr x]
theorem bl_tra : ∀ {a b c : List UInt8}, Op.bytesLess a b = true → Op.bytesLess b c = true → Op.bytesLess a c = true
  | a, [], _, h, _ => by cases a <;> simp [Op.bytesLess] at h
  | [], _ :: _, [], _, h => by simp [Op.bytesLess] at h
  | [], _ :: _, _ :: _, _, _ => rfl
  | _ :: _, _ :: _, [], _, h => by simp [Op.bytesLess] at h
  | a :: x, b :: y, c :: z, h1, h2 => by
    simp only [Op.bytesLess, Bool.or_eq_true, Bool.and_eq_true, decide_eq_true_eq, beq_iff_eq] at h1 h2 ⊢
    rcases h1 with h1 | ⟨h1, h1'⟩ <;> rcases h2 with h2 | ⟨h2, h2'⟩
    · exact .inl (UInt8.lt_trans h1 h2)
    · subst h2; exact .inl h1
    · subst h1; exact .inl h2
    · subst h1; subst h2; exact .inr ⟨rfl, bl_tra h1' h2'⟩
theorem bl_tri : ∀ {a b : List UInt8}, Op.bytesLess a b = false → Op.bytesLess b a = false → a = b
  | [], [], _, _ => rfl
  | [], _ :: _, h, _ => by simp [Op.bytesLess] at h
  | _ :: _, [], _, h => by simp [Op.bytesLess] at h
  | a :: x, b :: y, h1, h2 => by
    simp only [Op.bytesLess, Bool.or_eq_false_iff, Bool.and_eq_false_iff, decide_eq_false_iff_not, beq_eq_false_iff_ne, ne_eq] at h1 h2
    have e : a = b := by
      rw [← UInt8.toNat_inj]
      have a1 := h1.1
      have a2 := h2.1
      rw [UInt8.lt_iff_toNat_lt] at a1 a2
      omega
    subst e
    have := bl_tri (h1.2.resolve_left (by simp)) (h2.2.resolve_left (by simp))
    rw [this]
theorem swoP : SWO (ltOf cmpP) := by
  have lt : ∀ x y, ltOf cmpP x y = Op.bytesLess x.1 y.1 := fun x y => by
    unfold ltOf cmpP
    rw [Bool.eq_iff_iff, decide_eq_true_eq]; exact cmpS_neg _ _
  refine ⟨fun x => by rw [lt]; exact bl_irr _, fun x y z h1 h2 => ?_, fun x y z h1 h2 => ?_⟩
  · rw [lt] at *; exact bl_tra h1 h2
  · rw [lt] at *
    cases h : Op.bytesLess x.1 z.1 with
    | false => rfl
    | true =>
      rcases hyx : Op.bytesLess y.1 x.1 with _ | _
      · have := bl_tri h1 hyx
        rw [this] at h; rw [h] at h2; cases h2
      · have := bl_tra hyx h
        rw [this] at h2; cases h2
theorem sort_okP : ExtOk Tryd.prog 48 (sortExt (.prod .str .value) 49 cmpP) :=
  sort_ok (ρ := Tryd.sortP_ren) Tryd.sortP (.prod .str .value) Tryd.isAgg49 Tryd.sizeOf49 cmpP swoP 49 (enters_of Tryd.func49 (by kernel_rfl) rfl) ⟨_, Tryd.func48, by kernel_rfl, by kernel_rfl⟩
    (fun A w x y us vs hx hy W => close_call x y us vs W (rep_pair hx) (rep_pair hy))
end Go.Pe.Tryd
end
section
namespace Go.Pe.Tryd
open Go.Proofs Go.RowKit
set_option maxRecDepth 100000
noncomputable section
@[reducible] noncomputable def f47_c : Code := codeOf Tryd.f47
@[reducible] noncomputable def h47_E : Env := envOf Tryd.prog 25 [] []
theorem h47_E_okE : EnvOk Tryd.prog h47_E := envOf_ok _ _ _ mixed
@[reducible] noncomputable def h47_I : Shape := ⟨[.hole (.list (.prod .str .value))], [], []⟩
@[reducible] noncomputable def h47_O : Shape := ⟨[.whole 0], [], [some (.prod .str .value)]⟩
@[reducible] noncomputable def h47_a : Ann Tryd.prog 0 true f47_c := (.leaf _)
noncomputable def h47_F (y : h47_I.den) : Option h47_O.den := evFunH h47_E Tryd.f47 h47_a h47_I h47_O y
theorem h47_ok : SoundH Tryd.prog 47 ⟨h47_I, h47_O, h47_F⟩ := sound_ofH (I := h47_I) (O := h47_O) (c := f47_c) (h47_E_okE) (by kernel_rfl) (by kernel_rfl) (by kernel_rfl) h47_a rfl (fun _ => rfl)
@[reducible] noncomputable def f31_c : Code := codeOf Tryd.f31
@[reducible] noncomputable def f31_E : Env := envOfE Tryd.prog 25 [] [⟨47, _, h47_ok⟩] [⟨48, _, sort_okP⟩]
theorem f31_E_okE : EnvOk Tryd.prog f31_E := envOfE_ok _ _ _ _ mixed
@[reducible] noncomputable def f31_p0_sh : Shape := ⟨[.dead, .dead, .ptr 0 0, .dead, .whole 0, .ptr 1 0, .hole (.int .i64), .ptr 2 0, .dead, .dead, .dead, .dead, .dead, .whole 0, .hole (.int .i64), .hole (.int .i64), .dead, .dead, .dead, .dead, .dead, .dead, .dead, .dead, .dead, .dead, .dead, .dead, .dead, .dead, .dead, .dead, .dead, .dead, .dead, .dead, .dead, .dead, .dead, .dead, .dead, .dead, .dead, .dead, .dead, .dead, .dead, .dead, .dead, .dead], [some [.hole (.int .i64), .hole (.int .i64), .hole .str, .nilS, .nilS], some [.hole (.int .i64), .hole (.int .i64), .hole .str, .whole 2, .whole 1], some [.hole .str, .hole (.int .i64), .hole (.int .i64), .hole .str, .hole (.list .value), .hole (.list .str)]], [some (.prod .str .value), some .str, some .value]⟩
@[reducible] noncomputable def f31_p0_o0 : Shape := ⟨[.dead, .dead, .ptr 0 0, .dead, .whole 0, .ptr 1 0, .dead, .ptr 2 0, .dead, .dead, .dead, .dead, .dead, .whole 0, .hole (.int .i64), .hole (.int .i64), .dead, .dead, .dead, .dead, .dead, .dead, .dead, .dead, .dead, .dead, .dead, .dead, .dead, .dead, .dead, .dead, .hole .bool, .dead, .dead, .dead, .dead, .dead, .dead, .dead, .dead, .dead, .dead, .dead, .dead, .dead, .dead, .dead, .dead, .dead], [some [.hole (.int .i64), .hole (.int .i64), .hole .str, .nilS, .nilS], some [.hole (.int .i64), .hole (.int .i64), .hole .str, .whole 2, .whole 1], some [.hole .str, .hole (.int .i64), .hole (.int .i64), .hole .str, .hole (.list .value), .hole (.list .str)]], [some (.prod .str .value), some .str, some .value]⟩
@[reducible] noncomputable def f31_p0_outs : List (Ex × Shape) := [(.normal, f31_p0_o0)]
@[reducible] noncomputable def f31_p0_a : Ann Tryd.prog 0 true (f31_c.cr.cr.cr.cr.cl.cr.cb.cb.cr.cr.cl.cb.cr.cl.cl) := (.leaf _)
noncomputable def f31_p0_F (y : f31_p0_sh.den) : Option (OutDen f31_p0_outs) := evA f31_E f31_p0_a (fill f31_p0_sh y) (packOut f31_p0_outs)
theorem f31_p0_ok : PieceSound Tryd.prog 0 true (f31_c.cr.cr.cr.cr.cl.cr.cb.cb.cr.cr.cl.cb.cr.cl.cl) f31_p0_sh f31_p0_outs f31_p0_F := piece_of (f31_E_okE) f31_p0_a rfl rfl fun _ => rfl
@[reducible] noncomputable def f31_p1_sh : Shape := ⟨[.dead, .dead, .ptr 0 0, .dead, .whole 0, .ptr 1 0, .dead, .dead, .dead, .dead, .dead, .dead, .dead, .whole 0, .hole (.int .i64), .hole (.int .i64), .dead, .dead, .dead, .dead, .dead, .dead, .dead, .dead, .dead, .dead, .dead, .dead, .dead, .dead, .dead, .dead, .dead, .dead, .dead, .dead, .dead, .dead, .dead, .dead, .dead, .dead, .dead, .dead, .dead, .dead, .dead, .dead, .dead, .dead], [some [.hole (.int .i64), .hole (.int .i64), .hole .str, .nilS, .nilS], some [.hole (.int .i64), .hole (.int .i64), .hole .str, .whole 2, .whole 1]], [some (.prod .str .value), some .str, some .value]⟩
@[reducible] noncomputable def f31_p1_o0 : Shape := ⟨[.dead, .dead, .ptr 0 0, .dead, .dead, .ptr 1 0, .dead, .dead, .dead, .dead, .dead, .dead, .dead, .dead, .dead, .dead, .dead, .dead, .dead, .dead, .dead, .dead, .dead, .dead, .dead, .dead, .dead, .dead, .dead, .dead, .dead, .dead, .dead, .dead, .dead, .dead, .dead, .dead, .dead, .dead, .dead, .dead, .dead, .dead, .dead, .dead, .dead, .dead, .dead, .dead], [some [.hole (.int .i64), .hole (.int .i64), .hole .str, .nilS, .nilS], some [.hole (.int .i64), .hole (.int .i64), .hole .str, .whole 2, .whole 1]], [none, some .str, some .value]⟩
@[reducible] noncomputable def f31_p1_o1 : Shape := ⟨[.dead, .dead, .ptr 0 0, .hole (.int .i64), .dead, .dead, .dead, .dead, .dead, .dead, .dead, .dead, .dead, .dead, .dead, .dead, .dead, .dead, .dead, .dead, .dead, .dead, .dead, .dead, .dead, .dead, .dead, .dead, .dead, .dead, .dead, .dead, .dead, .dead, .dead, .dead, .dead, .dead, .dead, .dead, .dead, .dead, .dead, .dead, .dead, .dead, .dead, .dead, .dead, .dead], [some [.hole (.int .i64), .hole (.int .i64), .hole .str, .nilS, .nilS]], []⟩
@[reducible] noncomputable def f31_p1_outs : List (Ex × Shape) := [(.exit 0, f31_p1_o0), (.ret, f31_p1_o1)]
@[reducible] noncomputable def f31_p1_a : Ann Tryd.prog 0 true (f31_c.cr.cr.cr.cr.cl.cr.cb.cb) := (.seq (.leaf _) (.seq (.leaf _) (.seq (.block (.seq (.leaf _) (.seq (.seq (.piece _ _ _ f31_p0_ok) (.leaf _)) (.leaf _)))) (.leaf _))))
noncomputable def f31_p1_st (rec : f31_p1_sh.den → Option (OutDen f31_p1_outs)) (y : f31_p1_sh.den) : Option (OutDen f31_p1_outs) := evA f31_E f31_p1_a (fill f31_p1_sh y) fun ex st => match ex with | .normal => (abs f31_p1_sh st).bind rec | e => packOut f31_p1_outs e st
theorem f31_p1_ok : PieceSound Tryd.prog 0 true (.loop (f31_c.cr.cr.cr.cr.cl.cr.cb.cb)) f31_p1_sh f31_p1_outs (go f31_p1_st) := go_of (f31_E_okE) f31_p1_a rfl rfl fun _ _ => rfl
@[reducible] noncomputable def f31_ps : List KD := [.one (.list (.prod .str .value))]
@[reducible] noncomputable def f31_rs : List KD := [.agg [(.int .i64), (.int .i64), .str, (.list .value), (.list .str)], .one (.int .i64)]
@[reducible] noncomputable def f31_a : Ann Tryd.prog 0 true f31_c := (.seq (.leaf _) (.seq (.leaf _) (.seq (.leaf _) (.seq (.leaf _) (.seq (.seq (.leaf _) (.block (.piece _ _ _ f31_p1_ok))) (.leaf _))))))
noncomputable def f31_F (y : argsDen f31_ps) : Option (argsDen f31_rs) := evFunA f31_E Tryd.f31 f31_a (encArgs f31_ps y) (decRes f31_rs)
theorem f31_ok : Sound Tryd.prog 31 (pfun f31_F) := sound_of (c := f31_c) (f31_E_okE) (by kernel_rfl) (by kernel_rfl) (by kernel_rfl) f31_a (fun _ => rfl)
@[reducible] noncomputable def f51_c : Code := codeOf Tryd.f51
@[reducible] noncomputable def f51_E : Env := envOf Tryd.prog 25 [] []
theorem f51_E_okE : EnvOk Tryd.prog f51_E := envOf_ok _ _ _ mixed
@[reducible] noncomputable def f51_p0_sh : Shape := ⟨[.hole (.list .str), .hole .str, .dead, .dead, .dead, .dead, .dead, .hole (.int .i64), .hole (.int .i64), .dead, .dead, .dead, .dead, .dead, .dead, .dead, .dead, .dead, .dead], [], []⟩
@[reducible] noncomputable def f51_p0_o0 : Shape := ⟨[.dead, .dead, .dead, .dead, .dead, .dead, .dead, .dead, .dead, .dead, .dead, .dead, .dead, .dead, .dead, .dead, .dead, .dead, .dead], [], []⟩
@[reducible] noncomputable def f51_p0_o1 : Shape := ⟨[.dead, .dead, .dead, .dead, .hole (.int .i64), .dead, .dead, .dead, .dead, .dead, .dead, .dead, .dead, .dead, .dead, .dead, .dead, .dead, .dead], [], []⟩
@[reducible] noncomputable def f51_p0_outs : List (Ex × Shape) := [(.exit 0, f51_p0_o0), (.ret, f51_p0_o1)]
@[reducible] noncomputable def f51_p0_a : Ann Tryd.prog 0 true (f51_c.cr.cl.cr.cb.cb) := (.leaf _)
noncomputable def f51_p0_st (rec : f51_p0_sh.den → Option (OutDen f51_p0_outs)) (y : f51_p0_sh.den) : Option (OutDen f51_p0_outs) := evA f51_E f51_p0_a (fill f51_p0_sh y) fun ex st => match ex with | .normal => (abs f51_p0_sh st).bind rec | e => packOut f51_p0_outs e st
theorem f51_p0_ok : PieceSound Tryd.prog 0 true (.loop (f51_c.cr.cl.cr.cb.cb)) f51_p0_sh f51_p0_outs (go f51_p0_st) := go_of (f51_E_okE) f51_p0_a rfl rfl fun _ _ => rfl
@[reducible] noncomputable def f51_ps : List KD := [.one (.list .str), .one .str]
@[reducible] noncomputable def f51_rs : List KD := [.one (.int .i64)]
@[reducible] noncomputable def f51_a : Ann Tryd.prog 0 true f51_c := (.seq (.leaf _) (.seq (.seq (.leaf _) (.block (.piece _ _ _ f51_p0_ok))) (.leaf _)))
noncomputable def f51_F (y : argsDen f51_ps) : Option (argsDen f51_rs) := evFunA f51_E Tryd.f51 f51_a (encArgs f51_ps y) (decRes f51_rs)
theorem f51_ok : Sound Tryd.prog 51 (pfun f51_F) := sound_of (c := f51_c) (f51_E_okE) (by kernel_rfl) (by kernel_rfl) (by kernel_rfl) f51_a (fun _ => rfl)
@[reducible] noncomputable def f32_c : Code := codeOf Tryd.f32
@[reducible] noncomputable def f32_E : Env := envOf Tryd.prog 25 [rowOf true f51_ok] []
theorem f32_E_okE : EnvOk Tryd.prog f32_E := envOf_ok _ _ _ mixed
@[reducible] noncomputable def f32_p0_sh : Shape := ⟨[.dead, .dead, .ptr 0 0, .dead, .ptr 1 0, .dead, .hole (.int .i64), .dead, .dead, .dead, .dead, .dead, .dead, .dead, .dead, .dead, .dead, .dead, .dead, .dead, .dead, .dead, .dead, .dead, .dead, .dead, .dead, .dead, .dead, .dead, .dead, .dead, .dead], [some [.hole (.int .i64), .hole (.int .i64), .hole .str, .hole (.list .value), .hole (.list .str)], some [.hole (.int .i64), .hole (.int .i64), .hole .str, .nilS, .nilS]], []⟩
@[reducible] noncomputable def f32_p0_o0 : Shape := ⟨[.dead, .dead, .ptr 0 0, .dead, .ptr 1 0, .dead, .hole (.int .i64), .dead, .dead, .dead, .dead, .dead, .dead, .dead, .dead, .dead, .dead, .dead, .dead, .dead, .dead, .dead, .dead, .dead, .dead, .dead, .hole .bool, .dead, .dead, .dead, .dead, .dead, .dead], [some [.hole (.int .i64), .hole (.int .i64), .hole .str, .hole (.list .value), .hole (.list .str)], some [.hole (.int .i64), .hole (.int .i64), .hole .str, .nilS, .nilS]], []⟩
@[reducible] noncomputable def f32_p0_outs : List (Ex × Shape) := [(.normal, f32_p0_o0)]
@[reducible] noncomputable def f32_p0_a : Ann Tryd.prog 0 true (f32_c.cr.cr.cl.cl) := (.leaf _)
noncomputable def f32_p0_F (y : f32_p0_sh.den) : Option (OutDen f32_p0_outs) := evA f32_E f32_p0_a (fill f32_p0_sh y) (packOut f32_p0_outs)
theorem f32_p0_ok : PieceSound Tryd.prog 0 true (f32_c.cr.cr.cl.cl) f32_p0_sh f32_p0_outs f32_p0_F := piece_of (f32_E_okE) f32_p0_a rfl rfl fun _ => rfl
@[reducible] noncomputable def f32_ps : List KD := [.agg [(.int .i64), (.int .i64), .str, (.list .value), (.list .str)], .one .str]
@[reducible] noncomputable def f32_rs : List KD := [.agg [(.int .i64), (.int .i64), .str, (.list .value), (.list .str)], .one .bool]
@[reducible] noncomputable def f32_a : Ann Tryd.prog 0 true f32_c := (.seq (.leaf _) (.seq (.leaf _) (.seq (.seq (.piece _ _ _ f32_p0_ok) (.leaf _)) (.leaf _))))
noncomputable def f32_F (y : argsDen f32_ps) : Option (argsDen f32_rs) := evFunA f32_E Tryd.f32 f32_a (encArgs f32_ps y) (decRes f32_rs)
theorem f32_ok : Sound Tryd.prog 32 (pfun f32_F) := sound_of (c := f32_c) (f32_E_okE) (by kernel_rfl) (by kernel_rfl) (by kernel_rfl) f32_a (fun _ => rfl)
@[reducible] noncomputable def f11_c : Code := codeOf Tryd.f11
@[reducible] noncomputable def f11_E : Env := envOf Tryd.prog 25 [rowOf true f13_ok, rowOf true f12_ok, rowOf false f31_ok, rowOf false f32_ok, rowOf true f24_ok] []
theorem f11_E_okE : EnvOk Tryd.prog f11_E := envOf_ok _ _ _ mixed
@[reducible] noncomputable def f11_p0_sh : Shape := ⟨[.dead, .dead, .dead, .dead, .dead, .dead, .dead, .dead, .whole 1, .ptr 0 0, .hole (.int .i64), .ptr 1 0, .dead, .dead, .ptr 2 0, .ptr 3 0, .hole .bool, .dead, .dead, .dead, .dead, .dead, .dead, .dead, .dead, .dead, .dead, .dead, .dead, .dead, .dead, .dead, .dead, .dead, .dead, .dead, .dead, .dead, .dead, .dead, .dead, .dead, .dead, .dead, .dead, .dead, .dead, .dead, .dead, .dead, .dead, .dead, .dead, .dead, .dead, .dead, .dead, .dead, .dead, .dead, .dead, .dead, .dead, .dead, .dead, .dead, .dead, .dead, .dead, .dead, .dead, .dead, .dead, .dead, .dead, .hole (.list (.prod .str .value)), .hole (.int .i64), .hole (.int .i64), .dead, .dead, .dead, .dead, .dead, .dead, .dead, .dead, .dead, .dead, .dead, .dead, .dead, .dead, .dead, .dead, .dead, .dead, .dead, .dead, .dead, .dead, .dead, .dead, .dead, .dead, .dead, .dead, .dead, .dead, .dead, .dead, .dead, .dead, .dead, .dead, .dead, .dead, .dead, .dead], [some [.hole (.int .i64), .hole (.int .i64), .hole .str, .hole (.list .value), .hole (.list .str)], some [.hole (.int .i64), .hole (.int .i64), .hole .str, .hole (.list .value), .hole (.list .str)], some [.hole .str, .hole (.int .i64), .hole (.int .i64), .hole .str, .hole (.list .value), .hole (.list .str)], some [.hole (.int .i64), .hole (.int .i64), .hole .str, .hole (.list .value), .hole (.list .str)]], [none, some (.prod .str .value)]⟩
@[reducible] noncomputable def f11_p0_o0 : Shape := ⟨[.dead, .dead, .dead, .dead, .dead, .dead, .dead, .dead, .whole 1, .ptr 0 0, .hole (.int .i64), .ptr 1 0, .dead, .dead, .dead, .dead, .dead, .dead, .dead, .dead, .dead, .dead, .dead, .dead, .dead, .dead, .dead, .dead, .dead, .dead, .dead, .dead, .dead, .dead, .dead, .dead, .dead, .dead, .dead, .dead, .dead, .dead, .dead, .dead, .dead, .dead, .dead, .dead, .dead, .dead, .dead, .dead, .dead, .dead, .dead, .dead, .dead, .dead, .dead, .dead, .dead, .dead, .dead, .dead, .dead, .dead, .dead, .dead, .dead, .dead, .dead, .dead, .dead, .dead, .dead, .hole (.list (.prod .str .value)), .hole (.int .i64), .hole (.int .i64), .dead, .dead, .dead, .dead, .dead, .dead, .dead, .dead, .dead, .dead, .dead, .dead, .dead, .dead, .dead, .dead, .dead, .dead, .dead, .dead, .dead, .dead, .dead, .dead, .dead, .dead, .dead, .dead, .dead, .dead, .dead, .hole .bool, .dead, .dead, .dead, .dead, .dead, .dead, .dead, .dead], [some [.hole (.int .i64), .hole (.int .i64), .hole .str, .hole (.list .value), .hole (.list .str)], some [.hole (.int .i64), .hole (.int .i64), .hole .str, .hole (.list .value), .hole (.list .str)]], [none, some (.prod .str .value)]⟩
@[reducible] noncomputable def f11_p0_outs : List (Ex × Shape) := [(.normal, f11_p0_o0)]
@[reducible] noncomputable def f11_p0_a : Ann Tryd.prog 0 true (f11_c.cr.cr.cr.cr.cr.cr.cr.cr.cr.cr.cl.cr.cb.cb.cr.cr.cl.cb.cr.cr.cr.cl) := (.leaf _)
noncomputable def f11_p0_F (y : f11_p0_sh.den) : Option (OutDen f11_p0_outs) := evA f11_E f11_p0_a (fill f11_p0_sh y) (packOut f11_p0_outs)
theorem f11_p0_ok : PieceSound Tryd.prog 0 true (f11_c.cr.cr.cr.cr.cr.cr.cr.cr.cr.cr.cl.cr.cb.cb.cr.cr.cl.cb.cr.cr.cr.cl) f11_p0_sh f11_p0_outs f11_p0_F := piece_of (f11_E_okE) f11_p0_a rfl rfl fun _ => rfl
@[reducible] noncomputable def f11_p1_sh : Shape := ⟨[.dead, .dead, .dead, .dead, .dead, .dead, .dead, .dead, .whole 1, .ptr 0 0, .hole (.int .i64), .ptr 1 0, .dead, .dead, .dead, .dead, .dead, .dead, .dead, .dead, .dead, .dead, .dead, .dead, .dead, .dead, .dead, .dead, .dead, .dead, .dead, .dead, .dead, .dead, .dead, .dead, .dead, .dead, .dead, .dead, .dead, .dead, .dead, .dead, .dead, .dead, .dead, .dead, .dead, .dead, .dead, .dead, .dead, .dead, .dead, .dead, .dead, .dead, .dead, .dead, .dead, .dead, .dead, .dead, .dead, .dead, .dead, .dead, .dead, .dead, .dead, .dead, .dead, .dead, .dead, .hole (.list (.prod .str .value)), .hole (.int .i64), .hole (.int .i64), .dead, .dead, .dead, .dead, .dead, .dead, .dead, .dead, .dead, .dead, .dead, .dead, .dead, .dead, .dead, .dead, .dead, .dead, .dead, .dead, .dead, .dead, .dead, .dead, .dead, .dead, .dead, .dead, .dead, .dead, .dead, .dead, .dead, .dead, .dead, .dead, .dead, .dead, .dead, .dead], [some [.hole (.int .i64), .hole (.int .i64), .hole .str, .hole (.list .value), .hole (.list .str)], some [.hole (.int .i64), .hole (.int .i64), .hole .str, .hole (.list .value), .hole (.list .str)]], [none, some (.prod .str .value)]⟩
@[reducible] noncomputable def f11_p1_o0 : Shape := ⟨[.dead, .dead, .dead, .dead, .dead, .dead, .dead, .dead, .dead, .ptr 0 0, .hole (.int .i64), .ptr 1 0, .dead, .dead, .dead, .dead, .dead, .dead, .dead, .dead, .dead, .dead, .dead, .dead, .dead, .dead, .dead, .dead, .dead, .dead, .dead, .dead, .dead, .dead, .dead, .dead, .dead, .dead, .dead, .dead, .dead, .dead, .dead, .dead, .dead, .dead, .dead, .dead, .dead, .dead, .dead, .dead, .dead, .dead, .dead, .dead, .dead, .dead, .dead, .dead, .dead, .dead, .dead, .dead, .dead, .dead, .dead, .dead, .dead, .dead, .dead, .dead, .dead, .dead, .dead, .dead, .dead, .dead, .dead, .dead, .dead, .dead, .dead, .dead, .dead, .dead, .dead, .dead, .dead, .dead, .dead, .dead, .dead, .dead, .dead, .dead, .dead, .dead, .dead, .dead, .dead, .dead, .dead, .dead, .dead, .dead, .dead, .dead, .dead, .dead, .dead, .dead, .dead, .dead, .dead, .dead, .dead, .dead], [some [.hole (.int .i64), .hole (.int .i64), .hole .str, .hole (.list .value), .hole (.list .str)], some [.hole (.int .i64), .hole (.int .i64), .hole .str, .hole (.list .value), .hole (.list .str)]], []⟩
@[reducible] noncomputable def f11_p1_o1 : Shape := ⟨[.dead, .dead, .dead, .dead, .hole .bool, .dead, .dead, .dead, .dead, .dead, .dead, .dead, .dead, .dead, .dead, .dead, .dead, .dead, .dead, .dead, .dead, .dead, .dead, .dead, .dead, .dead, .dead, .dead, .dead, .dead, .dead, .dead, .dead, .dead, .dead, .dead, .dead, .dead, .dead, .dead, .dead, .dead, .dead, .dead, .dead, .dead, .dead, .dead, .dead, .dead, .dead, .dead, .dead, .dead, .dead, .dead, .dead, .dead, .dead, .dead, .dead, .dead, .dead, .dead, .dead, .dead, .dead, .dead, .dead, .dead, .dead, .dead, .dead, .dead, .dead, .dead, .dead, .dead, .dead, .dead, .dead, .dead, .dead, .dead, .dead, .dead, .dead, .dead, .dead, .dead, .dead, .dead, .dead, .dead, .dead, .dead, .dead, .dead, .dead, .dead, .dead, .dead, .dead, .dead, .dead, .dead, .dead, .dead, .dead, .dead, .dead, .dead, .dead, .dead, .dead, .dead, .dead, .dead], [], []⟩
@[reducible] noncomputable def f11_p1_outs : List (Ex × Shape) := [(.exit 2, f11_p1_o0), (.ret, f11_p1_o1)]
@[reducible] noncomputable def f11_p1_a : Ann Tryd.prog 0 true (f11_c.cr.cr.cr.cr.cr.cr.cr.cr.cr.cr.cl.cr.cb.cb) := (.seq (.leaf _) (.seq (.leaf _) (.seq (.block (.seq (.leaf _) (.seq (.leaf _) (.seq (.leaf _) (.seq (.piece _ _ _ f11_p0_ok) (.leaf _)))))) (.leaf _))))
noncomputable def f11_p1_st (rec : f11_p1_sh.den → Option (OutDen f11_p1_outs)) (y : f11_p1_sh.den) : Option (OutDen f11_p1_outs) := evA f11_E f11_p1_a (fill f11_p1_sh y) fun ex st => match ex with | .normal => (abs f11_p1_sh st).bind rec | e => packOut f11_p1_outs e st
theorem f11_p1_ok : PieceSound Tryd.prog 0 true (.loop (f11_c.cr.cr.cr.cr.cr.cr.cr.cr.cr.cr.cl.cr.cb.cb)) f11_p1_sh f11_p1_outs (go f11_p1_st) := go_of (f11_E_okE) f11_p1_a rfl rfl fun _ _ => rfl
@[reducible] noncomputable def f11_p2_sh : Shape := ⟨[.hole (.list (.prod .str .value)), .dead, .dead, .dead, .dead, .dead, .dead, .dead, .whole 1, .ptr 0 0, .hole (.int .i64), .ptr 1 0, .hole (.int .i64), .dead, .dead, .dead, .dead, .dead, .dead, .dead, .dead, .dead, .dead, .dead, .dead, .dead, .dead, .dead, .dead, .dead, .dead, .dead, .dead, .dead, .dead, .dead, .dead, .dead, .dead, .dead, .dead, .dead, .dead, .dead, .dead, .dead, .dead, .dead, .dead, .dead, .dead, .dead, .dead, .dead, .dead, .dead, .dead, .dead, .dead, .dead, .dead, .dead, .dead, .dead, .dead, .dead, .dead, .dead, .dead, .dead, .dead, .dead, .dead, .dead, .dead, .dead, .dead, .dead, .dead, .dead, .dead, .dead, .dead, .dead, .dead, .dead, .dead, .dead, .dead, .dead, .dead, .dead, .dead, .dead, .dead, .dead, .dead, .dead, .dead, .dead, .dead, .dead, .dead, .dead, .dead, .dead, .dead, .dead, .dead, .dead, .dead, .dead, .dead, .dead, .dead, .dead, .dead, .dead], [some [.hole (.int .i64), .hole (.int .i64), .hole .str, .hole (.list .value), .hole (.list .str)], some [.hole (.int .i64), .hole (.int .i64), .hole .str, .hole (.list .value), .hole (.list .str)]], [none, some (.prod .str .value), none]⟩
@[reducible] noncomputable def f11_p2_o0 : Shape := ⟨[.hole (.list (.prod .str .value)), .dead, .dead, .dead, .dead, .dead, .dead, .dead, .whole 1, .ptr 0 0, .hole (.int .i64), .ptr 1 0, .dead, .dead, .dead, .dead, .dead, .dead, .dead, .dead, .dead, .dead, .dead, .dead, .dead, .dead, .dead, .dead, .dead, .dead, .dead, .dead, .dead, .dead, .dead, .dead, .dead, .dead, .dead, .dead, .dead, .dead, .dead, .dead, .dead, .dead, .dead, .dead, .dead, .dead, .dead, .dead, .dead, .dead, .dead, .dead, .dead, .dead, .dead, .dead, .dead, .dead, .dead, .dead, .dead, .dead, .dead, .dead, .dead, .dead, .dead, .dead, .dead, .dead, .hole .bool, .dead, .dead, .dead, .dead, .dead, .dead, .dead, .dead, .dead, .dead, .dead, .dead, .dead, .dead, .dead, .dead, .dead, .dead, .dead, .dead, .dead, .dead, .dead, .dead, .dead, .dead, .dead, .dead, .dead, .dead, .dead, .dead, .dead, .dead, .dead, .dead, .dead, .dead, .dead, .dead, .dead, .dead, .dead], [some [.hole (.int .i64), .hole (.int .i64), .hole .str, .hole (.list .value), .hole (.list .str)], some [.hole (.int .i64), .hole (.int .i64), .hole .str, .hole (.list .value), .hole (.list .str)]], [none, some (.prod .str .value)]⟩
@[reducible] noncomputable def f11_p2_outs : List (Ex × Shape) := [(.normal, f11_p2_o0)]
@[reducible] noncomputable def f11_p2_a : Ann Tryd.prog 0 true (f11_c.cr.cr.cr.cr.cr.cr.cr.cr.cr.cl.cl) := (.leaf _)
noncomputable def f11_p2_F (y : f11_p2_sh.den) : Option (OutDen f11_p2_outs) := evA f11_E f11_p2_a (fill f11_p2_sh y) (packOut f11_p2_outs)
theorem f11_p2_ok : PieceSound Tryd.prog 0 true (f11_c.cr.cr.cr.cr.cr.cr.cr.cr.cr.cl.cl) f11_p2_sh f11_p2_outs f11_p2_F := piece_of (f11_E_okE) f11_p2_a rfl rfl fun _ => rfl
@[reducible] noncomputable def f11_p3_sh : Shape := ⟨[.hole (.list (.prod .str .value)), .dead, .dead, .dead, .dead, .dead, .dead, .dead, .whole 1, .ptr 0 0, .hole (.int .i64), .ptr 1 0, .hole (.int .i64), .dead, .dead, .dead, .dead, .dead, .dead, .dead, .dead, .dead, .dead, .dead, .dead, .dead, .dead, .dead, .dead, .dead, .dead, .dead, .dead, .dead, .dead, .dead, .dead, .dead, .dead, .dead, .dead, .dead, .dead, .dead, .dead, .dead, .dead, .dead, .dead, .dead, .dead, .dead, .dead, .dead, .dead, .dead, .dead, .dead, .dead, .dead, .dead, .dead, .dead, .dead, .dead, .dead, .dead, .dead, .dead, .dead, .dead, .dead, .dead, .dead, .dead, .dead, .dead, .dead, .dead, .dead, .dead, .dead, .dead, .dead, .dead, .dead, .dead, .dead, .dead, .dead, .dead, .dead, .dead, .dead, .dead, .dead, .dead, .dead, .dead, .dead, .dead, .dead, .dead, .dead, .dead, .dead, .dead, .dead, .dead, .dead, .dead, .dead, .dead, .dead, .dead, .dead, .dead, .dead], [some [.hole (.int .i64), .hole (.int .i64), .hole .str, .hole (.list .value), .hole (.list .str)], some [.hole (.int .i64), .hole (.int .i64), .hole .str, .hole (.list .value), .hole (.list .str)]], [none, some (.prod .str .value), none]⟩
@[reducible] noncomputable def f11_p3_o0 : Shape := ⟨[.dead, .dead, .dead, .dead, .hole .bool, .dead, .dead, .dead, .dead, .dead, .dead, .dead, .dead, .dead, .dead, .dead, .dead, .dead, .dead, .dead, .dead, .dead, .dead, .dead, .dead, .dead, .dead, .dead, .dead, .dead, .dead, .dead, .dead, .dead, .dead, .dead, .dead, .dead, .dead, .dead, .dead, .dead, .dead, .dead, .dead, .dead, .dead, .dead, .dead, .dead, .dead, .dead, .dead, .dead, .dead, .dead, .dead, .dead, .dead, .dead, .dead, .dead, .dead, .dead, .dead, .dead, .dead, .dead, .dead, .dead, .dead, .dead, .dead, .dead, .dead, .dead, .dead, .dead, .dead, .dead, .dead, .dead, .dead, .dead, .dead, .dead, .dead, .dead, .dead, .dead, .dead, .dead, .dead, .dead, .dead, .dead, .dead, .dead, .dead, .dead, .dead, .dead, .dead, .dead, .dead, .dead, .dead, .dead, .dead, .dead, .dead, .dead, .dead, .dead, .dead, .dead, .dead, .dead], [], []⟩
@[reducible] noncomputable def f11_p3_outs : List (Ex × Shape) := [(.ret, f11_p3_o0)]
@[reducible] noncomputable def f11_p3_a : Ann Tryd.prog 0 true (f11_c.cr.cr.cr.cr.cr.cr.cr.cr.cr) := (.seq (.seq (.piece _ _ _ f11_p2_ok) (.leaf _)) (.seq (.seq (.leaf _) (.block (.piece _ _ _ f11_p1_ok))) (.leaf _)))
noncomputable def f11_p3_F (y : f11_p3_sh.den) : Option (OutDen f11_p3_outs) := evA f11_E f11_p3_a (fill f11_p3_sh y) (packOut f11_p3_outs)
theorem f11_p3_ok : PieceSound Tryd.prog 0 true (f11_c.cr.cr.cr.cr.cr.cr.cr.cr.cr) f11_p3_sh f11_p3_outs f11_p3_F := piece_of (f11_E_okE) f11_p3_a rfl rfl fun _ => rfl
@[reducible] noncomputable def f11_p4_sh : Shape := ⟨[.whole 0, .hole (.int .i64), .dead, .dead, .dead, .hole (.int .i64), .dead, .dead, .dead, .dead, .dead, .dead, .dead, .dead, .dead, .dead, .dead, .dead, .dead, .dead, .dead, .dead, .dead, .dead, .dead, .dead, .dead, .dead, .dead, .whole 0, .hole (.int .i64), .hole (.int .i64), .dead, .dead, .dead, .dead, .dead, .dead, .dead, .dead, .dead, .dead, .dead, .dead, .dead, .dead, .dead, .dead, .dead, .dead, .dead, .dead, .dead, .dead, .dead, .dead, .dead, .dead, .dead, .dead, .dead, .dead, .dead, .dead, .dead, .dead, .dead, .dead, .dead, .dead, .dead, .dead, .dead, .dead, .dead, .dead, .dead, .dead, .dead, .dead, .dead, .dead, .dead, .dead, .dead, .dead, .dead, .dead, .dead, .dead, .dead, .dead, .dead, .dead, .dead, .dead, .dead, .dead, .dead, .dead, .dead, .dead, .dead, .dead, .dead, .dead, .dead, .dead, .dead, .dead, .dead, .dead, .dead, .dead, .dead, .dead, .dead, .dead], [], [some (.prod .str .value)]⟩
@[reducible] noncomputable def f11_p4_o0 : Shape := ⟨[.whole 0, .hole (.int .i64), .dead, .dead, .dead, .hole (.int .i64), .dead, .dead, .dead, .dead, .dead, .dead, .dead, .dead, .dead, .dead, .dead, .dead, .dead, .dead, .dead, .dead, .dead, .dead, .dead, .dead, .dead, .dead, .dead, .dead, .dead, .dead, .dead, .dead, .dead, .dead, .dead, .dead, .dead, .dead, .dead, .dead, .dead, .dead, .dead, .dead, .dead, .dead, .dead, .dead, .dead, .dead, .dead, .dead, .dead, .dead, .dead, .dead, .dead, .dead, .dead, .dead, .dead, .dead, .dead, .dead, .dead, .dead, .dead, .dead, .dead, .dead, .dead, .dead, .dead, .dead, .dead, .dead, .dead, .dead, .dead, .dead, .dead, .dead, .dead, .dead, .dead, .dead, .dead, .dead, .dead, .dead, .dead, .dead, .dead, .dead, .dead, .dead, .dead, .dead, .dead, .dead, .dead, .dead, .dead, .dead, .dead, .dead, .dead, .dead, .dead, .dead, .dead, .dead, .dead, .dead, .dead, .dead], [], [some (.prod .str .value)]⟩
@[reducible] noncomputable def f11_p4_o1 : Shape := ⟨[.dead, .dead, .dead, .dead, .hole .bool, .dead, .dead, .dead, .dead, .dead, .dead, .dead, .dead, .dead, .dead, .dead, .dead, .dead, .dead, .dead, .dead, .dead, .dead, .dead, .dead, .dead, .dead, .dead, .dead, .dead, .dead, .dead, .dead, .dead, .dead, .dead, .dead, .dead, .dead, .dead, .dead, .dead, .dead, .dead, .dead, .dead, .dead, .dead, .dead, .dead, .dead, .dead, .dead, .dead, .dead, .dead, .dead, .dead, .dead, .dead, .dead, .dead, .dead, .dead, .dead, .dead, .dead, .dead, .dead, .dead, .dead, .dead, .dead, .dead, .dead, .dead, .dead, .dead, .dead, .dead, .dead, .dead, .dead, .dead, .dead, .dead, .dead, .dead, .dead, .dead, .dead, .dead, .dead, .dead, .dead, .dead, .dead, .dead, .dead, .dead, .dead, .dead, .dead, .dead, .dead, .dead, .dead, .dead, .dead, .dead, .dead, .dead, .dead, .dead, .dead, .dead, .dead, .dead], [], []⟩
@[reducible] noncomputable def f11_p4_outs : List (Ex × Shape) := [(.exit 0, f11_p4_o0), (.ret, f11_p4_o1)]
@[reducible] noncomputable def f11_p4_a : Ann Tryd.prog 0 true (f11_c.cr.cr.cr.cr.cl.cr.cb.cb) := (.leaf _)
noncomputable def f11_p4_st (rec : f11_p4_sh.den → Option (OutDen f11_p4_outs)) (y : f11_p4_sh.den) : Option (OutDen f11_p4_outs) := evA f11_E f11_p4_a (fill f11_p4_sh y) fun ex st => match ex with | .normal => (abs f11_p4_sh st).bind rec | e => packOut f11_p4_outs e st
theorem f11_p4_ok : PieceSound Tryd.prog 0 true (.loop (f11_c.cr.cr.cr.cr.cl.cr.cb.cb)) f11_p4_sh f11_p4_outs (go f11_p4_st) := go_of (f11_E_okE) f11_p4_a rfl rfl fun _ _ => rfl
@[reducible] noncomputable def f11_ps : List KD := [.one (.list (.prod .str .value)), .one (.int .i64)]
@[reducible] noncomputable def f11_rs : List KD := [.one .bool]
@[reducible] noncomputable def f11_a : Ann Tryd.prog 0 true f11_c := (.seq (.leaf _) (.seq (.leaf _) (.seq (.leaf _) (.seq (.leaf _) (.seq (.seq (.leaf _) (.block (.piece _ _ _ f11_p4_ok))) (.seq (.leaf _) (.seq (.leaf _) (.seq (.leaf _) (.seq (.leaf _) (.piece _ _ _ f11_p3_ok))))))))))
noncomputable def f11_F (y : argsDen f11_ps) : Option (argsDen f11_rs) := evFunA f11_E Tryd.f11 f11_a (encArgs f11_ps y) (decRes f11_rs)
theorem f11_ok : Sound Tryd.prog 11 (pfun f11_F) := sound_of (c := f11_c) (f11_E_okE) (by kernel_rfl) (by kernel_rfl) (by kernel_rfl) f11_a (fun _ => rfl)
end
end Go.Pe.Tryd
end
section
namespace Go.Pe.Tryd
open Go.Proofs Go.RowKit
set_option maxRecDepth 100000
set_option linter.unusedVariables false
def h47_y (x0 : List ((List UInt8 × V))) : h47_I.den := ((x0, ()), (), ())
def h47_o_y (l0 : List ((List UInt8 × V))) : h47_O.den := (((), ()), (), (l0, ()))
def h47_o_l0 (z : h47_O.den) : List ((List UInt8 × V)) := z.2.2.1
@[simp] theorem h47_o_l0_y (l0 : List ((List UInt8 × V))) : h47_o_l0 (h47_o_y l0) = l0 := id rfl
theorem h47_eq (x0 : List ((List UInt8 × V))) : h47_F (h47_y x0) = (nilEq x0 (some (h47_o_y ([] : List ((List UInt8 × V))))) (appOk (([] : List ((List UInt8 × V))).length + x0.length) (some (h47_o_y (([] : List ((List UInt8 × V))) ++ x0))))) := by kernel_rfl
def f31_p0_y (x6 : Int) (x14 : Int) (x15 : Int) (r0_0 : Int) (r0_1 : Int) (r0_2 : List UInt8) (r1_0 : Int) (r1_1 : Int) (r1_2 : List UInt8) (r2_0 : List UInt8) (r2_1 : Int) (r2_2 : Int) (r2_3 : List UInt8) (r2_4 : List V) (r2_5 : List (List UInt8)) (l0 : List ((List UInt8 × V))) (l1 : List (List UInt8)) (l2 : List V) : f31_p0_sh.den := (((), ((), ((), ((), ((), ((), (x6, ((), ((), ((), ((), ((), ((), ((), (x14, (x15, ((), ((), ((), ((), ((), ((), ((), ((), ((), ((), ((), ((), ((), ((), ((), ((), ((), ((), ((), ((), ((), ((), ((), ((), ((), ((), ((), ((), ((), ((), ((), ((), ((), ((), ())))))))))))))))))))))))))))))))))))))))))))))))))), ((r0_0, (r0_1, (r0_2, ((), ((), ()))))), ((r1_0, (r1_1, (r1_2, ((), ((), ()))))), ((r2_0, (r2_1, (r2_2, (r2_3, (r2_4, (r2_5, ())))))), ()))), (l0, (l1, (l2, ()))))
def f31_p0_o0_y (x14 : Int) (x15 : Int) (x32 : Bool) (r0_0 : Int) (r0_1 : Int) (r0_2 : List UInt8) (r1_0 : Int) (r1_1 : Int) (r1_2 : List UInt8) (r2_0 : List UInt8) (r2_1 : Int) (r2_2 : Int) (r2_3 : List UInt8) (r2_4 : List V) (r2_5 : List (List UInt8)) (l0 : List ((List UInt8 × V))) (l1 : List (List UInt8)) (l2 : List V) : f31_p0_o0.den := (((), ((), ((), ((), ((), ((), ((), ((), ((), ((), ((), ((), ((), ((), (x14, (x15, ((), ((), ((), ((), ((), ((), ((), ((), ((), ((), ((), ((), ((), ((), ((), ((), (x32, ((), ((), ((), ((), ((), ((), ((), ((), ((), ((), ((), ((), ((), ((), ((), ((), ((), ())))))))))))))))))))))))))))))))))))))))))))))))))), ((r0_0, (r0_1, (r0_2, ((), ((), ()))))), ((r1_0, (r1_1, (r1_2, ((), ((), ()))))), ((r2_0, (r2_1, (r2_2, (r2_3, (r2_4, (r2_5, ())))))), ()))), (l0, (l1, (l2, ()))))
def f31_p0_o0_x14 (z : f31_p0_o0.den) : Int := z.1.2.2.2.2.2.2.2.2.2.2.2.2.2.2.1
def f31_p0_o0_x15 (z : f31_p0_o0.den) : Int := z.1.2.2.2.2.2.2.2.2.2.2.2.2.2.2.2.1
def f31_p0_o0_x32 (z : f31_p0_o0.den) : Bool := z.1.2.2.2.2.2.2.2.2.2.2.2.2.2.2.2.2.2.2.2.2.2.2.2.2.2.2.2.2.2.2.2.2.1
def f31_p0_o0_r0_0 (z : f31_p0_o0.den) : Int := z.2.1.1.1
def f31_p0_o0_r0_1 (z : f31_p0_o0.den) : Int := z.2.1.1.2.1
def f31_p0_o0_r0_2 (z : f31_p0_o0.den) : List UInt8 := z.2.1.1.2.2.1
def f31_p0_o0_r1_0 (z : f31_p0_o0.den) : Int := z.2.1.2.1.1
def f31_p0_o0_r1_1 (z : f31_p0_o0.den) : Int := z.2.1.2.1.2.1
def f31_p0_o0_r1_2 (z : f31_p0_o0.den) : List UInt8 := z.2.1.2.1.2.2.1
def f31_p0_o0_r2_0 (z : f31_p0_o0.den) : List UInt8 := z.2.1.2.2.1.1
def f31_p0_o0_r2_1 (z : f31_p0_o0.den) : Int := z.2.1.2.2.1.2.1
def f31_p0_o0_r2_2 (z : f31_p0_o0.den) : Int := z.2.1.2.2.1.2.2.1
def f31_p0_o0_r2_3 (z : f31_p0_o0.den) : List UInt8 := z.2.1.2.2.1.2.2.2.1
def f31_p0_o0_r2_4 (z : f31_p0_o0.den) : List V := z.2.1.2.2.1.2.2.2.2.1
def f31_p0_o0_r2_5 (z : f31_p0_o0.den) : List (List UInt8) := z.2.1.2.2.1.2.2.2.2.2.1
def f31_p0_o0_l0 (z : f31_p0_o0.den) : List ((List UInt8 × V)) := z.2.2.1
def f31_p0_o0_l1 (z : f31_p0_o0.den) : List (List UInt8) := z.2.2.2.1
def f31_p0_o0_l2 (z : f31_p0_o0.den) : List V := z.2.2.2.2.1
@[simp] theorem f31_p0_o0_x14_y (x14 : Int) (x15 : Int) (x32 : Bool) (r0_0 : Int) (r0_1 : Int) (r0_2 : List UInt8) (r1_0 : Int) (r1_1 : Int) (r1_2 : List UInt8) (r2_0 : List UInt8) (r2_1 : Int) (r2_2 : Int) (r2_3 : List UInt8) (r2_4 : List V) (r2_5 : List (List UInt8)) (l0 : List ((List UInt8 × V))) (l1 : List (List UInt8)) (l2 : List V) : f31_p0_o0_x14 (f31_p0_o0_y x14 x15 x32 r0_0 r0_1 r0_2 r1_0 r1_1 r1_2 r2_0 r2_1 r2_2 r2_3 r2_4 r2_5 l0 l1 l2) = x14 := id rfl
@[simp] theorem f31_p0_o0_x15_y (x14 : Int) (x15 : Int) (x32 : Bool) (r0_0 : Int) (r0_1 : Int) (r0_2 : List UInt8) (r1_0 : Int) (r1_1 : Int) (r1_2 : List UInt8) (r2_0 : List UInt8) (r2_1 : Int) (r2_2 : Int) (r2_3 : List UInt8) (r2_4 : List V) (r2_5 : List (List UInt8)) (l0 : List ((List UInt8 × V))) (l1 : List (List UInt8)) (l2 : List V) : f31_p0_o0_x15 (f31_p0_o0_y x14 x15 x32 r0_0 r0_1 r0_2 r1_0 r1_1 r1_2 r2_0 r2_1 r2_2 r2_3 r2_4 r2_5 l0 l1 l2) = x15 := id rfl
@[simp] theorem f31_p0_o0_x32_y (x14 : Int) (x15 : Int) (x32 : Bool) (r0_0 : Int) (r0_1 : Int) (r0_2 : List UInt8) (r1_0 : Int) (r1_1 : Int) (r1_2 : List UInt8) (r2_0 : List UInt8) (r2_1 : Int) (r2_2 : Int) (r2_3 : List UInt8) (r2_4 : List V) (r2_5 : List (List UInt8)) (l0 : List ((List UInt8 × V))) (l1 : List (List UInt8)) (l2 : List V) : f31_p0_o0_x32 (f31_p0_o0_y x14 x15 x32 r0_0 r0_1 r0_2 r1_0 r1_1 r1_2 r2_0 r2_1 r2_2 r2_3 r2_4 r2_5 l0 l1 l2) = x32 := id rfl
@[simp] theorem f31_p0_o0_r0_0_y (x14 : Int) (x15 : Int) (x32 : Bool) (r0_0 : Int) (r0_1 : Int) (r0_2 : List UInt8) (r1_0 : Int) (r1_1 : Int) (r1_2 : List UInt8) (r2_0 : List UInt8) (r2_1 : Int) (r2_2 : Int) (r2_3 : List UInt8) (r2_4 : List V) (r2_5 : List (List UInt8)) (l0 : List ((List UInt8 × V))) (l1 : List (List UInt8)) (l2 : List V) : f31_p0_o0_r0_0 (f31_p0_o0_y x14 x15 x32 r0_0 r0_1 r0_2 r1_0 r1_1 r1_2 r2_0 r2_1 r2_2 r2_3 r2_4 r2_5 l0 l1 l2) = r0_0 := id rfl
@[simp] theorem f31_p0_o0_r0_1_y (x14 : Int) (x15 : Int) (x32 : Bool) (r0_0 : Int) (r0_1 : Int) (r0_2 : List UInt8) (r1_0 : Int) (r1_1 : Int) (r1_2 : List UInt8) (r2_0 : List UInt8) (r2_1 : Int) (r2_2 : Int) (r2_3 : List UInt8) (r2_4 : List V) (r2_5 : List (List UInt8)) (l0 : List ((List UInt8 × V))) (l1 : List (List UInt8)) (l2 : List V) : f31_p0_o0_r0_1 (f31_p0_o0_y x14 x15 x32 r0_0 r0_1 r0_2 r1_0 r1_1 r1_2 r2_0 r2_1 r2_2 r2_3 r2_4 r2_5 l0 l1 l2) = r0_1 := id rfl
@[simp] theorem f31_p0_o0_r0_2_y (x14 : Int) (x15 : Int) (x32 : Bool) (r0_0 : Int) (r0_1 : Int) (r0_2 : List UInt8) (r1_0 : Int) (r1_1 : Int) (r1_2 : List UInt8) (r2_0 : List UInt8) (r2_1 : Int) (r2_2 : Int) (r2_3 : List UInt8) (r2_4 : List V) (r2_5 : List (List UInt8)) (l0 : List ((List UInt8 × V))) (l1 : List (List UInt8)) (l2 : List V) : f31_p0_o0_r0_2 (f31_p0_o0_y x14 x15 x32 r0_0 r0_1 r0_2 r1_0 r1_1 r1_2 r2_0 r2_1 r2_2 r2_3 r2_4 r2_5 l0 l1 l2) = r0_2 := id rfl
@[simp] theorem f31_p0_o0_r1_0_y (x14 : Int) (x15 : Int) (x32 : Bool) (r0_0 : Int) (r0_1 : Int) (r0_2 : List UInt8) (r1_0 : Int) (r1_1 : Int) (r1_2 : List UInt8) (r2_0 : List UInt8) (r2_1 : Int) (r2_2 : Int) (r2_3 : List UInt8) (r2_4 : List V) (r2_5 : List (List UInt8)) (l0 : List ((List UInt8 × V))) (l1 : List (List UInt8)) (l2 : List V) : f31_p0_o0_r1_0 (f31_p0_o0_y x14 x15 x32 r0_0 r0_1 r0_2 r1_0 r1_1 r1_2 r2_0 r2_1 r2_2 r2_3 r2_4 r2_5 l0 l1 l2) = r1_0 := id rfl
@[simp] theorem f31_p0_o0_r1_1_y (x14 : Int) (x15 : Int) (x32 : Bool) (r0_0 : Int) (r0_1 : Int) (r0_2 : List UInt8) (r1_0 : Int) (r1_1 : Int) (r1_2 : List UInt8) (r2_0 : List UInt8) (r2_1 : Int) (r2_2 : Int) (r2_3 : List UInt8) (r2_4 : List V) (r2_5 : List (List UInt8)) (l0 : List ((List UInt8 × V))) (l1 : List (List UInt8)) (l2 : List V) : f31_p0_o0_r1_1 (f31_p0_o0_y x14 x15 x32 r0_0 r0_1 r0_2 r1_0 r1_1 r1_2 r2_0 r2_1 r2_2 r2_3 r2_4 r2_5 l0 l1 l2) = r1_1 := id rfl
@[simp] theorem f31_p0_o0_r1_2_y (x14 : Int) (x15 : Int) (x32 : Bool) (r0_0 : Int) (r0_1 : Int) (r0_2 : List UInt8) (r1_0 : Int) (r1_1 : Int) (r1_2 : List UInt8) (r2_0 : List UInt8) (r2_1 : Int) (r2_2 : Int) (r2_3 : List UInt8) (r2_4 : List V) (r2_5 : List (List UInt8)) (l0 : List ((List UInt8 × V))) (l1 : List (List UInt8)) (l2 : List V) : f31_p0_o0_r1_2 (f31_p0_o0_y x14 x15 x32 r0_0 r0_1 r0_2 r1_0 r1_1 r1_2 r2_0 r2_1 r2_2 r2_3 r2_4 r2_5 l0 l1 l2) = r1_2 := id rfl
@[simp] theorem f31_p0_o0_r2_0_y (x14 : Int) (x15 : Int) (x32 : Bool) (r0_0 : Int) (r0_1 : Int) (r0_2 : List UInt8) (r1_0 : Int) (r1_1 : Int) (r1_2 : List UInt8) (r2_0 : List UInt8) (r2_1 : Int) (r2_2 : Int) (r2_3 : List UInt8) (r2_4 : List V) (r2_5 : List (List UInt8)) (l0 : List ((List UInt8 × V))) (l1 : List (List UInt8)) (l2 : List V) : f31_p0_o0_r2_0 (f31_p0_o0_y x14 x15 x32 r0_0 r0_1 r0_2 r1_0 r1_1 r1_2 r2_0 r2_1 r2_2 r2_3 r2_4 r2_5 l0 l1 l2) = r2_0 := id rfl
@[simp] theorem f31_p0_o0_r2_1_y (x14 : Int) (x15 : Int) (x32 : Bool) (r0_0 : Int) (r0_1 : Int) (r0_2 : List UInt8) (r1_0 : Int) (r1_1 : Int) (r1_2 : List UInt8) (r2_0 : List UInt8) (r2_1 : Int) (r2_2 : Int) (r2_3 : List UInt8) (r2_4 : List V) (r2_5 : List (List UInt8)) (l0 : List ((List UInt8 × V))) (l1 : List (List UInt8)) (l2 : List V) : f31_p0_o0_r2_1 (f31_p0_o0_y x14 x15 x32 r0_0 r0_1 r0_2 r1_0 r1_1 r1_2 r2_0 r2_1 r2_2 r2_3 r2_4 r2_5 l0 l1 l2) = r2_1 := id rfl
@[simp] theorem f31_p0_o0_r2_2_y (x14 : Int) (x15 : Int) (x32 : Bool) (r0_0 : Int) (r0_1 : Int) (r0_2 : List UInt8) (r1_0 : Int) (r1_1 : Int) (r1_2 : List UInt8) (r2_0 : List UInt8) (r2_1 : Int) (r2_2 : Int) (r2_3 : List UInt8) (r2_4 : List V) (r2_5 : List (List UInt8)) (l0 : List ((List UInt8 × V))) (l1 : List (List UInt8)) (l2 : List V) : f31_p0_o0_r2_2 (f31_p0_o0_y x14 x15 x32 r0_0 r0_1 r0_2 r1_0 r1_1 r1_2 r2_0 r2_1 r2_2 r2_3 r2_4 r2_5 l0 l1 l2) = r2_2 := id rfl
@[simp] theorem f31_p0_o0_r2_3_y (x14 : Int) (x15 : Int) (x32 : Bool) (r0_0 : Int) (r0_1 : Int) (r0_2 : List UInt8) (r1_0 : Int) (r1_1 : Int) (r1_2 : List UInt8) (r2_0 : List UInt8) (r2_1 : Int) (r2_2 : Int) (r2_3 : List UInt8) (r2_4 : List V) (r2_5 : List (List UInt8)) (l0 : List ((List UInt8 × V))) (l1 : List (List UInt8)) (l2 : List V) : f31_p0_o0_r2_3 (f31_p0_o0_y x14 x15 x32 r0_0 r0_1 r0_2 r1_0 r1_1 r1_2 r2_0 r2_1 r2_2 r2_3 r2_4 r2_5 l0 l1 l2) = r2_3 := id rfl
@[simp] theorem f31_p0_o0_r2_4_y (x14 : Int) (x15 : Int) (x32 : Bool) (r0_0 : Int) (r0_1 : Int) (r0_2 : List UInt8) (r1_0 : Int) (r1_1 : Int) (r1_2 : List UInt8) (r2_0 : List UInt8) (r2_1 : Int) (r2_2 : Int) (r2_3 : List UInt8) (r2_4 : List V) (r2_5 : List (List UInt8)) (l0 : List ((List UInt8 × V))) (l1 : List (List UInt8)) (l2 : List V) : f31_p0_o0_r2_4 (f31_p0_o0_y x14 x15 x32 r0_0 r0_1 r0_2 r1_0 r1_1 r1_2 r2_0 r2_1 r2_2 r2_3 r2_4 r2_5 l0 l1 l2) = r2_4 := id rfl
@[simp] theorem f31_p0_o0_r2_5_y (x14 : Int) (x15 : Int) (x32 : Bool) (r0_0 : Int) (r0_1 : Int) (r0_2 : List UInt8) (r1_0 : Int) (r1_1 : Int) (r1_2 : List UInt8) (r2_0 : List UInt8) (r2_1 : Int) (r2_2 : Int) (r2_3 : List UInt8) (r2_4 : List V) (r2_5 : List (List UInt8)) (l0 : List ((List UInt8 × V))) (l1 : List (List UInt8)) (l2 : List V) : f31_p0_o0_r2_5 (f31_p0_o0_y x14 x15 x32 r0_0 r0_1 r0_2 r1_0 r1_1 r1_2 r2_0 r2_1 r2_2 r2_3 r2_4 r2_5 l0 l1 l2) = r2_5 := id rfl
@[simp] theorem f31_p0_o0_l0_y (x14 : Int) (x15 : Int) (x32 : Bool) (r0_0 : Int) (r0_1 : Int) (r0_2 : List UInt8) (r1_0 : Int) (r1_1 : Int) (r1_2 : List UInt8) (r2_0 : List UInt8) (r2_1 : Int) (r2_2 : Int) (r2_3 : List UInt8) (r2_4 : List V) (r2_5 : List (List UInt8)) (l0 : List ((List UInt8 × V))) (l1 : List (List UInt8)) (l2 : List V) : f31_p0_o0_l0 (f31_p0_o0_y x14 x15 x32 r0_0 r0_1 r0_2 r1_0 r1_1 r1_2 r2_0 r2_1 r2_2 r2_3 r2_4 r2_5 l0 l1 l2) = l0 := id rfl
@[simp] theorem f31_p0_o0_l1_y (x14 : Int) (x15 : Int) (x32 : Bool) (r0_0 : Int) (r0_1 : Int) (r0_2 : List UInt8) (r1_0 : Int) (r1_1 : Int) (r1_2 : List UInt8) (r2_0 : List UInt8) (r2_1 : Int) (r2_2 : Int) (r2_3 : List UInt8) (r2_4 : List V) (r2_5 : List (List UInt8)) (l0 : List ((List UInt8 × V))) (l1 : List (List UInt8)) (l2 : List V) : f31_p0_o0_l1 (f31_p0_o0_y x14 x15 x32 r0_0 r0_1 r0_2 r1_0 r1_1 r1_2 r2_0 r2_1 r2_2 r2_3 r2_4 r2_5 l0 l1 l2) = l1 := id rfl
@[simp] theorem f31_p0_o0_l2_y (x14 : Int) (x15 : Int) (x32 : Bool) (r0_0 : Int) (r0_1 : Int) (r0_2 : List UInt8) (r1_0 : Int) (r1_1 : Int) (r1_2 : List UInt8) (r2_0 : List UInt8) (r2_1 : Int) (r2_2 : Int) (r2_3 : List UInt8) (r2_4 : List V) (r2_5 : List (List UInt8)) (l0 : List ((List UInt8 × V))) (l1 : List (List UInt8)) (l2 : List V) : f31_p0_o0_l2 (f31_p0_o0_y x14 x15 x32 r0_0 r0_1 r0_2 r1_0 r1_1 r1_2 r2_0 r2_1 r2_2 r2_3 r2_4 r2_5 l0 l1 l2) = l2 := id rfl
theorem f31_p0_eq (x6 : Int) (x14 : Int) (x15 : Int) (r0_0 : Int) (r0_1 : Int) (r0_2 : List UInt8) (r1_0 : Int) (r1_1 : Int) (r1_2 : List UInt8) (r2_0 : List UInt8) (r2_1 : Int) (r2_2 : Int) (r2_3 : List UInt8) (r2_4 : List V) (r2_5 : List (List UInt8)) (l0 : List ((List UInt8 × V))) (l1 : List (List UInt8)) (l2 : List V) : f31_p0_F (f31_p0_y x6 x14 x15 r0_0 r0_1 r0_2 r1_0 r1_1 r1_2 r2_0 r2_1 r2_2 r2_3 r2_4 r2_5 l0 l1 l2) = (bif (decide (x6 > (0 : Int))) then (within (IntKind.i64.wrap (x6 - (1 : Int))) l0.length ((l0[(Int.toNat (IntKind.i64.wrap (x6 - (1 : Int))))]?).bind fun e1 => some ((f31_p0_o0_y x14 x15 (e1.1 == r2_0) r0_0 r0_1 r0_2 r1_0 r1_1 r1_2 r2_0 r2_1 r2_2 r2_3 r2_4 r2_5 l0 l1 l2)))) else (some ((f31_p0_o0_y x14 x15 false r0_0 r0_1 r0_2 r1_0 r1_1 r1_2 r2_0 r2_1 r2_2 r2_3 r2_4 r2_5 l0 l1 l2)))) := by kernel_rfl
def f31_p1_y (x14 : Int) (x15 : Int) (r0_0 : Int) (r0_1 : Int) (r0_2 : List UInt8) (r1_0 : Int) (r1_1 : Int) (r1_2 : List UInt8) (l0 : List ((List UInt8 × V))) (l1 : List (List UInt8)) (l2 : List V) : f31_p1_sh.den := (((), ((), ((), ((), ((), ((), ((), ((), ((), ((), ((), ((), ((), ((), (x14, (x15, ((), ((), ((), ((), ((), ((), ((), ((), ((), ((), ((), ((), ((), ((), ((), ((), ((), ((), ((), ((), ((), ((), ((), ((), ((), ((), ((), ((), ((), ((), ((), ((), ((), ((), ())))))))))))))))))))))))))))))))))))))))))))))))))), ((r0_0, (r0_1, (r0_2, ((), ((), ()))))), ((r1_0, (r1_1, (r1_2, ((), ((), ()))))), ())), (l0, (l1, (l2, ()))))
def f31_p1_o0_y (r0_0 : Int) (r0_1 : Int) (r0_2 : List UInt8) (r1_0 : Int) (r1_1 : Int) (r1_2 : List UInt8) (l1 : List (List UInt8)) (l2 : List V) : f31_p1_o0.den := (((), ((), ((), ((), ((), ((), ((), ((), ((), ((), ((), ((), ((), ((), ((), ((), ((), ((), ((), ((), ((), ((), ((), ((), ((), ((), ((), ((), ((), ((), ((), ((), ((), ((), ((), ((), ((), ((), ((), ((), ((), ((), ((), ((), ((), ((), ((), ((), ((), ((), ())))))))))))))))))))))))))))))))))))))))))))))))))), ((r0_0, (r0_1, (r0_2, ((), ((), ()))))), ((r1_0, (r1_1, (r1_2, ((), ((), ()))))), ())), (l1, (l2, ())))
def f31_p1_o0_r1_0 (z : f31_p1_o0.den) : Int := z.2.1.2.1.1
def f31_p1_o0_r1_1 (z : f31_p1_o0.den) : Int := z.2.1.2.1.2.1
def f31_p1_o0_r1_2 (z : f31_p1_o0.den) : List UInt8 := z.2.1.2.1.2.2.1
def f31_p1_o0_l1 (z : f31_p1_o0.den) : List (List UInt8) := z.2.2.1
def f31_p1_o0_l2 (z : f31_p1_o0.den) : List V := z.2.2.2.1
@[simp] theorem f31_p1_o0_r1_0_y (r0_0 : Int) (r0_1 : Int) (r0_2 : List UInt8) (r1_0 : Int) (r1_1 : Int) (r1_2 : List UInt8) (l1 : List (List UInt8)) (l2 : List V) : f31_p1_o0_r1_0 (f31_p1_o0_y r0_0 r0_1 r0_2 r1_0 r1_1 r1_2 l1 l2) = r1_0 := id rfl
@[simp] theorem f31_p1_o0_r1_1_y (r0_0 : Int) (r0_1 : Int) (r0_2 : List UInt8) (r1_0 : Int) (r1_1 : Int) (r1_2 : List UInt8) (l1 : List (List UInt8)) (l2 : List V) : f31_p1_o0_r1_1 (f31_p1_o0_y r0_0 r0_1 r0_2 r1_0 r1_1 r1_2 l1 l2) = r1_1 := id rfl
@[simp] theorem f31_p1_o0_r1_2_y (r0_0 : Int) (r0_1 : Int) (r0_2 : List UInt8) (r1_0 : Int) (r1_1 : Int) (r1_2 : List UInt8) (l1 : List (List UInt8)) (l2 : List V) : f31_p1_o0_r1_2 (f31_p1_o0_y r0_0 r0_1 r0_2 r1_0 r1_1 r1_2 l1 l2) = r1_2 := id rfl
@[simp] theorem f31_p1_o0_l1_y (r0_0 : Int) (r0_1 : Int) (r0_2 : List UInt8) (r1_0 : Int) (r1_1 : Int) (r1_2 : List UInt8) (l1 : List (List UInt8)) (l2 : List V) : f31_p1_o0_l1 (f31_p1_o0_y r0_0 r0_1 r0_2 r1_0 r1_1 r1_2 l1 l2) = l1 := id rfl
@[simp] theorem f31_p1_o0_l2_y (r0_0 : Int) (r0_1 : Int) (r0_2 : List UInt8) (r1_0 : Int) (r1_1 : Int) (r1_2 : List UInt8) (l1 : List (List UInt8)) (l2 : List V) : f31_p1_o0_l2 (f31_p1_o0_y r0_0 r0_1 r0_2 r1_0 r1_1 r1_2 l1 l2) = l2 := id rfl
def f31_p1_o1_y (x3 : Int) (r0_0 : Int) (r0_1 : Int) (r0_2 : List UInt8) : f31_p1_o1.den := (((), ((), ((), (x3, ((), ((), ((), ((), ((), ((), ((), ((), ((), ((), ((), ((), ((), ((), ((), ((), ((), ((), ((), ((), ((), ((), ((), ((), ((), ((), ((), ((), ((), ((), ((), ((), ((), ((), ((), ((), ((), ((), ((), ((), ((), ((), ((), ((), ((), ((), ())))))))))))))))))))))))))))))))))))))))))))))))))), ((r0_0, (r0_1, (r0_2, ((), ((), ()))))), ()), ())
def f31_p1_o1_x3 (z : f31_p1_o1.den) : Int := z.1.2.2.2.1
def f31_p1_o1_r0_0 (z : f31_p1_o1.den) : Int := z.2.1.1.1
def f31_p1_o1_r0_1 (z : f31_p1_o1.den) : Int := z.2.1.1.2.1
def f31_p1_o1_r0_2 (z : f31_p1_o1.den) : List UInt8 := z.2.1.1.2.2.1
@[simp] theorem f31_p1_o1_x3_y (x3 : Int) (r0_0 : Int) (r0_1 : Int) (r0_2 : List UInt8) : f31_p1_o1_x3 (f31_p1_o1_y x3 r0_0 r0_1 r0_2) = x3 := id rfl
@[simp] theorem f31_p1_o1_r0_0_y (x3 : Int) (r0_0 : Int) (r0_1 : Int) (r0_2 : List UInt8) : f31_p1_o1_r0_0 (f31_p1_o1_y x3 r0_0 r0_1 r0_2) = r0_0 := id rfl
@[simp] theorem f31_p1_o1_r0_1_y (x3 : Int) (r0_0 : Int) (r0_1 : Int) (r0_2 : List UInt8) : f31_p1_o1_r0_1 (f31_p1_o1_y x3 r0_0 r0_1 r0_2) = r0_1 := id rfl
@[simp] theorem f31_p1_o1_r0_2_y (x3 : Int) (r0_0 : Int) (r0_1 : Int) (r0_2 : List UInt8) : f31_p1_o1_r0_2 (f31_p1_o1_y x3 r0_0 r0_1 r0_2) = r0_2 := id rfl
theorem f31_p1_eq (rec : f31_p1_sh.den → Option (OutDen f31_p1_outs)) (x14 : Int) (x15 : Int) (r0_0 : Int) (r0_1 : Int) (r0_2 : List UInt8) (r1_0 : Int) (r1_1 : Int) (r1_2 : List UInt8) (l0 : List ((List UInt8 × V))) (l1 : List (List UInt8)) (l2 : List V) : f31_p1_st rec (f31_p1_y x14 x15 r0_0 r0_1 r0_2 r1_0 r1_1 r1_2 l0 l1 l2) = (bif (decide (x15 < x14)) then (within x15 l0.length ((l0[(Int.toNat x15)]?).bind fun e2 => (f31_p0_F (f31_p0_y x15 x14 x15 r0_0 r0_1 r0_2 r1_0 r1_1 r1_2 e2.1 e2.2.kind e2.2.n e2.2.s e2.2.items e2.2.keys l0 l1 l2)).bind fun o3 => bif (f31_p0_o0_x32 o3) then (some (.inr ((f31_p1_o1_y (23 : Int) (0 : Int) (0 : Int) ([] : List UInt8))))) else (appOk ((f31_p0_o0_l1 o3).length + [(f31_p0_o0_r2_0 o3)].length) (appOk ((f31_p0_o0_l2 o3).length + [(V.mk (f31_p0_o0_r2_1 o3) (f31_p0_o0_r2_2 o3) (f31_p0_o0_r2_3 o3) (f31_p0_o0_r2_4 o3) (f31_p0_o0_r2_5 o3))].length) (rec (f31_p1_y (f31_p0_o0_x14 o3) (IntKind.i64.wrap ((f31_p0_o0_x15 o3) + (1 : Int))) (f31_p0_o0_r0_0 o3) (f31_p0_o0_r0_1 o3) (f31_p0_o0_r0_2 o3) (f31_p0_o0_r1_0 o3) (f31_p0_o0_r1_1 o3) (f31_p0_o0_r1_2 o3) (f31_p0_o0_l0 o3) ((f31_p0_o0_l1 o3) ++ [(f31_p0_o0_r2_0 o3)]) ((f31_p0_o0_l2 o3) ++ [(V.mk (f31_p0_o0_r2_1 o3) (f31_p0_o0_r2_2 o3) (f31_p0_o0_r2_3 o3) (f31_p0_o0_r2_4 o3) (f31_p0_o0_r2_5 o3))]))))))) else (some (.inl (f31_p1_o0_y r0_0 r0_1 r0_2 r1_0 r1_1 r1_2 l1 l2)))) := by kernel_rfl
theorem f31_eq (a0 : List ((List UInt8 × V))) : f31_F (a0, ()) = ((h47_F (h47_y a0)).bind fun z4 => appOk (h47_o_l0 z4).length ((go f31_p1_st (f31_p1_y ((sortF cmpP (h47_o_l0 z4)).length : Int) (0 : Int) (0 : Int) (0 : Int) ([] : List UInt8) (4 : Int) (0 : Int) ([] : List UInt8) (sortF cmpP (h47_o_l0 z4)) ([] : List (List UInt8)) ([] : List (V)))).bind fun o5 => (match o5 with | .inl z6 => some (((f31_p1_o0_r1_0 z6), ((f31_p1_o0_r1_1 z6), ((f31_p1_o0_r1_2 z6), ((f31_p1_o0_l2 z6), ((f31_p1_o0_l1 z6), ()))))), ((0 : Int), ())) | .inr o7 => some (((f31_p1_o1_r0_0 o7), ((f31_p1_o1_r0_1 o7), ((f31_p1_o1_r0_2 o7), (([] : List V), (([] : List (List UInt8)), ()))))), ((f31_p1_o1_x3 o7), ()))))) := by kernel_rfl
def f51_p0_y (x0 : List (List UInt8)) (x1 : List UInt8) (x7 : Int) (x8 : Int) : f51_p0_sh.den := ((x0, (x1, ((), ((), ((), ((), ((), (x7, (x8, ((), ((), ((), ((), ((), ((), ((), ((), ((), ((), ()))))))))))))))))))), (), ())
def f51_p0_o0_y : f51_p0_o0.den := (((), ((), ((), ((), ((), ((), ((), ((), ((), ((), ((), ((), ((), ((), ((), ((), ((), ((), ((), ()))))))))))))))))))), (), ())
def f51_p0_o1_y (x4 : Int) : f51_p0_o1.den := (((), ((), ((), ((), (x4, ((), ((), ((), ((), ((), ((), ((), ((), ((), ((), ((), ((), ((), ((), ()))))))))))))))))))), (), ())
def f51_p0_o1_x4 (z : f51_p0_o1.den) : Int := z.1.2.2.2.2.1
@[simp] theorem f51_p0_o1_x4_y (x4 : Int) : f51_p0_o1_x4 (f51_p0_o1_y x4) = x4 := id rfl
theorem f51_p0_eq (rec : f51_p0_sh.den → Option (OutDen f51_p0_outs)) (x0 : List (List UInt8)) (x1 : List UInt8) (x7 : Int) (x8 : Int) : f51_p0_st rec (f51_p0_y x0 x1 x7 x8) = (bif (decide (x8 < x7)) then ((nth x0 x8).bind fun y25 => bif (x1 == y25) then (some (.inr ((f51_p0_o1_y x8)))) else (rec (f51_p0_y x0 x1 x7 (IntKind.i64.wrap (x8 + (1 : Int)))))) else (some (.inl f51_p0_o0_y))) := by kernel_rfl
theorem f51_eq (a0 : List (List UInt8)) (a1 : List UInt8) : f51_F (a0, (a1, ())) = ((go f51_p0_st (f51_p0_y a0 a1 (a0.length : Int) (0 : Int))).bind fun o26 => (match o26 with | .inl z27 => some ((-1 : Int), ()) | .inr o28 => some ((f51_p0_o1_x4 o28), ()))) := by kernel_rfl
def f32_p0_y (x6 : Int) (r0_0 : Int) (r0_1 : Int) (r0_2 : List UInt8) (r0_3 : List V) (r0_4 : List (List UInt8)) (r1_0 : Int) (r1_1 : Int) (r1_2 : List UInt8) : f32_p0_sh.den := (((), ((), ((), ((), ((), ((), (x6, ((), ((), ((), ((), ((), ((), ((), ((), ((), ((), ((), ((), ((), ((), ((), ((), ((), ((), ((), ((), ((), ((), ((), ((), ((), ((), ()))))))))))))))))))))))))))))))))), ((r0_0, (r0_1, (r0_2, (r0_3, (r0_4, ()))))), ((r1_0, (r1_1, (r1_2, ((), ((), ()))))), ())), ())
def f32_p0_o0_y (x6 : Int) (x26 : Bool) (r0_0 : Int) (r0_1 : Int) (r0_2 : List UInt8) (r0_3 : List V) (r0_4 : List (List UInt8)) (r1_0 : Int) (r1_1 : Int) (r1_2 : List UInt8) : f32_p0_o0.den := (((), ((), ((), ((), ((), ((), (x6, ((), ((), ((), ((), ((), ((), ((), ((), ((), ((), ((), ((), ((), ((), ((), ((), ((), ((), ((), (x26, ((), ((), ((), ((), ((), ((), ()))))))))))))))))))))))))))))))))), ((r0_0, (r0_1, (r0_2, (r0_3, (r0_4, ()))))), ((r1_0, (r1_1, (r1_2, ((), ((), ()))))), ())), ())
def f32_p0_o0_x6 (z : f32_p0_o0.den) : Int := z.1.2.2.2.2.2.2.1
def f32_p0_o0_x26 (z : f32_p0_o0.den) : Bool := z.1.2.2.2.2.2.2.2.2.2.2.2.2.2.2.2.2.2.2.2.2.2.2.2.2.2.2.1
def f32_p0_o0_r0_3 (z : f32_p0_o0.den) : List V := z.2.1.1.2.2.2.1
@[simp] theorem f32_p0_o0_x6_y (x6 : Int) (x26 : Bool) (r0_0 : Int) (r0_1 : Int) (r0_2 : List UInt8) (r0_3 : List V) (r0_4 : List (List UInt8)) (r1_0 : Int) (r1_1 : Int) (r1_2 : List UInt8) : f32_p0_o0_x6 (f32_p0_o0_y x6 x26 r0_0 r0_1 r0_2 r0_3 r0_4 r1_0 r1_1 r1_2) = x6 := id rfl
@[simp] theorem f32_p0_o0_x26_y (x6 : Int) (x26 : Bool) (r0_0 : Int) (r0_1 : Int) (r0_2 : List UInt8) (r0_3 : List V) (r0_4 : List (List UInt8)) (r1_0 : Int) (r1_1 : Int) (r1_2 : List UInt8) : f32_p0_o0_x26 (f32_p0_o0_y x6 x26 r0_0 r0_1 r0_2 r0_3 r0_4 r1_0 r1_1 r1_2) = x26 := id rfl
@[simp] theorem f32_p0_o0_r0_3_y (x6 : Int) (x26 : Bool) (r0_0 : Int) (r0_1 : Int) (r0_2 : List UInt8) (r0_3 : List V) (r0_4 : List (List UInt8)) (r1_0 : Int) (r1_1 : Int) (r1_2 : List UInt8) : f32_p0_o0_r0_3 (f32_p0_o0_y x6 x26 r0_0 r0_1 r0_2 r0_3 r0_4 r1_0 r1_1 r1_2) = r0_3 := id rfl
theorem f32_p0_eq (x6 : Int) (r0_0 : Int) (r0_1 : Int) (r0_2 : List UInt8) (r0_3 : List V) (r0_4 : List (List UInt8)) (r1_0 : Int) (r1_1 : Int) (r1_2 : List UInt8) : f32_p0_F (f32_p0_y x6 r0_0 r0_1 r0_2 r0_3 r0_4 r1_0 r1_1 r1_2) = (bif (r0_0 != (4 : Int)) then (some ((f32_p0_o0_y x6 true r0_0 r0_1 r0_2 r0_3 r0_4 r1_0 r1_1 r1_2))) else (bif ((r0_4.length : Int) != (r0_3.length : Int)) then (some ((f32_p0_o0_y x6 true r0_0 r0_1 r0_2 r0_3 r0_4 r1_0 r1_1 r1_2))) else (some ((f32_p0_o0_y x6 (decide (x6 < (0 : Int))) r0_0 r0_1 r0_2 r0_3 r0_4 r1_0 r1_1 r1_2))))) := by kernel_rfl
theorem f32_eq (a0_0 : Int) (a0_1 : Int) (a0_2 : List UInt8) (a0_3 : List V) (a0_4 : List (List UInt8)) (a1 : List UInt8) : f32_F ((a0_0, (a0_1, (a0_2, (a0_3, (a0_4, ()))))), (a1, ())) = ((f51_F (a0_4, (a1, ()))).bind fun r29 => (f32_p0_F (f32_p0_y r29.1 a0_0 a0_1 a0_2 a0_3 a0_4 (0 : Int) (0 : Int) ([] : List UInt8))).bind fun o30 => bif (f32_p0_o0_x26 o30) then (some (((0 : Int), ((0 : Int), (([] : List UInt8), (([] : List V), (([] : List (List UInt8)), ()))))), (false, ()))) else ((nth (f32_p0_o0_r0_3 o30) (f32_p0_o0_x6 o30)).bind fun y31 => some ((y31.kind, (y31.n, (y31.s, (y31.items, (y31.keys, ()))))), (true, ())))) := by kernel_rfl
def f11_p0_y (x10 : Int) (x16 : Bool) (x75 : List ((List UInt8 × V))) (x76 : Int) (x77 : Int) (r0_0 : Int) (r0_1 : Int) (r0_2 : List UInt8) (r0_3 : List V) (r0_4 : List (List UInt8)) (r1_0 : Int) (r1_1 : Int) (r1_2 : List UInt8) (r1_3 : List V) (r1_4 : List (List UInt8)) (r2_0 : List UInt8) (r2_1 : Int) (r2_2 : Int) (r2_3 : List UInt8) (r2_4 : List V) (r2_5 : List (List UInt8)) (r3_0 : Int) (r3_1 : Int) (r3_2 : List UInt8) (r3_3 : List V) (r3_4 : List (List UInt8)) (l1 : List ((List UInt8 × V))) : f11_p0_sh.den := (((), ((), ((), ((), ((), ((), ((), ((), ((), ((), (x10, ((), ((), ((), ((), ((), (x16, ((), ((), ((), ((), ((), ((), ((), ((), ((), ((), ((), ((), ((), ((), ((), ((), ((), ((), ((), ((), ((), ((), ((), ((), ((), ((), ((), ((), ((), ((), ((), ((), ((), ((), ((), ((), ((), ((), ((), ((), ((), ((), ((), ((), ((), ((), ((), ((), ((), ((), ((), ((), ((), ((), ((), ((), ((), ((), (x75, (x76, (x77, ((), ((), ((), ((), ((), ((), ((), ((), ((), ((), ((), ((), ((), ((), ((), ((), ((), ((), ((), ((), ((), ((), ((), ((), ((), ((), ((), ((), ((), ((), ((), ((), ((), ((), ((), ((), ((), ((), ((), ((), ())))))))))))))))))))))))))))))))))))))))))))))))))))))))))))))))))))))))))))))))))))))))))))))))))))))))))))))))))))))), ((r0_0, (r0_1, (r0_2, (r0_3, (r0_4, ()))))), ((r1_0, (r1_1, (r1_2, (r1_3, (r1_4, ()))))), ((r2_0, (r2_1, (r2_2, (r2_3, (r2_4, (r2_5, ())))))), ((r3_0, (r3_1, (r3_2, (r3_3, (r3_4, ()))))), ())))), (l1, ()))
def f11_p0_o0_y (x10 : Int) (x75 : List ((List UInt8 × V))) (x76 : Int) (x77 : Int) (x109 : Bool) (r0_0 : Int) (r0_1 : Int) (r0_2 : List UInt8) (r0_3 : List V) (r0_4 : List (List UInt8)) (r1_0 : Int) (r1_1 : Int) (r1_2 : List UInt8) (r1_3 : List V) (r1_4 : List (List UInt8)) (l1 : List ((List UInt8 × V))) : f11_p0_o0.den := (((), ((), ((), ((), ((), ((), ((), ((), ((), ((), (x10, ((), ((), ((), ((), ((), ((), ((), ((), ((), ((), ((), ((), ((), ((), ((), ((), ((), ((), ((), ((), ((), ((), ((), ((), ((), ((), ((), ((), ((), ((), ((), ((), ((), ((), ((), ((), ((), ((), ((), ((), ((), ((), ((), ((), ((), ((), ((), ((), ((), ((), ((), ((), ((), ((), ((), ((), ((), ((), ((), ((), ((), ((), ((), ((), (x75, (x76, (x77, ((), ((), ((), ((), ((), ((), ((), ((), ((), ((), ((), ((), ((), ((), ((), ((), ((), ((), ((), ((), ((), ((), ((), ((), ((), ((), ((), ((), ((), ((), ((), (x109, ((), ((), ((), ((), ((), ((), ((), ((), ())))))))))))))))))))))))))))))))))))))))))))))))))))))))))))))))))))))))))))))))))))))))))))))))))))))))))))))))))))))), ((r0_0, (r0_1, (r0_2, (r0_3, (r0_4, ()))))), ((r1_0, (r1_1, (r1_2, (r1_3, (r1_4, ()))))), ())), (l1, ()))
def f11_p0_o0_x10 (z : f11_p0_o0.den) : Int := z.1.2.2.2.2.2.2.2.2.2.2.1
def f11_p0_o0_x75 (z : f11_p0_o0.den) : List ((List UInt8 × V)) := z.1.2.2.2.2.2.2.2.2.2.2.2.2.2.2.2.2.2.2.2.2.2.2.2.2.2.2.2.2.2.2.2.2.2.2.2.2.2.2.2.2.2.2.2.2.2.2.2.2.2.2.2.2.2.2.2.2.2.2.2.2.2.2.2.2.2.2.2.2.2.2.2.2.2.2.2.1
def f11_p0_o0_x76 (z : f11_p0_o0.den) : Int := z.1.2.2.2.2.2.2.2.2.2.2.2.2.2.2.2.2.2.2.2.2.2.2.2.2.2.2.2.2.2.2.2.2.2.2.2.2.2.2.2.2.2.2.2.2.2.2.2.2.2.2.2.2.2.2.2.2.2.2.2.2.2.2.2.2.2.2.2.2.2.2.2.2.2.2.2.2.1
def f11_p0_o0_x77 (z : f11_p0_o0.den) : Int := z.1.2.2.2.2.2.2.2.2.2.2.2.2.2.2.2.2.2.2.2.2.2.2.2.2.2.2.2.2.2.2.2.2.2.2.2.2.2.2.2.2.2.2.2.2.2.2.2.2.2.2.2.2.2.2.2.2.2.2.2.2.2.2.2.2.2.2.2.2.2.2.2.2.2.2.2.2.2.1
def f11_p0_o0_x109 (z : f11_p0_o0.den) : Bool := z.1.2.2.2.2.2.2.2.2.2.2.2.2.2.2.2.2.2.2.2.2.2.2.2.2.2.2.2.2.2.2.2.2.2.2.2.2.2.2.2.2.2.2.2.2.2.2.2.2.2.2.2.2.2.2.2.2.2.2.2.2.2.2.2.2.2.2.2.2.2.2.2.2.2.2.2.2.2.2.2.2.2.2.2.2.2.2.2.2.2.2.2.2.2.2.2.2.2.2.2.2.2.2.2.2.2.2.2.2.2.1
def f11_p0_o0_r0_0 (z : f11_p0_o0.den) : Int := z.2.1.1.1
def f11_p0_o0_r0_1 (z : f11_p0_o0.den) : Int := z.2.1.1.2.1
def f11_p0_o0_r0_2 (z : f11_p0_o0.den) : List UInt8 := z.2.1.1.2.2.1
def f11_p0_o0_r0_3 (z : f11_p0_o0.den) : List V := z.2.1.1.2.2.2.1
def f11_p0_o0_r0_4 (z : f11_p0_o0.den) : List (List UInt8) := z.2.1.1.2.2.2.2.1
def f11_p0_o0_r1_0 (z : f11_p0_o0.den) : Int := z.2.1.2.1.1
def f11_p0_o0_r1_1 (z : f11_p0_o0.den) : Int := z.2.1.2.1.2.1
def f11_p0_o0_r1_2 (z : f11_p0_o0.den) : List UInt8 := z.2.1.2.1.2.2.1
def f11_p0_o0_r1_3 (z : f11_p0_o0.den) : List V := z.2.1.2.1.2.2.2.1
def f11_p0_o0_r1_4 (z : f11_p0_o0.den) : List (List UInt8) := z.2.1.2.1.2.2.2.2.1
def f11_p0_o0_l1 (z : f11_p0_o0.den) : List ((List UInt8 × V)) := z.2.2.1
@[simp] theorem f11_p0_o0_x10_y (x10 : Int) (x75 : List ((List UInt8 × V))) (x76 : Int) (x77 : Int) (x109 : Bool) (r0_0 : Int) (r0_1 : Int) (r0_2 : List UInt8) (r0_3 : List V) (r0_4 : List (List UInt8)) (r1_0 : Int) (r1_1 : Int) (r1_2 : List UInt8) (r1_3 : List V) (r1_4 : List (List UInt8)) (l1 : List ((List UInt8 × V))) : f11_p0_o0_x10 (f11_p0_o0_y x10 x75 x76 x77 x109 r0_0 r0_1 r0_2 r0_3 r0_4 r1_0 r1_1 r1_2 r1_3 r1_4 l1) = x10 := id rfl
@[simp] theorem f11_p0_o0_x75_y (x10 : Int) (x75 : List ((List UInt8 × V))) (x76 : Int) (x77 : Int) (x109 : Bool) (r0_0 : Int) (r0_1 : Int) (r0_2 : List UInt8) (r0_3 : List V) (r0_4 : List (List UInt8)) (r1_0 : Int) (r1_1 : Int) (r1_2 : List UInt8) (r1_3 : List V) (r1_4 : List (List UInt8)) (l1 : List ((List UInt8 × V))) : f11_p0_o0_x75 (f11_p0_o0_y x10 x75 x76 x77 x109 r0_0 r0_1 r0_2 r0_3 r0_4 r1_0 r1_1 r1_2 r1_3 r1_4 l1) = x75 := id rfl
@[simp] theorem f11_p0_o0_x76_y (x10 : Int) (x75 : List ((List UInt8 × V))) (x76 : Int) (x77 : Int) (x109 : Bool) (r0_0 : Int) (r0_1 : Int) (r0_2 : List UInt8) (r0_3 : List V) (r0_4 : List (List UInt8)) (r1_0 : Int) (r1_1 : Int) (r1_2 : List UInt8) (r1_3 : List V) (r1_4 : List (List UInt8)) (l1 : List ((List UInt8 × V))) : f11_p0_o0_x76 (f11_p0_o0_y x10 x75 x76 x77 x109 r0_0 r0_1 r0_2 r0_3 r0_4 r1_0 r1_1 r1_2 r1_3 r1_4 l1) = x76 := id rfl
@[simp] theorem f11_p0_o0_x77_y (x10 : Int) (x75 : List ((List UInt8 × V))) (x76 : Int) (x77 : Int) (x109 : Bool) (r0_0 : Int) (r0_1 : Int) (r0_2 : List UInt8) (r0_3 : List V) (r0_4 : List (List UInt8)) (r1_0 : Int) (r1_1 : Int) (r1_2 : List UInt8) (r1_3 : List V) (r1_4 : List (List UInt8)) (l1 : List ((List UInt8 × V))) : f11_p0_o0_x77 (f11_p0_o0_y x10 x75 x76 x77 x109 r0_0 r0_1 r0_2 r0_3 r0_4 r1_0 r1_1 r1_2 r1_3 r1_4 l1) = x77 := id rfl
@[simp] theorem f11_p0_o0_x109_y (x10 : Int) (x75 : List ((List UInt8 × V))) (x76 : Int) (x77 : Int) (x109 : Bool) (r0_0 : Int) (r0_1 : Int) (r0_2 : List UInt8) (r0_3 : List V) (r0_4 : List (List UInt8)) (r1_0 : Int) (r1_1 : Int) (r1_2 : List UInt8) (r1_3 : List V) (r1_4 : List (List UInt8)) (l1 : List ((List UInt8 × V))) : f11_p0_o0_x109 (f11_p0_o0_y x10 x75 x76 x77 x109 r0_0 r0_1 r0_2 r0_3 r0_4 r1_0 r1_1 r1_2 r1_3 r1_4 l1) = x109 := id rfl
@[simp] theorem f11_p0_o0_r0_0_y (x10 : Int) (x75 : List ((List UInt8 × V))) (x76 : Int) (x77 : Int) (x109 : Bool) (r0_0 : Int) (r0_1 : Int) (r0_2 : List UInt8) (r0_3 : List V) (r0_4 : List (List UInt8)) (r1_0 : Int) (r1_1 : Int) (r1_2 : List UInt8) (r1_3 : List V) (r1_4 : List (List UInt8)) (l1 : List ((List UInt8 × V))) : f11_p0_o0_r0_0 (f11_p0_o0_y x10 x75 x76 x77 x109 r0_0 r0_1 r0_2 r0_3 r0_4 r1_0 r1_1 r1_2 r1_3 r1_4 l1) = r0_0 := id rfl
@[simp] theorem f11_p0_o0_r0_1_y (x10 : Int) (x75 : List ((List UInt8 × V))) (x76 : Int) (x77 : Int) (x109 : Bool) (r0_0 : Int) (r0_1 : Int) (r0_2 : List UInt8) (r0_3 : List V) (r0_4 : List (List UInt8)) (r1_0 : Int) (r1_1 : Int) (r1_2 : List UInt8) (r1_3 : List V) (r1_4 : List (List UInt8)) (l1 : List ((List UInt8 × V))) : f11_p0_o0_r0_1 (f11_p0_o0_y x10 x75 x76 x77 x109 r0_0 r0_1 r0_2 r0_3 r0_4 r1_0 r1_1 r1_2 r1_3 r1_4 l1) = r0_1 := id rfl
@[simp] theorem f11_p0_o0_r0_2_y (x10 : Int) (x75 : List ((List UInt8 × V))) (x76 : Int) (x77 : Int) (x109 : Bool) (r0_0 : Int) (r0_1 : Int) (r0_2 : List UInt8) (r0_3 : List V) (r0_4 : List (List UInt8)) (r1_0 : Int) (r1_1 : Int) (r1_2 : List UInt8) (r1_3 : List V) (r1_4 : List (List UInt8)) (l1 : List ((List UInt8 × V))) : f11_p0_o0_r0_2 (f11_p0_o0_y x10 x75 x76 x77 x109 r0_0 r0_1 r0_2 r0_3 r0_4 r1_0 r1_1 r1_2 r1_3 r1_4 l1) = r0_2 := id rfl
@[simp] theorem f11_p0_o0_r0_3_y (x10 : Int) (x75 : List ((List UInt8 × V))) (x76 : Int) (x77 : Int) (x109 : Bool) (r0_0 : Int) (r0_1 : Int) (r0_2 : List UInt8) (r0_3 : List V) (r0_4 : List (List UInt8)) (r1_0 : Int) (r1_1 : Int) (r1_2 : List UInt8) (r1_3 : List V) (r1_4 : List (List UInt8)) (l1 : List ((List UInt8 × V))) : f11_p0_o0_r0_3 (f11_p0_o0_y x10 x75 x76 x77 x109 r0_0 r0_1 r0_2 r0_3 r0_4 r1_0 r1_1 r1_2 r1_3 r1_4 l1) = r0_3 := id rfl
@[simp] theorem f11_p0_o0_r0_4_y (x10 : Int) (x75 : List ((List UInt8 × V))) (x76 : Int) (x77 : Int) (x109 : Bool) (r0_0 : Int) (r0_1 : Int) (r0_2 : List UInt8) (r0_3 : List V) (r0_4 : List (List UInt8)) (r1_0 : Int) (r1_1 : Int) (r1_2 : List UInt8) (r1_3 : List V) (r1_4 : List (List UInt8)) (l1 : List ((List UInt8 × V))) : f11_p0_o0_r0_4 (f11_p0_o0_y x10 x75 x76 x77 x109 r0_0 r0_1 r0_2 r0_3 r0_4 r1_0 r1_1 r1_2 r1_3 r1_4 l1) = r0_4 := id rfl
@[simp] theorem f11_p0_o0_r1_0_y (x10 : Int) (x75 : List ((List UInt8 × V))) (x76 : Int) (x77 : Int) (x109 : Bool) (r0_0 : Int) (r0_1 : Int) (r0_2 : List UInt8) (r0_3 : List V) (r0_4 : List (List UInt8)) (r1_0 : Int) (r1_1 : Int) (r1_2 : List UInt8) (r1_3 : List V) (r1_4 : List (List UInt8)) (l1 : List ((List UInt8 × V))) : f11_p0_o0_r1_0 (f11_p0_o0_y x10 x75 x76 x77 x109 r0_0 r0_1 r0_2 r0_3 r0_4 r1_0 r1_1 r1_2 r1_3 r1_4 l1) = r1_0 := id rfl
@[simp] theorem f11_p0_o0_r1_1_y (x10 : Int) (x75 : List ((List UInt8 × V))) (x76 : Int) (x77 : Int) (x109 : Bool) (r0_0 : Int) (r0_1 : Int) (r0_2 : List UInt8) (r0_3 : List V) (r0_4 : List (List UInt8)) (r1_0 : Int) (r1_1 : Int) (r1_2 : List UInt8) (r1_3 : List V) (r1_4 : List (List UInt8)) (l1 : List ((List UInt8 × V))) : f11_p0_o0_r1_1 (f11_p0_o0_y x10 x75 x76 x77 x109 r0_0 r0_1 r0_2 r0_3 r0_4 r1_0 r1_1 r1_2 r1_3 r1_4 l1) = r1_1 := id rfl
@[simp] theorem f11_p0_o0_r1_2_y (x10 : Int) (x75 : List ((List UInt8 × V))) (x76 : Int) (x77 : Int) (x109 : Bool) (r0_0 : Int) (r0_1 : Int) (r0_2 : List UInt8) (r0_3 : List V) (r0_4 : List (List UInt8)) (r1_0 : Int) (r1_1 : Int) (r1_2 : List UInt8) (r1_3 : List V) (r1_4 : List (List UInt8)) (l1 : List ((List UInt8 × V))) : f11_p0_o0_r1_2 (f11_p0_o0_y x10 x75 x76 x77 x109 r0_0 r0_1 r0_2 r0_3 r0_4 r1_0 r1_1 r1_2 r1_3 r1_4 l1) = r1_2 := id rfl
@[simp] theorem f11_p0_o0_r1_3_y (x10 : Int) (x75 : List ((List UInt8 × V))) (x76 : Int) (x77 : Int) (x109 : Bool) (r0_0 : Int) (r0_1 : Int) (r0_2 : List UInt8) (r0_3 : List V) (r0_4 : List (List UInt8)) (r1_0 : Int) (r1_1 : Int) (r1_2 : List UInt8) (r1_3 : List V) (r1_4 : List (List UInt8)) (l1 : List ((List UInt8 × V))) : f11_p0_o0_r1_3 (f11_p0_o0_y x10 x75 x76 x77 x109 r0_0 r0_1 r0_2 r0_3 r0_4 r1_0 r1_1 r1_2 r1_3 r1_4 l1) = r1_3 := id rfl
@[simp] theorem f11_p0_o0_r1_4_y (x10 : Int) (x75 : List ((List UInt8 × V))) (x76 : Int) (x77 : Int) (x109 : Bool) (r0_0 : Int) (r0_1 : Int) (r0_2 : List UInt8) (r0_3 : List V) (r0_4 : List (List UInt8)) (r1_0 : Int) (r1_1 : Int) (r1_2 : List UInt8) (r1_3 : List V) (r1_4 : List (List UInt8)) (l1 : List ((List UInt8 × V))) : f11_p0_o0_r1_4 (f11_p0_o0_y x10 x75 x76 x77 x109 r0_0 r0_1 r0_2 r0_3 r0_4 r1_0 r1_1 r1_2 r1_3 r1_4 l1) = r1_4 := id rfl
@[simp] theorem f11_p0_o0_l1_y (x10 : Int) (x75 : List ((List UInt8 × V))) (x76 : Int) (x77 : Int) (x109 : Bool) (r0_0 : Int) (r0_1 : Int) (r0_2 : List UInt8) (r0_3 : List V) (r0_4 : List (List UInt8)) (r1_0 : Int) (r1_1 : Int) (r1_2 : List UInt8) (r1_3 : List V) (r1_4 : List (List UInt8)) (l1 : List ((List UInt8 × V))) : f11_p0_o0_l1 (f11_p0_o0_y x10 x75 x76 x77 x109 r0_0 r0_1 r0_2 r0_3 r0_4 r1_0 r1_1 r1_2 r1_3 r1_4 l1) = l1 := id rfl
theorem f11_p0_eq (x10 : Int) (x16 : Bool) (x75 : List ((List UInt8 × V))) (x76 : Int) (x77 : Int) (r0_0 : Int) (r0_1 : Int) (r0_2 : List UInt8) (r0_3 : List V) (r0_4 : List (List UInt8)) (r1_0 : Int) (r1_1 : Int) (r1_2 : List UInt8) (r1_3 : List V) (r1_4 : List (List UInt8)) (r2_0 : List UInt8) (r2_1 : Int) (r2_2 : Int) (r2_3 : List UInt8) (r2_4 : List V) (r2_5 : List (List UInt8)) (r3_0 : Int) (r3_1 : Int) (r3_2 : List UInt8) (r3_3 : List V) (r3_4 : List (List UInt8)) (l1 : List ((List UInt8 × V))) : f11_p0_F (f11_p0_y x10 x16 x75 x76 x77 r0_0 r0_1 r0_2 r0_3 r0_4 r1_0 r1_1 r1_2 r1_3 r1_4 r2_0 r2_1 r2_2 r2_3 r2_4 r2_5 r3_0 r3_1 r3_2 r3_3 r3_4 l1) = (bif (x10 == (0 : Int)) then (bif (!x16) then (some ((f11_p0_o0_y x10 x75 x76 x77 true r0_0 r0_1 r0_2 r0_3 r0_4 r1_0 r1_1 r1_2 r1_3 r1_4 l1))) else ((f24_F ((r3_0, (r3_1, (r3_2, (r3_3, (r3_4, ()))))), ((r2_1, (r2_2, (r2_3, (r2_4, (r2_5, ()))))), ()))).bind fun r78 => some ((f11_p0_o0_y x10 x75 x76 x77 (!r78.1) r0_0 r0_1 r0_2 r0_3 r0_4 r1_0 r1_1 r1_2 r1_3 r1_4 l1)))) else (some ((f11_p0_o0_y x10 x75 x76 x77 false r0_0 r0_1 r0_2 r0_3 r0_4 r1_0 r1_1 r1_2 r1_3 r1_4 l1)))) := by kernel_rfl
def f11_p1_y (x10 : Int) (x75 : List ((List UInt8 × V))) (x76 : Int) (x77 : Int) (r0_0 : Int) (r0_1 : Int) (r0_2 : List UInt8) (r0_3 : List V) (r0_4 : List (List UInt8)) (r1_0 : Int) (r1_1 : Int) (r1_2 : List UInt8) (r1_3 : List V) (r1_4 : List (List UInt8)) (l1 : List ((List UInt8 × V))) : f11_p1_sh.den := (((), ((), ((), ((), ((), ((), ((), ((), ((), ((), (x10, ((), ((), ((), ((), ((), ((), ((), ((), ((), ((), ((), ((), ((), ((), ((), ((), ((), ((), ((), ((), ((), ((), ((), ((), ((), ((), ((), ((), ((), ((), ((), ((), ((), ((), ((), ((), ((), ((), ((), ((), ((), ((), ((), ((), ((), ((), ((), ((), ((), ((), ((), ((), ((), ((), ((), ((), ((), ((), ((), ((), ((), ((), ((), ((), (x75, (x76, (x77, ((), ((), ((), ((), ((), ((), ((), ((), ((), ((), ((), ((), ((), ((), ((), ((), ((), ((), ((), ((), ((), ((), ((), ((), ((), ((), ((), ((), ((), ((), ((), ((), ((), ((), ((), ((), ((), ((), ((), ((), ())))))))))))))))))))))))))))))))))))))))))))))))))))))))))))))))))))))))))))))))))))))))))))))))))))))))))))))))))))))), ((r0_0, (r0_1, (r0_2, (r0_3, (r0_4, ()))))), ((r1_0, (r1_1, (r1_2, (r1_3, (r1_4, ()))))), ())), (l1, ()))
def f11_p1_o0_y (x10 : Int) (r0_0 : Int) (r0_1 : Int) (r0_2 : List UInt8) (r0_3 : List V) (r0_4 : List (List UInt8)) (r1_0 : Int) (r1_1 : Int) (r1_2 : List UInt8) (r1_3 : List V) (r1_4 : List (List UInt8)) : f11_p1_o0.den := (((), ((), ((), ((), ((), ((), ((), ((), ((), ((), (x10, ((), ((), ((), ((), ((), ((), ((), ((), ((), ((), ((), ((), ((), ((), ((), ((), ((), ((), ((), ((), ((), ((), ((), ((), ((), ((), ((), ((), ((), ((), ((), ((), ((), ((), ((), ((), ((), ((), ((), ((), ((), ((), ((), ((), ((), ((), ((), ((), ((), ((), ((), ((), ((), ((), ((), ((), ((), ((), ((), ((), ((), ((), ((), ((), ((), ((), ((), ((), ((), ((), ((), ((), ((), ((), ((), ((), ((), ((), ((), ((), ((), ((), ((), ((), ((), ((), ((), ((), ((), ((), ((), ((), ((), ((), ((), ((), ((), ((), ((), ((), ((), ((), ((), ((), ((), ((), ((), ())))))))))))))))))))))))))))))))))))))))))))))))))))))))))))))))))))))))))))))))))))))))))))))))))))))))))))))))))))))), ((r0_0, (r0_1, (r0_2, (r0_3, (r0_4, ()))))), ((r1_0, (r1_1, (r1_2, (r1_3, (r1_4, ()))))), ())), ())
def f11_p1_o0_x10 (z : f11_p1_o0.den) : Int := z.1.2.2.2.2.2.2.2.2.2.2.1
def f11_p1_o0_r0_0 (z : f11_p1_o0.den) : Int := z.2.1.1.1
def f11_p1_o0_r0_1 (z : f11_p1_o0.den) : Int := z.2.1.1.2.1
def f11_p1_o0_r0_2 (z : f11_p1_o0.den) : List UInt8 := z.2.1.1.2.2.1
def f11_p1_o0_r0_3 (z : f11_p1_o0.den) : List V := z.2.1.1.2.2.2.1
def f11_p1_o0_r0_4 (z : f11_p1_o0.den) : List (List UInt8) := z.2.1.1.2.2.2.2.1
def f11_p1_o0_r1_0 (z : f11_p1_o0.den) : Int := z.2.1.2.1.1
def f11_p1_o0_r1_1 (z : f11_p1_o0.den) : Int := z.2.1.2.1.2.1
def f11_p1_o0_r1_2 (z : f11_p1_o0.den) : List UInt8 := z.2.1.2.1.2.2.1
def f11_p1_o0_r1_3 (z : f11_p1_o0.den) : List V := z.2.1.2.1.2.2.2.1
def f11_p1_o0_r1_4 (z : f11_p1_o0.den) : List (List UInt8) := z.2.1.2.1.2.2.2.2.1
@[simp] theorem f11_p1_o0_x10_y (x10 : Int) (r0_0 : Int) (r0_1 : Int) (r0_2 : List UInt8) (r0_3 : List V) (r0_4 : List (List UInt8)) (r1_0 : Int) (r1_1 : Int) (r1_2 : List UInt8) (r1_3 : List V) (r1_4 : List (List UInt8)) : f11_p1_o0_x10 (f11_p1_o0_y x10 r0_0 r0_1 r0_2 r0_3 r0_4 r1_0 r1_1 r1_2 r1_3 r1_4) = x10 := id rfl
@[simp] theorem f11_p1_o0_r0_0_y (x10 : Int) (r0_0 : Int) (r0_1 : Int) (r0_2 : List UInt8) (r0_3 : List V) (r0_4 : List (List UInt8)) (r1_0 : Int) (r1_1 : Int) (r1_2 : List UInt8) (r1_3 : List V) (r1_4 : List (List UInt8)) : f11_p1_o0_r0_0 (f11_p1_o0_y x10 r0_0 r0_1 r0_2 r0_3 r0_4 r1_0 r1_1 r1_2 r1_3 r1_4) = r0_0 := id rfl
@[simp] theorem f11_p1_o0_r0_1_y (x10 : Int) (r0_0 : Int) (r0_1 : Int) (r0_2 : List UInt8) (r0_3 : List V) (r0_4 : List (List UInt8)) (r1_0 : Int) (r1_1 : Int) (r1_2 : List UInt8) (r1_3 : List V) (r1_4 : List (List UInt8)) : f11_p1_o0_r0_1 (f11_p1_o0_y x10 r0_0 r0_1 r0_2 r0_3 r0_4 r1_0 r1_1 r1_2 r1_3 r1_4) = r0_1 := id rfl
@[simp] theorem f11_p1_o0_r0_2_y (x10 : Int) (r0_0 : Int) (r0_1 : Int) (r0_2 : List UInt8) (r0_3 : List V) (r0_4 : List (List UInt8)) (r1_0 : Int) (r1_1 : Int) (r1_2 : List UInt8) (r1_3 : List V) (r1_4 : List (List UInt8)) : f11_p1_o0_r0_2 (f11_p1_o0_y x10 r0_0 r0_1 r0_2 r0_3 r0_4 r1_0 r1_1 r1_2 r1_3 r1_4) = r0_2 := id rfl
@[simp] theorem f11_p1_o0_r0_3_y (x10 : Int) (r0_0 : Int) (r0_1 : Int) (r0_2 : List UInt8) (r0_3 : List V) (r0_4 : List (List UInt8)) (r1_0 : Int) (r1_1 : Int) (r1_2 : List UInt8) (r1_3 : List V) (r1_4 : List (List UInt8)) : f11_p1_o0_r0_3 (f11_p1_o0_y x10 r0_0 r0_1 r0_2 r0_3 r0_4 r1_0 r1_1 r1_2 r1_3 r1_4) = r0_3 := id rfl
@[simp] theorem f11_p1_o0_r0_4_y (x10 : Int) (r0_0 : Int) (r0_1 : Int) (r0_2 : List UInt8) (r0_3 : List V) (r0_4 : List (List UInt8)) (r1_0 : Int) (r1_1 : Int) (r1_2 : List UInt8) (r1_3 : List V) (r1_4 : List (List UInt8)) : f11_p1_o0_r0_4 (f11_p1_o0_y x10 r0_0 r0_1 r0_2 r0_3 r0_4 r1_0 r1_1 r1_2 r1_3 r1_4) = r0_4 := id rfl
@[simp] theorem f11_p1_o0_r1_0_y (x10 : Int) (r0_0 : Int) (r0_1 : Int) (r0_2 : List UInt8) (r0_3 : List V) (r0_4 : List (List UInt8)) (r1_0 : Int) (r1_1 : Int) (r1_2 : List UInt8) (r1_3 : List V) (r1_4 : List (List UInt8)) : f11_p1_o0_r1_0 (f11_p1_o0_y x10 r0_0 r0_1 r0_2 r0_3 r0_4 r1_0 r1_1 r1_2 r1_3 r1_4) = r1_0 := id rfl
@[simp] theorem f11_p1_o0_r1_1_y (x10 : Int) (r0_0 : Int) (r0_1 : Int) (r0_2 : List UInt8) (r0_3 : List V) (r0_4 : List (List UInt8)) (r1_0 : Int) (r1_1 : Int) (r1_2 : List UInt8) (r1_3 : List V) (r1_4 : List (List UInt8)) : f11_p1_o0_r1_1 (f11_p1_o0_y x10 r0_0 r0_1 r0_2 r0_3 r0_4 r1_0 r1_1 r1_2 r1_3 r1_4) = r1_1 := id rfl
@[simp] theorem f11_p1_o0_r1_2_y (x10 : Int) (r0_0 : Int) (r0_1 : Int) (r0_2 : List UInt8) (r0_3 : List V) (r0_4 : List (List UInt8)) (r1_0 : Int) (r1_1 : Int) (r1_2 : List UInt8) (r1_3 : List V) (r1_4 : List (List UInt8)) : f11_p1_o0_r1_2 (f11_p1_o0_y x10 r0_0 r0_1 r0_2 r0_3 r0_4 r1_0 r1_1 r1_2 r1_3 r1_4) = r1_2 := id rfl
@[simp] theorem f11_p1_o0_r1_3_y (x10 : Int) (r0_0 : Int) (r0_1 : Int) (r0_2 : List UInt8) (r0_3 : List V) (r0_4 : List (List UInt8)) (r1_0 : Int) (r1_1 : Int) (r1_2 : List UInt8) (r1_3 : List V) (r1_4 : List (List UInt8)) : f11_p1_o0_r1_3 (f11_p1_o0_y x10 r0_0 r0_1 r0_2 r0_3 r0_4 r1_0 r1_1 r1_2 r1_3 r1_4) = r1_3 := id rfl
@[simp] theorem f11_p1_o0_r1_4_y (x10 : Int) (r0_0 : Int) (r0_1 : Int) (r0_2 : List UInt8) (r0_3 : List V) (r0_4 : List (List UInt8)) (r1_0 : Int) (r1_1 : Int) (r1_2 : List UInt8) (r1_3 : List V) (r1_4 : List (List UInt8)) : f11_p1_o0_r1_4 (f11_p1_o0_y x10 r0_0 r0_1 r0_2 r0_3 r0_4 r1_0 r1_1 r1_2 r1_3 r1_4) = r1_4 := id rfl
def f11_p1_o1_y (x4 : Bool) : f11_p1_o1.den := (((), ((), ((), ((), (x4, ((), ((), ((), ((), ((), ((), ((), ((), ((), ((), ((), ((), ((), ((), ((), ((), ((), ((), ((), ((), ((), ((), ((), ((), ((), ((), ((), ((), ((), ((), ((), ((), ((), ((), ((), ((), ((), ((), ((), ((), ((), ((), ((), ((), ((), ((), ((), ((), ((), ((), ((), ((), ((), ((), ((), ((), ((), ((), ((), ((), ((), ((), ((), ((), ((), ((), ((), ((), ((), ((), ((), ((), ((), ((), ((), ((), ((), ((), ((), ((), ((), ((), ((), ((), ((), ((), ((), ((), ((), ((), ((), ((), ((), ((), ((), ((), ((), ((), ((), ((), ((), ((), ((), ((), ((), ((), ((), ((), ((), ((), ((), ((), ((), ())))))))))))))))))))))))))))))))))))))))))))))))))))))))))))))))))))))))))))))))))))))))))))))))))))))))))))))))))))))), (), ())
def f11_p1_o1_x4 (z : f11_p1_o1.den) : Bool := z.1.2.2.2.2.1
@[simp] theorem f11_p1_o1_x4_y (x4 : Bool) : f11_p1_o1_x4 (f11_p1_o1_y x4) = x4 := id rfl
theorem f11_p1_eq (rec : f11_p1_sh.den → Option (OutDen f11_p1_outs)) (x10 : Int) (x75 : List ((List UInt8 × V))) (x76 : Int) (x77 : Int) (r0_0 : Int) (r0_1 : Int) (r0_2 : List UInt8) (r0_3 : List V) (r0_4 : List (List UInt8)) (r1_0 : Int) (r1_1 : Int) (r1_2 : List UInt8) (r1_3 : List V) (r1_4 : List (List UInt8)) (l1 : List ((List UInt8 × V))) : f11_p1_st rec (f11_p1_y x10 x75 x76 x77 r0_0 r0_1 r0_2 r0_3 r0_4 r1_0 r1_1 r1_2 r1_3 r1_4 l1) = (bif (decide (x77 < x76)) then ((nth x75 x77).bind fun y79 => within x77 l1.length ((l1[(Int.toNat x77)]?).bind fun e80 => bif (y79.1 != e80.1) then (some (.inr ((f11_p1_o1_y false)))) else ((f32_F ((r0_0, (r0_1, (r0_2, (r0_3, (r0_4, ()))))), (y79.1, ()))).bind fun r81 => (f11_p0_F (f11_p0_y x10 r81.2.1 x75 x76 x77 r0_0 r0_1 r0_2 r0_3 r0_4 r1_0 r1_1 r1_2 r1_3 r1_4 y79.1 y79.2.kind y79.2.n y79.2.s y79.2.items y79.2.keys r81.1.1 r81.1.2.1 r81.1.2.2.1 r81.1.2.2.2.1 r81.1.2.2.2.2.1 l1)).bind fun o82 => bif (f11_p0_o0_x109 o82) then (some (.inr ((f11_p1_o1_y false)))) else (rec (f11_p1_y (f11_p0_o0_x10 o82) (f11_p0_o0_x75 o82) (f11_p0_o0_x76 o82) (IntKind.i64.wrap ((f11_p0_o0_x77 o82) + (1 : Int))) (f11_p0_o0_r0_0 o82) (f11_p0_o0_r0_1 o82) (f11_p0_o0_r0_2 o82) (f11_p0_o0_r0_3 o82) (f11_p0_o0_r0_4 o82) (f11_p0_o0_r1_0 o82) (f11_p0_o0_r1_1 o82) (f11_p0_o0_r1_2 o82) (f11_p0_o0_r1_3 o82) (f11_p0_o0_r1_4 o82) (f11_p0_o0_l1 o82)))))) else (some (.inl (f11_p1_o0_y x10 r0_0 r0_1 r0_2 r0_3 r0_4 r1_0 r1_1 r1_2 r1_3 r1_4)))) := by kernel_rfl
def f11_p2_y (x0 : List ((List UInt8 × V))) (x10 : Int) (x12 : Int) (r0_0 : Int) (r0_1 : Int) (r0_2 : List UInt8) (r0_3 : List V) (r0_4 : List (List UInt8)) (r1_0 : Int) (r1_1 : Int) (r1_2 : List UInt8) (r1_3 : List V) (r1_4 : List (List UInt8)) (l1 : List ((List UInt8 × V))) : f11_p2_sh.den := ((x0, ((), ((), ((), ((), ((), ((), ((), ((), ((), (x10, ((), (x12, ((), ((), ((), ((), ((), ((), ((), ((), ((), ((), ((), ((), ((), ((), ((), ((), ((), ((), ((), ((), ((), ((), ((), ((), ((), ((), ((), ((), ((), ((), ((), ((), ((), ((), ((), ((), ((), ((), ((), ((), ((), ((), ((), ((), ((), ((), ((), ((), ((), ((), ((), ((), ((), ((), ((), ((), ((), ((), ((), ((), ((), ((), ((), ((), ((), ((), ((), ((), ((), ((), ((), ((), ((), ((), ((), ((), ((), ((), ((), ((), ((), ((), ((), ((), ((), ((), ((), ((), ((), ((), ((), ((), ((), ((), ((), ((), ((), ((), ((), ((), ((), ((), ((), ((), ((), ())))))))))))))))))))))))))))))))))))))))))))))))))))))))))))))))))))))))))))))))))))))))))))))))))))))))))))))))))))))), ((r0_0, (r0_1, (r0_2, (r0_3, (r0_4, ()))))), ((r1_0, (r1_1, (r1_2, (r1_3, (r1_4, ()))))), ())), (l1, ()))
def f11_p2_o0_y (x0 : List ((List UInt8 × V))) (x10 : Int) (x74 : Bool) (r0_0 : Int) (r0_1 : Int) (r0_2 : List UInt8) (r0_3 : List V) (r0_4 : List (List UInt8)) (r1_0 : Int) (r1_1 : Int) (r1_2 : List UInt8) (r1_3 : List V) (r1_4 : List (List UInt8)) (l1 : List ((List UInt8 × V))) : f11_p2_o0.den := ((x0, ((), ((), ((), ((), ((), ((), ((), ((), ((), (x10, ((), ((), ((), ((), ((), ((), ((), ((), ((), ((), ((), ((), ((), ((), ((), ((), ((), ((), ((), ((), ((), ((), ((), ((), ((), ((), ((), ((), ((), ((), ((), ((), ((), ((), ((), ((), ((), ((), ((), ((), ((), ((), ((), ((), ((), ((), ((), ((), ((), ((), ((), ((), ((), ((), ((), ((), ((), ((), ((), ((), ((), ((), ((), (x74, ((), ((), ((), ((), ((), ((), ((), ((), ((), ((), ((), ((), ((), ((), ((), ((), ((), ((), ((), ((), ((), ((), ((), ((), ((), ((), ((), ((), ((), ((), ((), ((), ((), ((), ((), ((), ((), ((), ((), ((), ((), ((), ((), ())))))))))))))))))))))))))))))))))))))))))))))))))))))))))))))))))))))))))))))))))))))))))))))))))))))))))))))))))))))), ((r0_0, (r0_1, (r0_2, (r0_3, (r0_4, ()))))), ((r1_0, (r1_1, (r1_2, (r1_3, (r1_4, ()))))), ())), (l1, ()))
def f11_p2_o0_x0 (z : f11_p2_o0.den) : List ((List UInt8 × V)) := z.1.1
def f11_p2_o0_x10 (z : f11_p2_o0.den) : Int := z.1.2.2.2.2.2.2.2.2.2.2.1
def f11_p2_o0_x74 (z : f11_p2_o0.den) : Bool := z.1.2.2.2.2.2.2.2.2.2.2.2.2.2.2.2.2.2.2.2.2.2.2.2.2.2.2.2.2.2.2.2.2.2.2.2.2.2.2.2.2.2.2.2.2.2.2.2.2.2.2.2.2.2.2.2.2.2.2.2.2.2.2.2.2.2.2.2.2.2.2.2.2.2.2.1
def f11_p2_o0_r0_0 (z : f11_p2_o0.den) : Int := z.2.1.1.1
def f11_p2_o0_r0_1 (z : f11_p2_o0.den) : Int := z.2.1.1.2.1
def f11_p2_o0_r0_2 (z : f11_p2_o0.den) : List UInt8 := z.2.1.1.2.2.1
def f11_p2_o0_r0_3 (z : f11_p2_o0.den) : List V := z.2.1.1.2.2.2.1
def f11_p2_o0_r0_4 (z : f11_p2_o0.den) : List (List UInt8) := z.2.1.1.2.2.2.2.1
def f11_p2_o0_r1_0 (z : f11_p2_o0.den) : Int := z.2.1.2.1.1
def f11_p2_o0_r1_1 (z : f11_p2_o0.den) : Int := z.2.1.2.1.2.1
def f11_p2_o0_r1_2 (z : f11_p2_o0.den) : List UInt8 := z.2.1.2.1.2.2.1
def f11_p2_o0_r1_3 (z : f11_p2_o0.den) : List V := z.2.1.2.1.2.2.2.1
def f11_p2_o0_r1_4 (z : f11_p2_o0.den) : List (List UInt8) := z.2.1.2.1.2.2.2.2.1
def f11_p2_o0_l1 (z : f11_p2_o0.den) : List ((List UInt8 × V)) := z.2.2.1
@[simp] theorem f11_p2_o0_x0_y (x0 : List ((List UInt8 × V))) (x10 : Int) (x74 : Bool) (r0_0 : Int) (r0_1 : Int) (r0_2 : List UInt8) (r0_3 : List V) (r0_4 : List (List UInt8)) (r1_0 : Int) (r1_1 : Int) (r1_2 : List UInt8) (r1_3 : List V) (r1_4 : List (List UInt8)) (l1 : List ((List UInt8 × V))) : f11_p2_o0_x0 (f11_p2_o0_y x0 x10 x74 r0_0 r0_1 r0_2 r0_3 r0_4 r1_0 r1_1 r1_2 r1_3 r1_4 l1) = x0 := id rfl
@[simp] theorem f11_p2_o0_x10_y (x0 : List ((List UInt8 × V))) (x10 : Int) (x74 : Bool) (r0_0 : Int) (r0_1 : Int) (r0_2 : List UInt8) (r0_3 : List V) (r0_4 : List (List UInt8)) (r1_0 : Int) (r1_1 : Int) (r1_2 : List UInt8) (r1_3 : List V) (r1_4 : List (List UInt8)) (l1 : List ((List UInt8 × V))) : f11_p2_o0_x10 (f11_p2_o0_y x0 x10 x74 r0_0 r0_1 r0_2 r0_3 r0_4 r1_0 r1_1 r1_2 r1_3 r1_4 l1) = x10 := id rfl
@[simp] theorem f11_p2_o0_x74_y (x0 : List ((List UInt8 × V))) (x10 : Int) (x74 : Bool) (r0_0 : Int) (r0_1 : Int) (r0_2 : List UInt8) (r0_3 : List V) (r0_4 : List (List UInt8)) (r1_0 : Int) (r1_1 : Int) (r1_2 : List UInt8) (r1_3 : List V) (r1_4 : List (List UInt8)) (l1 : List ((List UInt8 × V))) : f11_p2_o0_x74 (f11_p2_o0_y x0 x10 x74 r0_0 r0_1 r0_2 r0_3 r0_4 r1_0 r1_1 r1_2 r1_3 r1_4 l1) = x74 := id rfl
@[simp] theorem f11_p2_o0_r0_0_y (x0 : List ((List UInt8 × V))) (x10 : Int) (x74 : Bool) (r0_0 : Int) (r0_1 : Int) (r0_2 : List UInt8) (r0_3 : List V) (r0_4 : List (List UInt8)) (r1_0 : Int) (r1_1 : Int) (r1_2 : List UInt8) (r1_3 : List V) (r1_4 : List (List UInt8)) (l1 : List ((List UInt8 × V))) : f11_p2_o0_r0_0 (f11_p2_o0_y x0 x10 x74 r0_0 r0_1 r0_2 r0_3 r0_4 r1_0 r1_1 r1_2 r1_3 r1_4 l1) = r0_0 := id rfl
@[simp] theorem f11_p2_o0_r0_1_y (x0 : List ((List UInt8 × V))) (x10 : Int) (x74 : Bool) (r0_0 : Int) (r0_1 : Int) (r0_2 : List UInt8) (r0_3 : List V) (r0_4 : List (List UInt8)) (r1_0 : Int) (r1_1 : Int) (r1_2 : List UInt8) (r1_3 : List V) (r1_4 : List (List UInt8)) (l1 : List ((List UInt8 × V))) : f11_p2_o0_r0_1 (f11_p2_o0_y x0 x10 x74 r0_0 r0_1 r0_2 r0_3 r0_4 r1_0 r1_1 r1_2 r1_3 r1_4 l1) = r0_1 := id rfl
@[simp] theorem f11_p2_o0_r0_2_y (x0 : List ((List UInt8 × V))) (x10 : Int) (x74 : Bool) (r0_0 : Int) (r0_1 : Int) (r0_2 : List UInt8) (r0_3 : List V) (r0_4 : List (List UInt8)) (r1_0 : Int) (r1_1 : Int) (r1_2 : List UInt8) (r1_3 : List V) (r1_4 : List (List UInt8)) (l1 : List ((List UInt8 × V))) : f11_p2_o0_r0_2 (f11_p2_o0_y x0 x10 x74 r0_0 r0_1 r0_2 r0_3 r0_4 r1_0 r1_1 r1_2 r1_3 r1_4 l1) = r0_2 := id rfl
@[simp] theorem f11_p2_o0_r0_3_y (x0 : List ((List UInt8 × V))) (x10 : Int) (x74 : Bool) (r0_0 : Int) (r0_1 : Int) (r0_2 : List UInt8) (r0_3 : List V) (r0_4 : List (List UInt8)) (r1_0 : Int) (r1_1 : Int) (r1_2 : List UInt8) (r1_3 : List V) (r1_4 : List (List UInt8)) (l1 : List ((List UInt8 × V))) : f11_p2_o0_r0_3 (f11_p2_o0_y x0 x10 x74 r0_0 r0_1 r0_2 r0_3 r0_4 r1_0 r1_1 r1_2 r1_3 r1_4 l1) = r0_3 := id rfl
@[simp] theorem f11_p2_o0_r0_4_y (x0 : List ((List UInt8 × V))) (x10 : Int) (x74 : Bool) (r0_0 : Int) (r0_1 : Int) (r0_2 : List UInt8) (r0_3 : List V) (r0_4 : List (List UInt8)) (r1_0 : Int) (r1_1 : Int) (r1_2 : List UInt8) (r1_3 : List V) (r1_4 : List (List UInt8)) (l1 : List ((List UInt8 × V))) : f11_p2_o0_r0_4 (f11_p2_o0_y x0 x10 x74 r0_0 r0_1 r0_2 r0_3 r0_4 r1_0 r1_1 r1_2 r1_3 r1_4 l1) = r0_4 := id rfl
@[simp] theorem f11_p2_o0_r1_0_y (x0 : List ((List UInt8 × V))) (x10 : Int) (x74 : Bool) (r0_0 : Int) (r0_1 : Int) (r0_2 : List UInt8) (r0_3 : List V) (r0_4 : List (List UInt8)) (r1_0 : Int) (r1_1 : Int) (r1_2 : List UInt8) (r1_3 : List V) (r1_4 : List (List UInt8)) (l1 : List ((List UInt8 × V))) : f11_p2_o0_r1_0 (f11_p2_o0_y x0 x10 x74 r0_0 r0_1 r0_2 r0_3 r0_4 r1_0 r1_1 r1_2 r1_3 r1_4 l1) = r1_0 := id rfl
@[simp] theorem f11_p2_o0_r1_1_y (x0 : List ((List UInt8 × V))) (x10 : Int) (x74 : Bool) (r0_0 : Int) (r0_1 : Int) (r0_2 : List UInt8) (r0_3 : List V) (r0_4 : List (List UInt8)) (r1_0 : Int) (r1_1 : Int) (r1_2 : List UInt8) (r1_3 : List V) (r1_4 : List (List UInt8)) (l1 : List ((List UInt8 × V))) : f11_p2_o0_r1_1 (f11_p2_o0_y x0 x10 x74 r0_0 r0_1 r0_2 r0_3 r0_4 r1_0 r1_1 r1_2 r1_3 r1_4 l1) = r1_1 := id rfl
@[simp] theorem f11_p2_o0_r1_2_y (x0 : List ((List UInt8 × V))) (x10 : Int) (x74 : Bool) (r0_0 : Int) (r0_1 : Int) (r0_2 : List UInt8) (r0_3 : List V) (r0_4 : List (List UInt8)) (r1_0 : Int) (r1_1 : Int) (r1_2 : List UInt8) (r1_3 : List V) (r1_4 : List (List UInt8)) (l1 : List ((List UInt8 × V))) : f11_p2_o0_r1_2 (f11_p2_o0_y x0 x10 x74 r0_0 r0_1 r0_2 r0_3 r0_4 r1_0 r1_1 r1_2 r1_3 r1_4 l1) = r1_2 := id rfl
@[simp] theorem f11_p2_o0_r1_3_y (x0 : List ((List UInt8 × V))) (x10 : Int) (x74 : Bool) (r0_0 : Int) (r0_1 : Int) (r0_2 : List UInt8) (r0_3 : List V) (r0_4 : List (List UInt8)) (r1_0 : Int) (r1_1 : Int) (r1_2 : List UInt8) (r1_3 : List V) (r1_4 : List (List UInt8)) (l1 : List ((List UInt8 × V))) : f11_p2_o0_r1_3 (f11_p2_o0_y x0 x10 x74 r0_0 r0_1 r0_2 r0_3 r0_4 r1_0 r1_1 r1_2 r1_3 r1_4 l1) = r1_3 := id rfl
@[simp] theorem f11_p2_o0_r1_4_y (x0 : List ((List UInt8 × V))) (x10 : Int) (x74 : Bool) (r0_0 : Int) (r0_1 : Int) (r0_2 : List UInt8) (r0_3 : List V) (r0_4 : List (List UInt8)) (r1_0 : Int) (r1_1 : Int) (r1_2 : List UInt8) (r1_3 : List V) (r1_4 : List (List UInt8)) (l1 : List ((List UInt8 × V))) : f11_p2_o0_r1_4 (f11_p2_o0_y x0 x10 x74 r0_0 r0_1 r0_2 r0_3 r0_4 r1_0 r1_1 r1_2 r1_3 r1_4 l1) = r1_4 := id rfl
@[simp] theorem f11_p2_o0_l1_y (x0 : List ((List UInt8 × V))) (x10 : Int) (x74 : Bool) (r0_0 : Int) (r0_1 : Int) (r0_2 : List UInt8) (r0_3 : List V) (r0_4 : List (List UInt8)) (r1_0 : Int) (r1_1 : Int) (r1_2 : List UInt8) (r1_3 : List V) (r1_4 : List (List UInt8)) (l1 : List ((List UInt8 × V))) : f11_p2_o0_l1 (f11_p2_o0_y x0 x10 x74 r0_0 r0_1 r0_2 r0_3 r0_4 r1_0 r1_1 r1_2 r1_3 r1_4 l1) = l1 := id rfl
theorem f11_p2_eq (x0 : List ((List UInt8 × V))) (x10 : Int) (x12 : Int) (r0_0 : Int) (r0_1 : Int) (r0_2 : List UInt8) (r0_3 : List V) (r0_4 : List (List UInt8)) (r1_0 : Int) (r1_1 : Int) (r1_2 : List UInt8) (r1_3 : List V) (r1_4 : List (List UInt8)) (l1 : List ((List UInt8 × V))) : f11_p2_F (f11_p2_y x0 x10 x12 r0_0 r0_1 r0_2 r0_3 r0_4 r1_0 r1_1 r1_2 r1_3 r1_4 l1) = (bif (x10 != x12) then (some ((f11_p2_o0_y x0 x10 true r0_0 r0_1 r0_2 r0_3 r0_4 r1_0 r1_1 r1_2 r1_3 r1_4 l1))) else ((f13_F ()).bind fun r83 => some ((f11_p2_o0_y x0 x10 (!r83.1) r0_0 r0_1 r0_2 r0_3 r0_4 r1_0 r1_1 r1_2 r1_3 r1_4 l1)))) := by kernel_rfl
def f11_p3_y (x0 : List ((List UInt8 × V))) (x10 : Int) (x12 : Int) (r0_0 : Int) (r0_1 : Int) (r0_2 : List UInt8) (r0_3 : List V) (r0_4 : List (List UInt8)) (r1_0 : Int) (r1_1 : Int) (r1_2 : List UInt8) (r1_3 : List V) (r1_4 : List (List UInt8)) (l1 : List ((List UInt8 × V))) : f11_p3_sh.den := ((x0, ((), ((), ((), ((), ((), ((), ((), ((), ((), (x10, ((), (x12, ((), ((), ((), ((), ((), ((), ((), ((), ((), ((), ((), ((), ((), ((), ((), ((), ((), ((), ((), ((), ((), ((), ((), ((), ((), ((), ((), ((), ((), ((), ((), ((), ((), ((), ((), ((), ((), ((), ((), ((), ((), ((), ((), ((), ((), ((), ((), ((), ((), ((), ((), ((), ((), ((), ((), ((), ((), ((), ((), ((), ((), ((), ((), ((), ((), ((), ((), ((), ((), ((), ((), ((), ((), ((), ((), ((), ((), ((), ((), ((), ((), ((), ((), ((), ((), ((), ((), ((), ((), ((), ((), ((), ((), ((), ((), ((), ((), ((), ((), ((), ((), ((), ((), ((), ((), ())))))))))))))))))))))))))))))))))))))))))))))))))))))))))))))))))))))))))))))))))))))))))))))))))))))))))))))))))))))), ((r0_0, (r0_1, (r0_2, (r0_3, (r0_4, ()))))), ((r1_0, (r1_1, (r1_2, (r1_3, (r1_4, ()))))), ())), (l1, ()))
def f11_p3_o0_y (x4 : Bool) : f11_p3_o0.den := (((), ((), ((), ((), (x4, ((), ((), ((), ((), ((), ((), ((), ((), ((), ((), ((), ((), ((), ((), ((), ((), ((), ((), ((), ((), ((), ((), ((), ((), ((), ((), ((), ((), ((), ((), ((), ((), ((), ((), ((), ((), ((), ((), ((), ((), ((), ((), ((), ((), ((), ((), ((), ((), ((), ((), ((), ((), ((), ((), ((), ((), ((), ((), ((), ((), ((), ((), ((), ((), ((), ((), ((), ((), ((), ((), ((), ((), ((), ((), ((), ((), ((), ((), ((), ((), ((), ((), ((), ((), ((), ((), ((), ((), ((), ((), ((), ((), ((), ((), ((), ((), ((), ((), ((), ((), ((), ((), ((), ((), ((), ((), ((), ((), ((), ((), ((), ((), ((), ())))))))))))))))))))))))))))))))))))))))))))))))))))))))))))))))))))))))))))))))))))))))))))))))))))))))))))))))))))))), (), ())
def f11_p3_o0_x4 (z : f11_p3_o0.den) : Bool := z.1.2.2.2.2.1
@[simp] theorem f11_p3_o0_x4_y (x4 : Bool) : f11_p3_o0_x4 (f11_p3_o0_y x4) = x4 := id rfl
theorem f11_p3_eq (x0 : List ((List UInt8 × V))) (x10 : Int) (x12 : Int) (r0_0 : Int) (r0_1 : Int) (r0_2 : List UInt8) (r0_3 : List V) (r0_4 : List (List UInt8)) (r1_0 : Int) (r1_1 : Int) (r1_2 : List UInt8) (r1_3 : List V) (r1_4 : List (List UInt8)) (l1 : List ((List UInt8 × V))) : f11_p3_F (f11_p3_y x0 x10 x12 r0_0 r0_1 r0_2 r0_3 r0_4 r1_0 r1_1 r1_2 r1_3 r1_4 l1) = ((f11_p2_F (f11_p2_y x0 x10 x12 r0_0 r0_1 r0_2 r0_3 r0_4 r1_0 r1_1 r1_2 r1_3 r1_4 l1)).bind fun o84 => bif (f11_p2_o0_x74 o84) then (some ((f11_p3_o0_y false))) else ((go f11_p1_st (f11_p1_y (f11_p2_o0_x10 o84) (f11_p2_o0_x0 o84) ((f11_p2_o0_x0 o84).length : Int) (0 : Int) (f11_p2_o0_r0_0 o84) (f11_p2_o0_r0_1 o84) (f11_p2_o0_r0_2 o84) (f11_p2_o0_r0_3 o84) (f11_p2_o0_r0_4 o84) (f11_p2_o0_r1_0 o84) (f11_p2_o0_r1_1 o84) (f11_p2_o0_r1_2 o84) (f11_p2_o0_r1_3 o84) (f11_p2_o0_r1_4 o84) (f11_p2_o0_l1 o84))).bind fun o85 => (match o85 with | .inl z86 => bif ((f11_p1_o0_x10 z86) != (0 : Int)) then (some ((f11_p3_o0_y true))) else ((f24_F (((f11_p1_o0_r0_0 z86), ((f11_p1_o0_r0_1 z86), ((f11_p1_o0_r0_2 z86), ((f11_p1_o0_r0_3 z86), ((f11_p1_o0_r0_4 z86), ()))))), (((f11_p1_o0_r1_0 z86), ((f11_p1_o0_r1_1 z86), ((f11_p1_o0_r1_2 z86), ((f11_p1_o0_r1_3 z86), ((f11_p1_o0_r1_4 z86), ()))))), ()))).bind fun r88 => some ((f11_p3_o0_y r88.1))) | .inr o87 => some ((f11_p3_o0_y (f11_p1_o1_x4 o87)))))) := by kernel_rfl
def f11_p4_y (x1 : Int) (x5 : Int) (x30 : Int) (x31 : Int) (l0 : List ((List UInt8 × V))) : f11_p4_sh.den := (((), (x1, ((), ((), ((), (x5, ((), ((), ((), ((), ((), ((), ((), ((), ((), ((), ((), ((), ((), ((), ((), ((), ((), ((), ((), ((), ((), ((), ((), ((), (x30, (x31, ((), ((), ((), ((), ((), ((), ((), ((), ((), ((), ((), ((), ((), ((), ((), ((), ((), ((), ((), ((), ((), ((), ((), ((), ((), ((), ((), ((), ((), ((), ((), ((), ((), ((), ((), ((), ((), ((), ((), ((), ((), ((), ((), ((), ((), ((), ((), ((), ((), ((), ((), ((), ((), ((), ((), ((), ((), ((), ((), ((), ((), ((), ((), ((), ((), ((), ((), ((), ((), ((), ((), ((), ((), ((), ((), ((), ((), ((), ((), ((), ((), ((), ((), ((), ((), ((), ())))))))))))))))))))))))))))))))))))))))))))))))))))))))))))))))))))))))))))))))))))))))))))))))))))))))))))))))))))))), (), (l0, ()))
def f11_p4_o0_y (x1 : Int) (x5 : Int) (l0 : List ((List UInt8 × V))) : f11_p4_o0.den := (((), (x1, ((), ((), ((), (x5, ((), ((), ((), ((), ((), ((), ((), ((), ((), ((), ((), ((), ((), ((), ((), ((), ((), ((), ((), ((), ((), ((), ((), ((), ((), ((), ((), ((), ((), ((), ((), ((), ((), ((), ((), ((), ((), ((), ((), ((), ((), ((), ((), ((), ((), ((), ((), ((), ((), ((), ((), ((), ((), ((), ((), ((), ((), ((), ((), ((), ((), ((), ((), ((), ((), ((), ((), ((), ((), ((), ((), ((), ((), ((), ((), ((), ((), ((), ((), ((), ((), ((), ((), ((), ((), ((), ((), ((), ((), ((), ((), ((), ((), ((), ((), ((), ((), ((), ((), ((), ((), ((), ((), ((), ((), ((), ((), ((), ((), ((), ((), ((), ())))))))))))))))))))))))))))))))))))))))))))))))))))))))))))))))))))))))))))))))))))))))))))))))))))))))))))))))))))))), (), (l0, ()))
def f11_p4_o0_x1 (z : f11_p4_o0.den) : Int := z.1.2.1
def f11_p4_o0_x5 (z : f11_p4_o0.den) : Int := z.1.2.2.2.2.2.1
def f11_p4_o0_l0 (z : f11_p4_o0.den) : List ((List UInt8 × V)) := z.2.2.1
@[simp] theorem f11_p4_o0_x1_y (x1 : Int) (x5 : Int) (l0 : List ((List UInt8 × V))) : f11_p4_o0_x1 (f11_p4_o0_y x1 x5 l0) = x1 := id rfl
@[simp] theorem f11_p4_o0_x5_y (x1 : Int) (x5 : Int) (l0 : List ((List UInt8 × V))) : f11_p4_o0_x5 (f11_p4_o0_y x1 x5 l0) = x5 := id rfl
@[simp] theorem f11_p4_o0_l0_y (x1 : Int) (x5 : Int) (l0 : List ((List UInt8 × V))) : f11_p4_o0_l0 (f11_p4_o0_y x1 x5 l0) = l0 := id rfl
def f11_p4_o1_y (x4 : Bool) : f11_p4_o1.den := (((), ((), ((), ((), (x4, ((), ((), ((), ((), ((), ((), ((), ((), ((), ((), ((), ((), ((), ((), ((), ((), ((), ((), ((), ((), ((), ((), ((), ((), ((), ((), ((), ((), ((), ((), ((), ((), ((), ((), ((), ((), ((), ((), ((), ((), ((), ((), ((), ((), ((), ((), ((), ((), ((), ((), ((), ((), ((), ((), ((), ((), ((), ((), ((), ((), ((), ((), ((), ((), ((), ((), ((), ((), ((), ((), ((), ((), ((), ((), ((), ((), ((), ((), ((), ((), ((), ((), ((), ((), ((), ((), ((), ((), ((), ((), ((), ((), ((), ((), ((), ((), ((), ((), ((), ((), ((), ((), ((), ((), ((), ((), ((), ((), ((), ((), ((), ((), ((), ())))))))))))))))))))))))))))))))))))))))))))))))))))))))))))))))))))))))))))))))))))))))))))))))))))))))))))))))))))))), (), ())
def f11_p4_o1_x4 (z : f11_p4_o1.den) : Bool := z.1.2.2.2.2.1
@[simp] theorem f11_p4_o1_x4_y (x4 : Bool) : f11_p4_o1_x4 (f11_p4_o1_y x4) = x4 := id rfl
theorem f11_p4_eq (rec : f11_p4_sh.den → Option (OutDen f11_p4_outs)) (x1 : Int) (x5 : Int) (x30 : Int) (x31 : Int) (l0 : List ((List UInt8 × V))) : f11_p4_st rec (f11_p4_y x1 x5 x30 x31 l0) = (bif (decide (x31 < x30)) then (within x31 l0.length ((l0[(Int.toNat x31)]?).bind fun e89 => (f12_F ((e89.2.kind, (e89.2.n, (e89.2.s, (e89.2.items, (e89.2.keys, ()))))), ())).bind fun r90 => bif r90.1 then ((f13_F ()).bind fun r91 => some (.inr ((f11_p4_o1_y r91.1)))) else (rec (f11_p4_y x1 x5 x30 (IntKind.i64.wrap (x31 + (1 : Int))) l0)))) else (some (.inl (f11_p4_o0_y x1 x5 l0)))) := by kernel_rfl
theorem f11_eq (a0 : List ((List UInt8 × V))) (a1 : Int) : f11_F (a0, (a1, ())) = (cutHi a0 (minI (a0.length : Int) (20 : Int)) fun s92 => appOk (([] : List ((List UInt8 × V))).length + s92.length) (bif (((([] : List ((List UInt8 × V))) ++ s92).length : Int) == (0 : Int)) then ((f13_F ()).bind fun r93 => some (r93.1, ())) else ((go f11_p4_st (f11_p4_y a1 ((([] : List ((List UInt8 × V))) ++ s92).length : Int) ((([] : List ((List UInt8 × V))) ++ s92).length : Int) (0 : Int) (([] : List ((List UInt8 × V))) ++ s92))).bind fun o94 => (match o94 with | .inl z95 => appOk (([] : List ((List UInt8 × V))).length + (f11_p4_o0_l0 z95).length) (if (f11_p4_o0_x5 z95) = 0 then none else (if (f11_p4_o0_x5 z95) = 0 then none else ((f31_F ((f11_p4_o0_l0 z95), ())).bind fun r97 => cutLo (f11_p4_o0_l0 z95) (Int.tmod (IntKind.i64.wrap ((Int.tmod (f11_p4_o0_x1 z95) (f11_p4_o0_x5 z95)) + (f11_p4_o0_x5 z95))) (f11_p4_o0_x5 z95)) fun s98 => appOk (([] : List ((List UInt8 × V))).length + s98.length) (cutHi (f11_p4_o0_l0 z95) (Int.tmod (IntKind.i64.wrap ((Int.tmod (f11_p4_o0_x1 z95) (f11_p4_o0_x5 z95)) + (f11_p4_o0_x5 z95))) (f11_p4_o0_x5 z95)) fun s99 => appOk ((([] : List ((List UInt8 × V))) ++ s98).length + s99.length) ((f31_F (((([] : List ((List UInt8 × V))) ++ s98) ++ s99), ())).bind fun r100 => (f11_p3_F (f11_p3_y (f11_p4_o0_l0 z95) r97.2.1 r100.2.1 r97.1.1 r97.1.2.1 r97.1.2.2.1 r97.1.2.2.2.1 r97.1.2.2.2.2.1 r100.1.1 r100.1.2.1 r100.1.2.2.1 r100.1.2.2.2.1 r100.1.2.2.2.2.1 (([] : List ((List UInt8 × V))) ++ (f11_p4_o0_l0 z95)))).bind fun o101 => some ((f11_p3_o0_x4 o101), ())))))) | .inr o96 => some ((f11_p4_o1_x4 o96), ()))))) := by kernel_rfl
end Go.Pe.Tryd
end
section
namespace Go.Pe
open Go.RowKit
set_option linter.unusedSectionVars false
variable [GI]
theorem go_seq {sh : Shape} {β : Type} {step : (sh.den → Option β) → sh.den → Option β} {y : Nat → sh.den} {n : Nat} {r : Option β}
    (hs : ∀ i, i < n → ∀ rec, step rec (y i) = rec (y (i + 1))) (he : ∀ rec, step rec (y n) = r) (hm : n + 1 ≤ fuelOf sh (y 0)) : go step (y 0) = r := by
  have key : ∀ d i, i + d = n → ∀ m, d + 1 ≤ m → iter step m (y i) = r := by
    intro d
    induction d with
    | zero =>
      intro i hi m hm
      obtain ⟨m, rfl⟩ : ∃ k, m = k + 1 := ⟨m - 1, by omega⟩
      have : i = n := by omega
      subst this
      rw [iter, he]
    | succ d ih =>
      intro i hi m hm
      obtain ⟨m, rfl⟩ : ∃ k, m = k + 1 := ⟨m - 1, by omega⟩
      rw [iter, hs i (by omega), ih (i + 1) (by omega) m (by omega)]
  exact key n 0 (by omega) _ hm
theorem wrap64 {x : Int} (h0 : -9223372036854775808 ≤ x) (h1 : x < 9223372036854775808) : IntKind.i64.wrap x = x := by
  simp only [IntKind.wrap, IntKind.bits, IntKind.signed]
  simp
  omega
theorem nth_nat {α : Type} (l : List α) (i : Nat) : nth l (i : Int) = l[i]? := by simp [nth]
theorem nth_lt {α : Type} {l : List α} {i : Nat} (h : i < l.length) : nth l (i : Int) = some l[i] := by rw [nth_nat, List.getElem?_eq_getElem h]
theorem cutHi_nat' {α S : Type} (l : List α) (n : Nat) (K : List α → Option S) (h : n ≤ l.length) : cutHi l (n : Int) K = K (l.take n) := by rw [cutHi, if_pos (by omega), Int.toNat_natCast]
theorem cutLo_nat' {α S : Type} (l : List α) (n : Nat) (K : List α → Option S) (h : n ≤ l.length) : cutLo l (n : Int) K = K (l.drop n) := by rw [cutLo, if_pos (by omega), Int.toNat_natCast]
theorem within_lt {S : Type} {i n : Nat} (h : i < n) (K : Option S) : within (i : Int) n K = K := by rw [within, if_pos (by omega)]
theorem appOk_lt {S : Type} {n : Nat} (h : n ≤ 4294967296) (K : Option S) : appOk n K = K := by
  unfold appOk; rw [if_pos (by omega)]
theorem minI_nat (a b : Nat) : minI (a : Int) (b : Int) = ((min a b : Nat) : Int) := by rw [minI_eq]; split <;> omega
theorem maxI_nat (a b : Nat) : maxI (a : Int) (b : Int) = ((max a b : Nat) : Int) := by rw [maxI_eq]; split <;> omega
theorem first_bad {α : Type} (p : α → Prop) [DecidablePred p] : ∀ l : List α, (∀ x ∈ l, p x) ∨ ∃ k, ∃ h : k < l.length, ¬ p l[k] ∧ ∀ i (hi : i < k), p (l[i]'(Nat.lt_trans hi h))
  | [] => .inl (by simp)
  | x :: l => by
    by_cases hx : p x
    · rcases first_bad p l with h | ⟨k, hk, h1, h2⟩
      · exact .inl (by simp only [List.mem_cons, forall_eq_or_imp]; exact ⟨hx, h⟩)
      · refine .inr ⟨k + 1, by simp; omega, by simpa using h1, fun i hi => ?_⟩
        cases i with
        | zero => simpa using hx
        | succ i => simpa using h2 i (by omega)
    · exact .inr ⟨0, by simp, by simpa using hx, fun i hi => by omega⟩
/-- Fuel is there. -/
theorem fuel_def (sh : Shape) (z : sh.den) : fuelOf sh z = 1000000 + (fuelL sh.slots z.1 + fuelR sh.recs z.2.1 + fuelT sh.lsts z.2.2) := rfl
end Go.Pe
end
section
namespace Go.Pe
open Go.RowKit
set_option linter.unusedSectionVars false
variable [GI]
theorem go_scan {sh : Shape} {α β : Type} {step : (sh.den → Option β) → sh.den → Option β} {l : List α} (y : Nat → sh.den) (p : α → Bool) (out : Nat → Option β) (fin : Option β)
    (h1 : ∀ i (h : i < l.length) rec, step rec (y i) = bif p l[i] then out i else rec (y (i + 1))) (h2 : ∀ rec, step rec (y l.length) = fin) (hm : l.length + 1 ≤ fuelOf sh (y 0)) :
    go step (y 0) = match l.findIdx? p with | some k => out k | none => fin := by
  cases hf : l.findIdx? p with
  | none =>
    rw [List.findIdx?_eq_none_iff] at hf
    refine go_seq (y := y) (n := l.length) (fun i hi rec => ?_) h2 hm
    rw [h1 i hi, hf _ (List.getElem_mem hi)]; rfl
  | some k =>
    rw [List.findIdx?_eq_some_iff_getElem] at hf
    obtain ⟨hk, hp, hlt⟩ := hf
    refine go_seq (y := y) (n := k) (fun i hi rec => ?_) (fun rec => ?_) (by omega)
    · rw [h1 i (by omega)]
      have := hlt i hi
      simp only [Bool.not_eq_true] at this
      rw [this]; rfl
    · rw [h1 k hk, hp]; rfl
end Go.Pe
end
section
set_option linter.unusedSectionVars false
set_option linter.unusedVariables false
set_option linter.unusedSimpArgs false
namespace Go.Pe
open Go.RowKit
/-- A loop that goes from state to state, and may end early. -/
theorem go_q {sh : Shape} {β : Type} {step : (sh.den → Option β) → sh.den → Option β} (n : Nat) (Y : Nat → sh.den) (Q : Option β → Prop)
    (hs : ∀ i, i < n → (∀ rec, step rec (Y i) = rec (Y (i + 1))) ∨ ∃ r, Q r ∧ ∀ rec, step rec (Y i) = r) (he : ∃ r, Q r ∧ ∀ rec, step rec (Y n) = r) (hm : n + 1 ≤ fuelOf sh (Y 0)) : Q (go step (Y 0)) := by
  have key : ∀ d i, i + d = n → ∀ m, d + 1 ≤ m → Q (iter step m (Y i)) := by
    intro d
    induction d with
    | zero =>
      intro i hi m hm
      obtain ⟨m, rfl⟩ : ∃ k, m = k + 1 := ⟨m - 1, by omega⟩
      have : i = n := by omega
      subst this
      obtain ⟨r, hQ, hr⟩ := he
      rw [iter, hr]; exact hQ
    | succ d ih =>
      intro i hi m hm
      obtain ⟨m, rfl⟩ : ∃ k, m = k + 1 := ⟨m - 1, by omega⟩
      rcases hs i (by omega) with h | ⟨r, hQ, hr⟩
      · rw [iter, h]; exact ih (i + 1) (by omega) m (by omega)
      · rw [iter, hr]; exact hQ
  exact key n 0 (by omega) _ hm
namespace Tryd
open Go.Proofs
set_option maxRecDepth 100000
mutual
def cnt : V → Nat | .mk _ _ _ items _ => 1 + cntL items
def cntL : List V → Nat | [] => 0 | v :: l => cnt v + cntL l
end
mutual
def dep : V → Nat | .mk _ _ _ items _ => 1 + depL items
def depL : List V → Nat | [] => 0 | v :: l => max (dep v) (depL l)
end
theorem cnt_pos (v : V) : 1 ≤ cnt v := by cases v; simp [cnt]
theorem dep_pos (v : V) : 1 ≤ dep v := by cases v; simp [dep]
theorem cntL_append : ∀ (a b : List V), cntL (a ++ b) = cntL a + cntL b
  | [], b => by simp [cntL]
  | v :: a, b => by simp [cntL, cntL_append a b]; omega
theorem depL_append : ∀ (a b : List V), depL (a ++ b) = max (depL a) (depL b)
  | [], b => by simp [depL]
  | v :: a, b => by simp [depL, depL_append a b, Nat.max_assoc]
theorem cntL_take {l : List V} {i : Nat} (h : i < l.length) : cntL (l.take (i + 1)) = cntL (l.take i) + cnt l[i] := by
  rw [List.take_succ_eq_append_getElem h, cntL_append]; simp [cntL]
theorem depL_take {l : List V} {i : Nat} (h : i < l.length) : depL (l.take (i + 1)) = max (depL (l.take i)) (dep l[i]) := by
  rw [List.take_succ_eq_append_getElem h, depL_append]; simp [depL]
theorem cntL_take_le (l : List V) (i : Nat) : cntL (l.take i) ≤ cntL l := by
  conv => rhs; rw [← List.take_append_drop i l, cntL_append]
  omega
theorem cntL_len : ∀ (l : List V), l.length ≤ cntL l
  | [] => by simp
  | v :: l => by have := cntL_len l; have := cnt_pos v; simp [cntL]; omega
theorem cnt_mem {v : V} : ∀ {l : List V}, v ∈ l → cnt v ≤ cntL l
  | u :: l, h => by
    rcases List.mem_cons.1 h with rfl | h
    · simp [cntL]
    · have := cnt_mem h; simp [cntL]; omega
theorem dep_mem {v : V} : ∀ {l : List V}, v ∈ l → dep v ≤ depL l
  | u :: l, h => by
    rcases List.mem_cons.1 h with rfl | h
    · simp only [depL]; omega
    · exact Nat.le_trans (dep_mem h) (Nat.le_max_right _ _)
theorem take_len (l : List V) {i : Nat} (h : i ≤ l.length) : i ≤ cntL (l.take i) := by
  have := cntL_len (l.take i)
  rw [List.length_take] at this; omega
mutual
theorem dep_le : ∀ v : V, dep v ≤ cnt v
  | .mk _ _ _ items _ => by have := depL_le items; simp [dep, cnt]; omega
theorem depL_le : ∀ l : List V, depL l ≤ cntL l
  | [] => by simp [depL]
  | v :: l => by have := dep_le v; have := depL_le l; simp [depL, cntL]; omega
end
@[reducible] def va (v : V) : Int × Int × List UInt8 × List V × List (List UInt8) × Unit := (v.kind, (v.n, (v.s, (v.items, (v.keys, ())))))
/-- Counted up to a bound. -/
theorem lim_step (n : Nat) (G : argsDen f16_ps → Option (argsDen f16_rs)) (hG : Sound Tryd.prog 16 (pfun G)) (items : List V) (m : Nat) (hm : m ≤ 3000)
    (ih : ∀ (m' : Nat) (v : V), m' < m → G (va v, ((m' : Int), ())) = some (((min (cnt v) (m' + 1) : Nat) : Int), ())) :
    ∃ o, go (f16_p0_st G hG) (f16_p0_y (m : Int) (1 : Int) items (items.length : Int) (0 : Int)) = some o ∧ ((match o with | .inl z4 => some ((f16_p0_o0_x5 z4), ()) | .inr o5 => some ((f16_p0_o1_x4 o5), ())) : Option (argsDen f16_rs)) = some (((min (1 + cntL items) (m + 1) : Nat) : Int), ()) := by
  let Y : Nat → f16_p0_sh.den := fun i => f16_p0_y m ((min (1 + cntL (items.take i)) (m + 1) : Nat) : Int) items items.length i
  have hY : ∀ i, Y i = f16_p0_y m ((min (1 + cntL (items.take i)) (m + 1) : Nat) : Int) items items.length i := fun _ => rfl
  have e : f16_p0_y (m : Int) (1 : Int) items (items.length : Int) (0 : Int) = Y 0 := by
    rw [hY]; simp only [List.take_zero, cntL, Nat.add_zero]
    congr 1
  rw [e]
  clear_value Y
  have bad : ∀ i, i < items.length → ¬ 1 + cntL (items.take i) ≤ m → ∃ r, (∃ o, r = some o ∧ ((match o with | .inl z4 => some ((f16_p0_o0_x5 z4), ()) | .inr o5 => some ((f16_p0_o1_x4 o5), ())) : Option (argsDen f16_rs)) = some (((min (1 + cntL items) (m + 1) : Nat) : Int), ())) ∧ ∀ rec, f16_p0_st G hG rec (Y i) = r := by
    intro i hil hc
    have hlt : decide ((i : Int) < (items.length : Int)) = true := by simp; omega
    refine ⟨some (.inr (f16_p0_o1_y ((m + 1 : Nat) : Int))), ⟨_, rfl, ?_⟩, fun rec => ?_⟩
    · simp only [f16_p0_o1_x4_y]
      have := cntL_take_le items i
      congr 3; omega
    · rw [hY, f16_p0_eq, hlt, cond_true, nth_lt hil, Option.bind_some]
      have hg : decide (((min (1 + cntL (items.take i)) (m + 1) : Nat) : Int) > (m : Int)) = true := by simp; omega
      rw [hg, cond_true]
      congr 4; omega
  refine go_q (step := f16_p0_st G hG) (min items.length m) Y (fun r => ∃ o, r = some o ∧ ((match o with | .inl z4 => some ((f16_p0_o0_x5 z4), ()) | .inr o5 => some ((f16_p0_o1_x4 o5), ())) : Option (argsDen f16_rs)) = some (((min (1 + cntL items) (m + 1) : Nat) : Int), ())) (fun i hi => ?_) ?_ (by rw [fuel_def]; omega)
  · have hil : i < items.length := by omega
    by_cases hc : 1 + cntL (items.take i) ≤ m
    · refine .inl fun rec => ?_
      have hlt : decide ((i : Int) < (items.length : Int)) = true := by simp; omega
      rw [hY, hY, f16_p0_eq, hlt, cond_true, nth_lt hil, Option.bind_some]
      have hg : decide (((min (1 + cntL (items.take i)) (m + 1) : Nat) : Int) > (m : Int)) = false := by simp; omega
      rw [hg, cond_false]
      have hw : IntKind.i64.wrap ((m : Int) - ((min (1 + cntL (items.take i)) (m + 1) : Nat) : Int)) = ((m - (1 + cntL (items.take i)) : Nat) : Int) := by
        rw [wrap64 (by omega) (by omega)]; omega
      have h3 := ih (m - (1 + cntL (items.take i))) items[i] (by omega)
      rw [hw, h3, Option.bind_some]
      dsimp only
      have hw2 : IntKind.i64.wrap (((min (1 + cntL (items.take i)) (m + 1) : Nat) : Int) + ((min (cnt items[i]) (m - (1 + cntL (items.take i)) + 1) : Nat) : Int)) = ((min (1 + cntL (items.take (i + 1))) (m + 1) : Nat) : Int) := by
        rw [wrap64 (by omega) (by omega), cntL_take hil]; omega
      have hw3 : IntKind.i64.wrap ((i : Int) + 1) = ((i + 1 : Nat) : Int) := by rw [wrap64 (by omega) (by omega)]; rfl
      rw [hw2, hw3]
    · exact .inr (bad i hil hc)
  · by_cases hl : items.length ≤ m
    · have hmn : min items.length m = items.length := Nat.min_eq_left hl
      rw [hmn]
      refine ⟨some (.inl (f16_p0_o0_y ((min (1 + cntL items) (m + 1) : Nat) : Int))), ⟨_, rfl, ?_⟩, fun rec => by rw [hY, f16_p0_eq]; simp only [Int.lt_irrefl, decide_false, cond_false, List.take_length]⟩
      simp only [f16_p0_o0_x5_y]
    · have hmn : min items.length m = m := Nat.min_eq_right (by omega)
      rw [hmn]
      have h2 := take_len items (i := m) (by omega)
      exact bad m (by omega) (by omega)
theorem f16_next (n : Nat) : (f16_S (n + 1)).1 = f16_b (f16_S n).1 (f16_S n).2 := by kernel_rfl
theorem va_mk (k a : Int) (s : List UInt8) (items : List V) (keys : List (List UInt8)) : va (.mk k a s items keys) = (k, (a, (s, (items, (keys, ()))))) := rfl
theorem lim_ok : ∀ (n m : Nat) (v : V), m ≤ 3000 → m < n → (f16_S n).1 (va v, ((m : Int), ())) = some (((min (cnt v) (m + 1) : Nat) : Int), ())
  | 0, m, v, _, h => by omega
  | n + 1, m, .mk k a s items keys, hm, hn => by
    rw [f16_next, va_mk, f16_eq]
    obtain ⟨o, h1, h2⟩ := lim_step n (f16_S n).1 (f16_S n).2 items m hm fun m' v h => lim_ok n m' v (by omega) (by omega)
    rw [h1, Option.bind_some]; simp only [cnt]; exact h2
theorem f16_ok' (m : Nat) (v : V) (hm : m ≤ 3000) : f16_F (va v, ((m : Int), ())) = some (((min (cnt v) (m + 1) : Nat) : Int), ()) := by
  unfold f16_F
  exact lim_ok recN m v hm (by rw [recN_eq]; omega)
end Tryd
end Go.Pe
end
