/- Printed by gen.py: the same functions as plain equations; Lean checks them. -/
import Derived.Test.YtgkolhopfiogpaaPeG17q
namespace Go.Pe.Try
open Go.Proofs Go.RowKit
set_option maxRecDepth 100000
set_option linter.unusedVariables false
/-! imprimatur/imprimaturlaw17.DiskSyncs -/
theorem f7_eq (a0_0 : List (List UInt8)) (a0_1 : List ((Int × List UInt8))) (a1 : List Bool) : f7_F ((a0_0, (a0_1, ())), (a1, ())) = ((f17_F ((a0_0, (a0_1, ())), ())).bind fun r158 => (f24_F ((r158.1.1, (r158.1.2.1, ())), ())).bind fun r159 => (f24_F ((r159.1.1, (r159.1.2.1, ())), ())).bind fun r160 => (f25_F ((r159.1.1, (r159.1.2.1, ())), (a1, ()))).bind fun r161 => (f18_F ((r158.1.1, (r158.1.2.1, ())), ())).bind fun r162 => bif (!r162.1) then ((f19_F ()).bind fun r163 => bif r163.1 then (some ((r159.2.1 == (1 : Int)), ())) else (some (false, ()))) else ((f19_F ()).bind fun r164 => bif r164.1 then (bif (r159.2.1 == (0 : Int)) then (bif (r160.2.1 == (0 : Int)) then (bif (r161.2.1 == (0 : Int)) then ((f26_F ((r159.1.1, (r159.1.2.1, ())), ((r160.1.1, (r160.1.2.1, ())), ()))).bind fun r165 => bif r165.1 then ((f26_F ((r159.1.1, (r159.1.2.1, ())), ((r161.1.1, (r161.1.2.1, ())), ()))).bind fun r166 => some (r166.1, ())) else (some (false, ()))) else (some (false, ()))) else (some (false, ()))) else (some (false, ()))) else (some (false, ())))) := by kernel_rfl

end Go.Pe.Try
