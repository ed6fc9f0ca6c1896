/- The laws of disks, as their rows ask for them. -/
import Derived.Test.YtgkolhopfiogpaaPeX17h
namespace Go.Pe.Try
open Go.Proofs Go.RowKit Go.Pe.X17
theorem lawSyncs (x0 : List Sec × List Wr) (x1 : List Bool) : f7_F ((x0.1, (x0.2, ())), (x1, ())) = some (true, ()) := syncs _ _ _
theorem lawApart (x0 : List Sec × List Wr) (x1 x2 x3 x4 : Int) : f4_F ((x0.1, (x0.2, ())), (x1, (x2, (x3, (x4, ()))))) = some (true, ()) := apart _ _ _ _ _ _
end Go.Pe.Try
