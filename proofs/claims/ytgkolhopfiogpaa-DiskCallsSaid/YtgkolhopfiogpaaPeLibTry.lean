/- The library's functions at this program, as the evaluator calls them. -/
import Derived.Test.YtgkolhopfiogpaaPeLibS
import Derived.Test.YtgkolhopfiogpaaPeShelfTry
namespace Go.Pe.Try
open Go.Proofs Go.RowKit
theorem repeat_ok : Sound Try.prog 37 (pfun repeatF) := repeat_sound ⟨_, Try.func37, by kernel_rfl, by kernel_rfl⟩ fun s c w h1 h2 => Try.strings_Repeat s c w h1 h2
theorem join_ok : Sound Try.prog 66 (pfun joinF) := join_sound ⟨_, Try.func66, by kernel_rfl, by kernel_rfl⟩ (fun a c sep w => Try.strings_Join_none a c sep w) fun bk o c xs sep w h1 h2 h3 h4 h5 => Try.strings_Join bk o c xs sep w h1 h2 h3 h4 h5
end Go.Pe.Try
