/- The library's functions at this program, as the evaluator calls them. -/
import Derived.Test.YtgghmllnhaahgaaPeLibS
import Derived.Test.YtgghmllnhaahgaaPeShelfTry2
import Derived.Test.YtgghmllnhaahgaaPeParE
namespace Go.Pe.Try
open Go.Proofs Go.RowKit
theorem repeat_ok : Sound Try.prog 9 (pfun repeatF) := repeat_sound ⟨_, Try.func9, by kernel_rfl, by kernel_rfl⟩ fun s c w h1 h2 => Try.strings_Repeat s c w h1 h2
end Go.Pe.Try
