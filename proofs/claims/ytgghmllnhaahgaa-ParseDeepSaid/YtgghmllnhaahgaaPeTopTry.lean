/- What is known of types; the place of a row's last one, walked. -/
import Derived.WalkKit
import Derived.LoopTactic
import Derived.OwnWalk
import Derived.Deep.RegionLaw
import Derived.Below
import Derived.IntWalk
import Derived.Lib.Hide
import Derived.Test.YtgghmllnhaahgaaPeIter
import Derived.Test.YtgghmllnhaahgaaProg
set_option linter.unusedSectionVars false
set_option linter.unusedVariables false
set_option linter.unusedSimpArgs false
namespace Go.Pe.Try
open Go.Proofs Go.RowKit
instance : GI := ⟨fun _ => True, fun _ _ => trivial, 54, 5⟩
set_option maxRecDepth 100000 in
set_option maxHeartbeats 2000000 in
theorem top_ok : TopFn Try.prog 21 := by
  refine ⟨⟨_, Try.func21, by kernel_rfl, by kernel_rfl⟩, fun w b off bS n cap hn hc => ?_⟩
  have hc' : w.drew.cell? ⟨b, off, none⟩ = some (.slice (some ⟨bS, 0, none⟩) (n + 1) cap) := hc
  go_enter Try.func21, Try.ntmps21
  go_wp2
  go_region
  all_goals (go_wp2; go_ret; exact ⟨rfl, (Below.refl _ w).drew⟩)
end Go.Pe.Try
