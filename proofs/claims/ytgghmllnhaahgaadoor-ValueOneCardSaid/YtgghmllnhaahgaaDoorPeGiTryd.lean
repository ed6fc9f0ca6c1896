/- What is known of the package's variables, of builders' and bytes' types. -/
import Derived.Lib.AppendIntMem
import Derived.Lib.SmallJoins
import Derived.Test.YtgghmllnhaahgaaDoorPeTi
import Derived.Test.YtgghmllnhaahgaaDoorProg
set_option linter.unusedSectionVars false
set_option linter.unusedVariables false
set_option linter.unusedSimpArgs false
namespace Go.Pe.Tryd
open Go.Proofs Go.RowKit
/-- strconv's table of powers reads as it is laid; bytealg's bound is a number. -/
def Inv (w : World) : Prop := (∃ m : Int, w.cell? ⟨0, 0, none⟩ = some (.int .i64 m)) ∧ Lib.TabIs Tryd.prog w "internal/strconv.uint64pow10" .u64 Lib.pow10Tab
theorem inv_mono {w w' : World} (h : Inv w) (hb : Below w.heap.size w w') : Inv w' := by
  obtain ⟨⟨m, hm⟩, ht⟩ := h
  have h0 : 0 < w.heap.size := by
    rcases Nat.lt_or_ge 0 w.heap.size with h' | h'
    · exact h'
    · simp [World.cell?, Array.getElem?_eq_none h'] at hm
  exact ⟨⟨m, by rw [hb.cell (p := ⟨0, 0, none⟩) h0]; exact hm⟩, Lib.tabBelow_of_tabIs ht w' hb⟩
instance : GI := ⟨Inv, inv_mono, 59, 5⟩
end Go.Pe.Tryd
