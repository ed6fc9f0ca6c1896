/- DiskSyncs. -/
import Derived.Test.YtgkolhopfiogpaaPeX17f
import Derived.Test.YtgkolhopfiogpaaPeG17qSyncs
namespace Go.Pe.Try
open Go.Proofs Go.RowKit Go.Pe.X17
set_option maxRecDepth 100000
set_option linter.unusedSimpArgs false
set_option linter.unusedVariables false
theorem bind_eq {α β : Type} {x : Option α} {a : α} {f : α → Option β} {r : Option β} (h : x = some a) (h2 : f a = r) : x.bind f = r := by rw [h]; exact h2
theorem foldi_nil (keep : List Bool) (S : List Sec) : foldi (keptS keep) 0 S [] = S := rfl
theorem syncs (S0 : List Sec) (D0 : List Wr) (keep : List Bool) : f7_F ((S0, (D0, ())), (keep, ())) = some (true, ()) := by
  rw [f7_eq]
  refine bind_eq (few_is S0 D0) ?_
  have hS : (S0.take 66).length ≤ 1000 := by simp; omega
  have hD : (D0.take 202).length ≤ 1000 := by simp; omega
  generalize S0.take 66 = S at hS
  generalize D0.take 202 = D at hD
  have n0 : right ([] : List Sec) ([] : List Wr) = false := by rfl
  cases hr : right S D
  · refine bind_eq (sync_bad hS hD hr) (bind_eq (sync_bad (by simp) (by simp) n0) (bind_eq (crash_bad (by simp) (by simp) keep n0) (bind_eq (right2_is S D hS hD) ?_)))
    rw [hr]
    refine bind_eq alive_is ?_
    rfl
  · have hR := right_iff.1 hr
    have hR2 := puts_right hR
    have h1 := hR2.hi
    refine bind_eq (sync_is hR) (bind_eq (sync_is hR2) (bind_eq (crash_is hR2 keep) (bind_eq (right2_is S D hS hD) ?_)))
    rw [hr]
    refine bind_eq alive_is ?_
    have hl := like_is (D.foldl put S) (D.foldl put S) [] [] (by omega) (by simp)
    simp only [beq_self_eq_true, Bool.true_and] at hl
    simp only [cond_true, beq_self_eq_true]
    refine bind_eq hl ?_
    simp only [cond_true]
    refine bind_eq hl ?_
    rfl
end Go.Pe.Try
