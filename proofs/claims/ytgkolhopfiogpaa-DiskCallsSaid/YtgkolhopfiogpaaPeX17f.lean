/- Sectors of a byte; a new disk; what is written is read. -/
import Derived.Test.YtgkolhopfiogpaaPeX17e
namespace Go.Pe.Try
open Go.Proofs Go.RowKit Go.Pe.X17
set_option maxRecDepth 100000
set_option linter.unusedSimpArgs false
set_option linter.unusedVariables false
def sec (c : Int) : Sec := List.replicate 128 (UInt8.ofNat c.toNat)
theorem sec_len (c : Int) : (sec c).length = 128 := by simp [sec]
theorem repeat_one (b : UInt8) : repeatF (([b], ((128 : Int), ()))) = some (List.replicate 128 b, ()) := by
  unfold repeatF
  have h : Lib.repeatL [b] 128 = List.replicate 128 b := by
    have key : ∀ n, Lib.repeatL [b] n = List.replicate n b := fun n => by
      induction n with
      | zero => rfl
      | succ n ih => simp only [Lib.repeatL, List.replicate_succ] at ih ⊢; simp [ih]
    exact key 128
  rw [← h]
  exact if_pos (show (0 : Int) ≤ 128 ∧ (128 : Int) ≤ 9223372036854775807 ∧ 1 * (128 : Int).toNat ≤ 140737488355328 from ⟨by decide, by decide, by decide⟩)
theorem sector_is (c : Int) : f21_F (c, ()) = some (sec c, ()) := by
  rw [f21_eq]
  have h : strOf [c] = [UInt8.ofNat c.toNat] := rfl
  rw [h, repeat_one]
  rfl
theorem new_bad {n : Int} (h : n < 4 ∨ 64 < n) : f23_F (n, ()) = disk [] [] 1 := by
  rw [f23_eq, f23_p0_eq]
  by_cases h1 : n < 4
  · have : decide (n < 4) = true := by simpa using h1
    rw [this]; rfl
  · have e1 : decide (n < 4) = false := by simpa using h1
    have e2 : decide (n > 64) = true := by simp; omega
    rw [e1, e2]; rfl
theorem new_is {n : Int} (h1 : 4 ≤ n) (h2 : n ≤ 64) : f23_F (n, ()) = disk (List.replicate n.toNat (sec 0)) [] 0 := by
  rw [f23_eq, f23_p0_eq]
  have e1 : decide (n < 4) = false := by simp; omega
  have e2 : decide (n > 64) = false := by simp; omega
  rw [e1, e2]
  simp only [cond_false, Option.bind_some, f23_p0_o0_x10_y, f23_p0_o0_x0_y]
  rw [repeat_one]
  simp only [Option.bind_some]
  have : repsF ([List.replicate 128 (0 : UInt8)], (n, ())) = some (List.replicate n.toNat (sec 0), ()) := by
    have hc : (1 : Int) ≤ n ∧ n ≤ 1000000 := ⟨by omega, by omega⟩
    exact (if_pos hc).trans rfl
  rw [this]
  rfl
theorem alive_is : f19_F () = some (true, ()) := by
  have hR : Right (List.replicate 4 (sec 0)) [] := ⟨by simp, by simp, by simp, fun s hs => by rw [List.eq_of_mem_replicate hs]; exact sec_len 0, by simp⟩
  have hp := put_is hR (k := 1) (by simp) (sec_len 120) (by simp)
  have hR2 := put_right hR (k := 1) (by simp) (sec_len 120) (by simp)
  have hr := read_is hR2 (k := 1) (by simp)
  rw [stands_put, if_pos rfl] at hr
  rw [f19_eq, new_is (by omega) (by omega)]
  simp only [Option.bind_some]
  rw [sector_is]
  simp only [Option.bind_some]
  refine Eq.trans (congrArg (fun z => Option.bind z _) hp) ?_
  simp only [Option.bind_some]
  refine Eq.trans (congrArg (fun z => Option.bind z _) hr) ?_
  simp only [Option.bind_some]
  have h4 := right_is (List.replicate 4 (sec 0)) ([] ++ [(((1 : Nat) : Int), sec 120)]) (by simp) (by simp)
  rw [right_iff.2 hR2] at h4
  have e : ((sec 120) == (sec 120)) = true := by simp
  simp only [beq_self_eq_true, cond_true]
  refine Eq.trans (congrArg (fun z => Option.bind z _) h4) ?_
  rfl
end Go.Pe.Try
