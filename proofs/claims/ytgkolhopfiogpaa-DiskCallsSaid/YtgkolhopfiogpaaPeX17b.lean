/- Which disks may be: both ways tell it. -/
import Derived.Test.YtgkolhopfiogpaaPeG17q
import Derived.Test.YtgkolhopfiogpaaPeLoopT
import Derived.Test.YtgkolhopfiogpaaPeX17a
namespace Go.Pe.Try
open Go.Proofs Go.RowKit Go.Pe.X17
set_option maxRecDepth 100000
set_option linter.unusedSimpArgs false
set_option linter.unusedVariables false
theorem find_any {α : Type} (l : List α) (p : α → Bool) : (∃ k, l.findIdx? p = some k ∧ l.any p = true) ∨ (l.findIdx? p = none ∧ l.any p = false) := by
  cases h : l.findIdx? p with
  | none =>
    rw [List.findIdx?_eq_none_iff] at h
    exact .inr ⟨rfl, by rw [List.any_eq_false]; intro x hx; simp [h x hx]⟩
  | some k =>
    rw [List.findIdx?_eq_some_iff_getElem] at h
    obtain ⟨hk, hp, _⟩ := h
    exact .inl ⟨k, rfl, List.any_eq_true.2 ⟨_, List.getElem_mem hk, hp⟩⟩
theorem h51_is (S : List Sec) (h : S.length ≤ 1000) : h51_F (h51_y S) = some (h51_o_y (S.any badS)) := by
  rw [h51_eq, h63_eq]
  have hl := go_scan (step := h63_p0_st) (l := S) (fun i => h63_p0_y S (S.length : Int) (i : Int)) badS (fun k => some (.inr (h63_p0_o1_y (k : Int)))) (some (.inl h63_p0_o0_y)) (fun i hi rec => by
    rw [h63_p0_eq, nth_lt hi, wrap64 (by omega) (by omega)]
    have : decide ((i : Int) < (S.length : Int)) = true := by simp; exact hi
    rw [this]
    simp only [cond_true, Option.bind_some, f49_eq]
    rfl) (fun rec => by rw [h63_p0_eq]; simp) (by rw [fuel_def]; omega)
  simp only [Int.ofNat_zero, Int.natCast_zero] at hl
  rw [hl]
  rcases find_any S badS with ⟨k, e, e2⟩ | ⟨e, e2⟩
  · rw [e, e2]
    simp only [Option.bind_some, h63_p0_o1_x4_y, h63_o_x0_y]
    have : decide ((k : Int) ≥ 0) = true := by simp
    rw [this]
  · rw [e, e2]
    simp only [Option.bind_some, h63_o_x0_y]
    rfl
theorem h50_is (w : Wr) (n : Int) : h50_F (h50_y w.1 w.2 n) = some (h50_o_y (decide (w.1 < 0) || (decide (w.1 ≥ n) || (w.2.length : Int) != 128)) n) := by
  rw [h50_eq]
  cases decide (w.1 < 0)
  · cases decide (w.1 ≥ n)
    · simp only [cond_false, Bool.false_or]; rw [f49_eq]; rfl
    · simp only [cond_false, cond_true, Bool.false_or, Bool.true_or]
  · simp only [cond_true, Bool.true_or]
theorem h52_is (D : List Wr) (n : Nat) (h : D.length ≤ 1000) : h52_F (h52_y D (n : Int)) = some (h52_o_y (D.any (badW n)) (n : Int)) := by
  rw [h52_eq, h64_eq]
  have hl := go_scan (step := h64_p0_st) (l := D) (fun i => h64_p0_y D (D.length : Int) (i : Int) (n : Int)) (badW n) (fun k => some (.inr (h64_p0_o1_y (k : Int) (n : Int)))) (some (.inl (h64_p0_o0_y (n : Int)))) (fun i hi rec => by
    rw [h64_p0_eq, nth_lt hi, wrap64 (by omega) (by omega)]
    have : decide ((i : Int) < (D.length : Int)) = true := by simp; exact hi
    rw [this]
    simp only [cond_true, Option.bind_some, h50_is, h50_o_x0_y, h50_o_r0_0_y]
    rfl) (fun rec => by rw [h64_p0_eq]; simp) (by rw [fuel_def]; omega)
  simp only [Int.natCast_zero] at hl
  rw [hl]
  rcases find_any D (badW n) with ⟨k, e, e2⟩ | ⟨e, e2⟩
  · rw [e, e2]
    simp only [Option.bind_some, h64_p0_o1_x4_y, h64_p0_o1_r0_0_y, h64_o_x0_y, h64_o_r0_0_y]
    have : decide ((k : Int) ≥ 0) = true := by simp
    rw [this]
  · rw [e, e2]
    simp only [Option.bind_some, h64_p0_o0_r0_0_y, h64_o_x0_y, h64_o_r0_0_y]
    rfl
theorem right_is (S : List Sec) (D : List Wr) (hS : S.length ≤ 1000) (hD : D.length ≤ 1000) : f27_F ((S, (D, ())), ()) = some (right S D, ()) := by
  rw [f27_eq, f27_p0_eq]
  unfold right
  cases decide ((S.length : Int) < 4)
  · cases decide ((S.length : Int) > 64)
    · cases decide ((D.length : Int) > 200)
      · simp only [cond_false, Option.bind_some, f27_p0_o0_x20_y, f27_p0_o0_r0_0_y, f27_p0_o0_r0_1_y, f27_p0_o0_r1_0_y, h51_is S hS, h52_is D _ hD, h51_o_x0_y, h52_o_x0_y]
        cases S.any badS <;> simp
      · simp
    · simp
  · simp
end Go.Pe.Try
