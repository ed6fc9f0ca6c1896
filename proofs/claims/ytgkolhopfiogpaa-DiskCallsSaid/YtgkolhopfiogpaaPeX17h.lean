/- DiskApart. -/
import Derived.Test.YtgkolhopfiogpaaPeX17g
import Derived.Test.YtgkolhopfiogpaaPeG17qApart
namespace Go.Pe.Try
open Go.Proofs Go.RowKit Go.Pe.X17
set_option maxRecDepth 100000
set_option linter.unusedSimpArgs false
set_option linter.unusedVariables false
theorem mod_in (x : Int) {n : Nat} (h1 : 4 ≤ n) (h2 : n ≤ 64) : ∃ k : Nat, k < n ∧ Int.tmod (IntKind.i64.wrap (Int.tmod x (n : Int) + (n : Int))) (n : Int) = (k : Int) := by
  have hn : (0 : Int) < n := by omega
  have ha : -(n : Int) < Int.tmod x n ∧ Int.tmod x n < n := by
    constructor
    · have := Int.lt_tmod_of_pos x hn; omega
    · exact Int.tmod_lt_of_pos x hn
  rw [wrap64 (by omega) (by omega)]
  have h0 : 0 ≤ Int.tmod x n + n := by omega
  have hm := Int.tmod_lt_of_pos (Int.tmod x n + n) hn
  have hm0 := Int.tmod_nonneg (b := (n : Int)) (a := Int.tmod x n + n) h0
  exact ⟨(Int.tmod (Int.tmod x n + n) n).toNat, by omega, by omega⟩
theorem if_no {α : Type} {n : Nat} (h : 4 ≤ n) (x : Option α) : (if (n : Int) = 0 then none else x) = x := if_neg (by omega)
theorem apart (S0 : List Sec) (D0 : List Wr) (at_ other a b : Int) : f4_F ((S0, (D0, ())), (at_, (other, (a, (b, ()))))) = some (true, ()) := by
  rw [f4_eq]
  refine bind_eq (few_is S0 D0) ?_
  have hS : (S0.take 66).length ≤ 1000 := by simp; omega
  have hD : (D0.take 202).length ≤ 1000 := by simp; omega
  generalize S0.take 66 = S at hS
  generalize D0.take 202 = D at hD
  dsimp only
  rw [f4_p1_eq, right2_is S D hS hD]
  cases hr : right S D
  · simp only [Option.bind_some, Bool.not_false, cond_true, f4_p1_o0_x32_y]
    exact bind_eq alive_is rfl
  · simp only [Option.bind_some, Bool.not_true, cond_false, f4_p1_o0_x32_y, f4_p1_o0_x1_y, f4_p1_o0_x2_y, f4_p1_o0_x3_y, f4_p1_o0_x4_y, f4_p1_o0_r0_0_y, f4_p1_o0_r0_1_y]
    by_cases hl : D.length ≤ 190
    · have e : decide ((D.length : Int) > 190) = false := by simp; omega
      rw [e]
      simp only [cond_false]
      have hR := right_iff.1 hr
      have l0 := hR.lo; have l1 := hR.hi
      refine (if_no l0 _).trans ((if_no l0 _).trans ((if_no l0 _).trans ((if_no l0 _).trans ?_)))
      obtain ⟨k, hk, ek⟩ := mod_in at_ l0 l1
      obtain ⟨j, hj, ej⟩ := mod_in other l0 l1
      rw [ek, ej]
      have hR2 := put_right hR hk (sec_len a) (by omega)
      have hR3 := put_right hR2 hk (sec_len b) (by simp; omega)
      refine bind_eq (sector_is a) (bind_eq (put_is hR hk (sec_len a) (by omega)) (bind_eq (sector_is b) (bind_eq (put_is hR2 hk (sec_len b) (by simp; omega)) ?_)))
      dsimp only
      rw [f4_p0_eq]
      have q1 := read_is hR3 hk
      have q2 := read_is hR hj
      have q3 := read_is hR3 hj
      have s1 : stands S ((D ++ [((k : Int), sec a)]) ++ [((k : Int), sec b)]) k = sec b := by rw [stands_put, if_pos rfl]
      have s2 : stands S ((D ++ [((k : Int), sec a)]) ++ [((k : Int), sec b)]) j = if k = j then sec b else if k = j then sec a else stands S D j := by rw [stands_put, stands_put]
      rw [s1] at q1
      rw [s2] at q3
      refine bind_eq (a := f4_p0_o0_y true) (bind_eq q1 (bind_eq q2 (bind_eq q3 (bind_eq alive_is ?_)))) ?_
      · simp only [cond_true, beq_self_eq_true]
        refine bind_eq (sector_is b) ?_
        simp only [beq_self_eq_true, cond_true]
        by_cases e : k = j
        · subst e; simp
        · have e2 : ((k : Int) == (j : Int)) = false := by simp; omega
          rw [e2, if_neg e, if_neg e]; simp
      · simp
    · have e : decide ((D.length : Int) > 190) = true := by simp; omega
      rw [e]
      simp only [cond_true]
      exact bind_eq alive_is rfl
end Go.Pe.Try
