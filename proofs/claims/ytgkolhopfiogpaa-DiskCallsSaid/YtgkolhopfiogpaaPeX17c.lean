/- What each call makes of a disk. -/
import Derived.Test.YtgkolhopfiogpaaPeX17b
namespace Go.Pe.Try
open Go.Proofs Go.RowKit Go.Pe.X17
set_option maxRecDepth 100000
set_option linter.unusedSimpArgs false
set_option linter.unusedVariables false
theorem few_is (S : List Sec) (D : List Wr) : f17_F ((S, (D, ())), ()) = some ((S.take 66, (D.take 202, ())), ()) := by
  rw [f17_eq]
  have h1 := cut_min (S := argsDen f17_rs) S 66
  have h2 := cut_min (S := argsDen f17_rs) D 202
  refine (h1 _).trans ?_
  refine (h2 _).trans ?_
  rfl
theorem right2_is (S : List Sec) (D : List Wr) (hS : S.length ≤ 1000) (hD : D.length ≤ 1000) : f18_F ((S, (D, ())), ()) = some (right S D, ()) := by
  rw [f18_eq, f18_p3_eq]
  unfold right
  have hl := go_scan (step := f18_p2_st) (l := S) (fun i => f18_p2_y S (S.length : Int) (i : Int) S D) badS (fun k => some (.inr (f18_p2_o1_y false))) (some (.inl (f18_p2_o0_y S D))) (fun i hi rec => by
    rw [f18_p2_eq, nth_lt hi, wrap64 (by omega) (by omega)]
    have : decide ((i : Int) < (S.length : Int)) = true := by simp; exact hi
    rw [this]
    rfl) (fun rec => by rw [f18_p2_eq]; simp) (by rw [fuel_def]; omega)
  have hl2 := go_scan (step := f18_p1_st) (l := D) (fun i => f18_p1_y D (D.length : Int) (i : Int) S D) (badW S.length) (fun k => some (.inr (f18_p1_o1_y false))) (some (.inl f18_p1_o0_y)) (fun i hi rec => by
    rw [f18_p1_eq, nth_lt hi]
    have : decide ((i : Int) < (D.length : Int)) = true := by simp; exact hi
    rw [this]
    have hb : f18_p0_F (f18_p0_y D (D.length : Int) (i : Int) S D D[i].1 D[i].2) = some (f18_p0_o0_y D (D.length : Int) (i : Int) (badW S.length D[i]) S D) := by
      rw [f18_p0_eq]
      unfold badW
      cases decide (D[i].1 < 0)
      · cases decide (D[i].1 ≥ (S.length : Int))
        · rfl
        · rfl
      · rfl
    simp only [cond_true, Option.bind_some]
    rw [hb]
    simp only [Option.bind_some, f18_p0_o0_x57_y, f18_p0_o0_x35_y, f18_p0_o0_x36_y, f18_p0_o0_x37_y, f18_p0_o0_r0_0_y, f18_p0_o0_r0_1_y]
    rw [wrap64 (by omega) (by omega)]
    rfl) (fun rec => by rw [f18_p1_eq]; simp) (by rw [fuel_def]; omega)
  simp only [Int.natCast_zero, Int.ofNat_zero] at hl hl2
  cases decide ((S.length : Int) < 4)
  · cases decide ((S.length : Int) > 64)
    · cases decide ((D.length : Int) > 200)
      · simp only [cond_false, Option.bind_some, f18_p3_o0_x22_y, f18_p3_o0_r0_0_y, f18_p3_o0_r0_1_y]
        rw [hl]
        rcases find_any S badS with ⟨k, e, e2⟩ | ⟨e, e2⟩
        · rw [e, e2]; rfl
        · rw [e, e2]
          simp only [Option.bind_some, f18_p2_o0_r0_0_y, f18_p2_o0_r0_1_y]
          rw [hl2]
          rcases find_any D (badW S.length) with ⟨k, e, e2⟩ | ⟨e, e2⟩
          · rw [e, e2]; rfl
          · rw [e, e2]; rfl
      · rfl
    · rfl
  · rfl
/-- From the last one on, the first that is of that sector, is as it stands. -/
theorem range_stand (S : List Sec) (D : List Wr) (k : Int) : ∀ (l : List (Int × Wr)), 
    rangeL f22_p0_st f22_p0_fin l (f22_p0_h_y S D k [] 0) = (match (l.map (·.2)).find? (fun w => w.1 == k) with | some w => some (.inr (f22_p0_o1_y w.2 (0 : Int))) | none => some (.inl (f22_p0_o0_y S D k [] 0)))
  | [] => by rw [rangeL, f22_p0_fin_eq]; rfl
  | (i, w) :: l => by
    rw [rangeL, f22_p0_st_eq]
    simp only [List.map_cons, List.find?_cons]
    cases w.1 == k
    · simp only [cond_false, Option.bind_some]
      exact range_stand S D k l
    · rfl
theorem backs_map {α : Type} (xs : List α) : (backs xs).map (·.2) = xs.reverse := by
  simp only [backs, List.map_reverse]
  congr 1
  apply List.ext_getElem
  · simp
  · intro i h1 h2; simp
theorem stand_find (k : Int) : ∀ (D : List Wr) (s : Sec), D.foldl (stand k) s = match D.reverse.find? (fun w => w.1 == k) with | some w => w.2 | none => s
  | [], s => rfl
  | w :: D, s => by
    rw [List.foldl_cons, stand_find k D, List.reverse_cons, List.find?_append]
    cases h : D.reverse.find? (fun w => w.1 == k) with
    | some v => rfl
    | none =>
      simp only [Option.none_or, List.find?_cons, List.find?_nil, stand]
      cases w.1 == k <;> rfl
theorem h44_is (D : List Wr) : h44_F (h44_y D) = some (h44_o_y D) := h44_eq D
theorem read_bad {S : List Sec} {D : List Wr} (hS : S.length ≤ 1000) (hD : D.length ≤ 1000) {at_ : Int} (h : right S D = false ∨ at_ < 0 ∨ (S.length : Int) ≤ at_) : f22_F ((S, (D, ())), (at_, ())) = some ([], ((1 : Int), ())) := by
  rw [f22_eq, f22_p1_eq, right_is S D hS hD]
  simp only [Option.bind_some]
  rcases h with h | h | h
  · rw [h]; rfl
  · have : decide (at_ < 0) = true := by simpa using h
    rw [this]
    cases right S D <;> rfl
  · have : decide (at_ ≥ (S.length : Int)) = true := by simpa using h
    rw [this]
    cases right S D
    · rfl
    · cases decide (at_ < 0) <;> rfl
theorem read_is {S : List Sec} {D : List Wr} (h : Right S D) {k : Nat} (hk : k < S.length) : f22_F ((S, (D, ())), ((k : Int), ())) = some (stands S D k, ((0 : Int), ())) := by
  have h1 := h.hi; have h2 := h.few
  rw [f22_eq, f22_p1_eq, right_is S D (by omega) (by omega), right_iff.2 h]
  have e1 : decide ((k : Int) < 0) = false := by simp
  have e2 : decide ((k : Int) ≥ (S.length : Int)) = false := by simp; omega
  rw [e1, e2]
  simp only [Option.bind_some, Bool.not_true, cond_false, f22_p1_o0_x21_y, f22_p1_o0_r0_0_y, f22_p1_o0_r0_1_y, f22_p1_o0_r1_0_y, f22_p1_o0_r2_0_y, f22_p1_o0_r3_0_y, h44_is, h44_o_r0_0_y]
  rw [f22_p0_eq, appOk_lt (by omega), range_stand, backs_map]
  unfold stands
  rw [stand_find]
  cases hf : D.reverse.find? (fun w => w.1 == (k : Int)) with
  | some w => rfl
  | none =>
    simp only [Option.bind_some, f22_p0_o0_r0_0_y, f22_p0_o0_r1_0_y]
    rw [nth_lt hk]
    simp [List.getD_eq_getElem?_getD, hk]
end Go.Pe.Try
