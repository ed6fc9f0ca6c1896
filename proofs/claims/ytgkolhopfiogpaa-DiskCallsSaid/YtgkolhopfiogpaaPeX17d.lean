/- Writing, syncing, crashing. -/
import Derived.Test.YtgkolhopfiogpaaPeX17c
namespace Go.Pe.Try
open Go.Proofs Go.RowKit Go.Pe.X17
set_option maxRecDepth 100000
set_option linter.unusedSimpArgs false
set_option linter.unusedVariables false
theorem nilEq_same {α S : Type} (xs : List α) (a : Option S) : nilEq xs a a = a := by
  unfold nilEq; split <;> simp
theorem clone_w (D : List Wr) (h : D.length ≤ 1000) : h43_F (h43_y D) = some (h43_o_y D) := by
  rw [h43_eq, appOk_lt (by omega)]
  cases D with
  | nil => exact nilEq_same _ _
  | cons w D => unfold nilEq; simp
theorem clone_s (S : List Sec) (h : S.length ≤ 1000) : h62_F (h62_y S) = some (h62_o_y S) := by
  rw [h62_eq, appOk_lt (by omega)]
  cases S with
  | nil => exact nilEq_same _ _
  | cons w D => unfold nilEq; simp
abbrev disk (S : List Sec) (D : List Wr) (e : Int) : Option ((List Sec × List Wr × Unit) × Int × Unit) := some ((S, (D, ())), (e, ()))
theorem put_bad {S : List Sec} {D : List Wr} (hS : S.length ≤ 1000) (hD : D.length ≤ 1000) {at_ : Int} {data : Sec} (h : right S D = false ∨ at_ < 0 ∨ (S.length : Int) ≤ at_ ∨ data.length ≠ 128) :
    f20_F ((S, (D, ())), (at_, (data, ()))) = disk [] [] 1 := by
  rw [f20_eq, f20_p0_eq, right_is S D hS hD]
  simp only [Option.bind_some]
  cases hr : right S D
  · rfl
  · cases h1 : decide (at_ < 0)
    · cases h2 : decide (at_ ≥ (S.length : Int))
      · have : ((data.length : Int) != 128) = true := by
          simp only [decide_eq_false_iff_not] at h1 h2
          rw [hr] at h
          simp only [bne_iff_ne]
          rcases h with h | h | h | h
          · cases h
          · omega
          · omega
          · omega
        rw [this]; rfl
      · rfl
    · rfl
theorem put_full {S : List Sec} {D : List Wr} (h : Right S D) {k : Nat} (hk : k < S.length) {data : Sec} (hd : data.length = 128) (hf : D.length = 200) : f20_F ((S, (D, ())), ((k : Int), (data, ()))) = disk [] [] 40 := by
  have h1 := h.hi; have h2 := h.few
  rw [f20_eq, f20_p0_eq, right_is S D (by omega) (by omega), right_iff.2 h]
  have e1 : decide ((k : Int) < 0) = false := by simp
  have e2 : decide ((k : Int) ≥ (S.length : Int)) = false := by simp; omega
  have e3 : ((data.length : Int) != 128) = false := by simp; omega
  have e4 : ((D.length : Int) == 200) = true := by simp; omega
  rw [e1, e2, e3]
  simp only [Option.bind_some, Bool.not_true, cond_false, f20_p0_o0_x8_y, f20_p0_o0_r0_1_y]
  rw [e4]; rfl
theorem put_is {S : List Sec} {D : List Wr} (h : Right S D) {k : Nat} (hk : k < S.length) {data : Sec} (hd : data.length = 128) (hf : D.length < 200) : f20_F ((S, (D, ())), ((k : Int), (data, ()))) = disk S (D ++ [((k : Int), data)]) 0 := by
  have h1 := h.hi
  rw [f20_eq, f20_p0_eq, right_is S D (by omega) (by omega), right_iff.2 h]
  have e1 : decide ((k : Int) < 0) = false := by simp
  have e2 : decide ((k : Int) ≥ (S.length : Int)) = false := by simp; omega
  have e3 : ((data.length : Int) != 128) = false := by simp; omega
  have e4 : ((D.length : Int) == 200) = false := by simp; omega
  rw [e1, e2, e3]
  simp only [Option.bind_some, Bool.not_true, cond_false, f20_p0_o0_x8_y, f20_p0_o0_r0_1_y, f20_p0_o0_x1_y, f20_p0_o0_x2_y, f20_p0_o0_r0_0_y]
  rw [e4, clone_w D (by omega)]
  simp only [cond_false, Option.bind_some, h43_o_l0_y]
  rw [appOk_lt (by simp; omega)]
theorem put_right {S : List Sec} {D : List Wr} (h : Right S D) {k : Nat} (hk : k < S.length) {data : Sec} (hd : data.length = 128) (hf : D.length < 200) : Right S (D ++ [((k : Int), data)]) :=
  ⟨h.lo, h.hi, by simp; omega, h.sec, fun w hw => by
    rcases List.mem_append.1 hw with hw | hw
    · exact h.wr w hw
    · rw [List.mem_singleton.1 hw]; exact ⟨by simp, by simp; omega, hd⟩⟩
theorem stands_put {S : List Sec} {D : List Wr} {k : Nat} {data : Sec} (j : Nat) : stands S (D ++ [((k : Int), data)]) j = if k = j then data else stands S D j := by
  unfold stands
  rw [List.foldl_append]
  simp only [List.foldl_cons, List.foldl_nil, stand]
  by_cases e : k = j
  · rw [if_pos e]; simp [e]
  · rw [if_neg e]
    have : ((k : Int) == (j : Int)) = false := by simp; omega
    rw [this]; rfl

/-- With all that was written, or with what is kept of it. -/
theorem safe_all {S : List Sec} {D : List Wr} (h : Right S D) : h46_F (h46_y S D) = some (h46_o_y (D.foldl put S)) := by
  have h1 := h.hi; have h2 := h.few
  rw [h46_eq, clone_s S (by omega)]
  simp only [Option.bind_some, h62_o_l0_y]
  have hl := (go_foldi (step := h46_p1_st) (l := D) (fun i s => h46_p1_y D (D.length : Int) (i : Int) s) (fun _ => put) (fun _ s => s.length = S.length) (s0 := S) (fin := fun s => some (h46_p1_o0_y s)) rfl (fun i s hi hI => by
    refine ⟨by simpa [put] using hI, fun rec => ?_⟩
    rw [h46_p1_eq]
    have : decide ((i : Int) < (D.length : Int)) = true := by simp; exact hi
    rw [this]
    obtain ⟨g0, g1, _⟩ := h.wr _ (List.getElem_mem hi)
    have hb : h46_p0_F (h46_p0_y D (D.length : Int) (i : Int) s) = some (h46_p0_o0_y D (D.length : Int) (i : Int) (put s D[i])) := by
      rw [h46_p0_eq, nth_lt hi]
      simp only [Option.bind_some, f47_eq]
      have hn : D[i].1.toNat < s.length := by omega
      have e : D[i].1 = ((D[i].1.toNat : Nat) : Int) := by omega
      have hw : ∀ K : Option h46_p0_o0.den, within D[i].1 s.length K = K := fun K => by rw [e, within_lt hn]
      rw [f47_eq]
      simp only [Option.bind_some, cond_true]
      refine (hw _).trans ?_
      rw [List.getElem?_eq_getElem hn]
      rfl
    simp only [cond_true]
    rw [hb]
    simp only [Option.bind_some, h46_p0_o0_x12_y, h46_p0_o0_x13_y, h46_p0_o0_x14_y, h46_p0_o0_l0_y]
    rw [wrap64 (by omega) (by omega)]
    rfl) (fun s hI rec => by rw [h46_p1_eq]; simp) (by rw [fuel_def]; omega)).1
  simp only [Int.natCast_zero, Int.ofNat_zero] at hl
  rw [hl, foldi_eq]
  rfl
theorem h48_is (keep : List Bool) (i : Nat) : h48_F (h48_y (i : Int) keep) = some (h48_o_y (keep.getD i false) keep) := by
  rw [h48_eq]
  by_cases hi : i < keep.length
  · have : decide ((i : Int) < (keep.length : Int)) = true := by simp; exact hi
    rw [this, nth_lt hi]
    simp [List.getD_eq_getElem?_getD, hi]
  · have : decide ((i : Int) < (keep.length : Int)) = false := by simp; omega
    rw [this, List.getD_eq_getElem?_getD, List.getElem?_eq_none (by omega)]
    rfl
theorem safe_keep {S : List Sec} {D : List Wr} (h : Right S D) (keep : List Bool) : h46a_F (h46a_y S D keep) = some (h46a_o_y keep (foldi (keptS keep) 0 S D)) := by
  have h1 := h.hi; have h2 := h.few
  rw [h46a_eq, clone_s S (by omega)]
  simp only [Option.bind_some, h62_o_l0_y]
  have hl := (go_foldi (step := h46a_p1_st) (l := D) (fun i s => h46a_p1_y D (D.length : Int) (i : Int) keep s) (keptS keep) (fun _ s => s.length = S.length) (s0 := S) (fin := fun s => some (h46a_p1_o0_y keep s)) rfl (fun i s hi hI => by
    refine ⟨by unfold keptS; cases keep.getD i false <;> simpa [put] using hI, fun rec => ?_⟩
    rw [h46a_p1_eq]
    have : decide ((i : Int) < (D.length : Int)) = true := by simp; exact hi
    rw [this]
    obtain ⟨g0, g1, _⟩ := h.wr _ (List.getElem_mem hi)
    have hb : h46a_p0_F (h46a_p0_y D (D.length : Int) (i : Int) keep s) = some (h46a_p0_o0_y D (D.length : Int) (i : Int) keep (keptS keep i s D[i])) := by
      rw [h46a_p0_eq, nth_lt hi]
      simp only [Option.bind_some]
      rw [h48_is]
      have hn : D[i].1.toNat < s.length := by omega
      have e : D[i].1 = ((D[i].1.toNat : Nat) : Int) := by omega
      have hw : ∀ K : Option h46a_p0_o0.den, within D[i].1 s.length K = K := fun K => by rw [e, within_lt hn]
      simp only [Option.bind_some, h48_o_x0_y, h48_o_r0_0_y]
      unfold keptS
      cases keep.getD i false
      · rfl
      · simp only [cond_true]
        refine (hw _).trans ?_
        rw [List.getElem?_eq_getElem hn]
        rfl
    simp only [cond_true]
    rw [hb]
    simp only [Option.bind_some, h46a_p0_o0_x12_y, h46a_p0_o0_x13_y, h46a_p0_o0_x14_y, h46a_p0_o0_r0_0_y, h46a_p0_o0_l0_y]
    rw [wrap64 (by omega) (by omega)]
    rfl) (fun s hI rec => by rw [h46a_p1_eq]; simp) (by rw [fuel_def]; omega)).1
  simp only [Int.natCast_zero, Int.ofNat_zero] at hl
  rw [hl]
  rfl
theorem sync_bad {S : List Sec} {D : List Wr} (hS : S.length ≤ 1000) (hD : D.length ≤ 1000) (h : right S D = false) : f24_F ((S, (D, ())), ()) = disk [] [] 1 := by
  rw [f24_eq, right_is S D hS hD, h]; rfl
theorem sync_is {S : List Sec} {D : List Wr} (h : Right S D) : f24_F ((S, (D, ())), ()) = disk (D.foldl put S) [] 0 := by
  have h1 := h.hi; have h2 := h.few
  rw [f24_eq, right_is S D (by omega) (by omega), right_iff.2 h]
  simp only [Option.bind_some, Bool.not_true, cond_false, safe_all h, h46_o_l0_y]
theorem crash_bad {S : List Sec} {D : List Wr} (hS : S.length ≤ 1000) (hD : D.length ≤ 1000) (keep : List Bool) (h : right S D = false) : f25_F ((S, (D, ())), (keep, ())) = disk [] [] 1 := by
  rw [f25_eq, right_is S D hS hD, h]; rfl
theorem crash_is {S : List Sec} {D : List Wr} (h : Right S D) (keep : List Bool) : f25_F ((S, (D, ())), (keep, ())) = disk (foldi (keptS keep) 0 S D) [] 0 := by
  have h1 := h.hi; have h2 := h.few
  rw [f25_eq, right_is S D (by omega) (by omega), right_iff.2 h]
  simp only [Option.bind_some, Bool.not_true, cond_false, safe_keep h, h46a_o_l0_y]
end Go.Pe.Try
