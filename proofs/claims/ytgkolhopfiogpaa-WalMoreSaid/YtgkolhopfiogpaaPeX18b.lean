/- What the functions over rows of sectors come to. -/
import Derived.Test.YtgkolhopfiogpaaPeG18q
import Derived.Test.YtgkolhopfiogpaaPeTac
import Derived.Test.YtgkolhopfiogpaaPeX18a
namespace Go.Pe.Try
open Go.Proofs Go.RowKit Go.Pe.X18
set_option maxRecDepth 100000
theorem alive : f15_F () = some (true, ()) := by kernel_rfl
theorem few_eq (l : List (List UInt8)) : f30_F (l, ()) = some (l.take 66, ()) := by rw [f30_eq]; exact cut_min l 66 _
theorem ne128 (x : List UInt8) : ((x.length : Int) != 128) = decide (x.length ≠ 128) := by
  by_cases h : x.length = 128
  · simp [h]
  · have : (x.length : Int) ≠ 128 := by omega
    simp [h, this]
theorem short_eq (x : List UInt8) : f65_F (x, ()) = some (decide (x.length ≠ 128), ()) := by rw [f65_eq, ne128]
instance (s : List (List UInt8)) : Decidable (Uni s) := inferInstanceAs (Decidable (∀ x ∈ s, x.length = 128))
theorem index_eq (l : List (List UInt8)) (hl : l.length < 4611686018427387904) : ∃ n : Int, h63_F (h63_y l) = some (h63_o_y n) ∧ decide (n ≥ 0) = !decide (Uni l) := by
  rw [h63_eq]
  rcases first_bad (fun x : List UInt8 => x.length = 128) l with h | ⟨k, hk, h1, h2⟩
  · have hgo : go h63_p0_st (h63_p0_y l l.length 0) = some (.inl h63_p0_o0_y) := by
      refine go_seq (y := fun i => h63_p0_y l l.length i) (n := l.length) (fun i hi rec => ?_) (fun rec => ?_) ?_
      · rw [h63_p0_eq, nth_lt hi, Option.bind_some, short_eq, Option.bind_some, wrap64 (by omega) (by omega)]
        have : l[i].length = 128 := h _ (List.getElem_mem hi)
        simp [hi, this]
      · rw [h63_p0_eq]; simp
      · simp only [h63_p0_y, fuelOf, fuelL, SAV.fuel, Ty.fuel, fuelR, fuelT]; omega
    rw [hgo]
    have hu : Uni l := h
    exact ⟨_, rfl, by simp [hu]⟩
  · have hgo : go h63_p0_st (h63_p0_y l l.length 0) = some (.inr (h63_p0_o1_y k)) := by
      refine go_seq (y := fun i => h63_p0_y l l.length i) (n := k) (fun i hi rec => ?_) (fun rec => ?_) ?_
      · rw [h63_p0_eq, nth_lt (by omega : i < l.length), Option.bind_some, short_eq, Option.bind_some, wrap64 (by omega) (by omega)]
        have : (l[i]'(by omega)).length = 128 := h2 i hi
        have h3 : (i : Int) < l.length := by omega
        simp [h3, this]
      · rw [h63_p0_eq, nth_lt hk, Option.bind_some, short_eq, Option.bind_some]
        have h3 : (k : Int) < l.length := by omega
        simp [h3, h1]
      · simp only [h63_p0_y, fuelOf, fuelL, SAV.fuel, Ty.fuel, fuelR, fuelT]; omega
    rw [hgo]
    have hu : ¬ Uni l := fun hu => h1 (hu _ (List.getElem_mem hk))
    exact ⟨_, rfl, by simp [hu]⟩
theorem contains_eq (l : List (List UInt8)) (hl : l.length < 4611686018427387904) : h51_F (h51_y l) = some (h51_o_y (!decide (Uni l))) := by
  rw [h51_eq]
  obtain ⟨n, h1, h2⟩ := index_eq l hl
  rw [h1, Option.bind_some]
  simp only [h63_o_x0_y]
  rw [h2]

def May (s : List (List UInt8)) (used : Int) : Prop := s.length ≤ 64 ∧ Uni s ∧ 0 ≤ used ∧ used ≤ 128 * s.length
instance (s : List (List UInt8)) (used : Int) : Decidable (May s used) := inferInstanceAs (Decidable (_ ∧ _ ∧ _ ∧ _))
theorem may_eq (s : List (List UInt8)) (used : Int) (hl : s.length ≤ 66) : f53_F ((s, (used, ())), ()) = some (decide (May s used), ()) := by
  rw [f53_eq, contains_eq s (by omega), Option.bind_some, wrap64 (by omega) (by omega)]
  simp only [h51_o_x0_y, Bool.not_not]
  by_cases h1 : s.length ≤ 64
  · by_cases h2 : Uni s
    · by_cases h3 : 0 ≤ used
      · have h4 : (s.length : Int) ≤ 64 := by omega
        simp only [May, h1, h2, h3, h4, ge_iff_le, decide_true, cond_true, true_and, Int.mul_comm]
      · have h4 : (s.length : Int) ≤ 64 := by omega
        simp [May, h2, h3, h4]
    · have h4 : (s.length : Int) ≤ 64 := by omega
      simp [May, h2, h4]
  · have h4 : ¬ (s.length : Int) ≤ 64 := by omega
    have h5 : ¬ May s used := fun h => h1 h.1
    simp [h4, h5]
theorem join_flat (s : List (List UInt8)) : Lib.join s [] = s.flatten := by
  cases s with
  | nil => rfl
  | cons x r => rw [Lib.join_cons, Lib.joinTail, List.flatten_cons]; simp
theorem flat_small {s : List (List UInt8)} (hu : Uni s) (h : s.length ≤ 66) : s.flatten.length ≤ 8448 := by rw [flat_len hu]; omega
theorem bytes_eq (s : List (List UInt8)) (hu : Uni s) (hl : s.length ≤ 66) : f54_F ((s, ()), ()) = some (s.flatten, ()) := by
  have := flat_small hu hl
  rw [f54_eq]
  unfold joinF
  simp only [join_flat]
  rw [if_pos ⟨by omega, by omega⟩]; rfl
/-- Text. -/
theorem text_eq (s : List (List UInt8)) (used : Int) (hl : s.length ≤ 66) : f32_F (s, (used, ())) = if May s used then some (s.flatten.take used.toNat, (0, ())) else some ([], (1, ())) := by
  rw [f32_eq, may_eq s used hl, Option.bind_some]
  by_cases h : May s used
  · rw [if_pos h]
    simp only [h, decide_true, Bool.not_true, cond_false]
    rw [bytes_eq s h.2.1 hl, Option.bind_some]
    obtain ⟨n, rfl⟩ := Int.eq_ofNat_of_zero_le h.2.2.1
    have h4 := h.2.2.2
    rw [cutHi_nat' _ _ _ (by rw [flat_len h.2.1]; omega)]
    rfl
  · rw [if_neg h]; simp [h]
/-- May, of the document. -/
theorem refmay_eq (s : List (List UInt8)) (used : Int) (hl : s.length ≤ 66) : f33_F (s, (used, ())) = some (decide (May s used), ()) := by
  rw [f33_eq]
  rcases first_bad (fun x : List UInt8 => x.length = 128) s with h | ⟨k, hk, h1, h2⟩
  · have hgo : go f33_p0_st (f33_p0_y s used s s.length 0) = some (.inl (f33_p0_o0_y s used)) := by
      refine go_seq (y := fun i => f33_p0_y s used s s.length i) (n := s.length) (fun i hi rec => ?_) (fun rec => ?_) ?_
      · rw [f33_p0_eq, nth_lt hi, Option.bind_some, wrap64 (by omega) (by omega)]
        have : s[i].length = 128 := h _ (List.getElem_mem hi)
        simp [hi, this]
      · rw [f33_p0_eq]; simp
      · simp only [f33_p0_y, fuelOf, fuelL, SAV.fuel, Ty.fuel, fuelR, fuelT]; omega
    have hu : Uni s := h
    rw [hgo, Option.bind_some]
    have hw : IntKind.i64.wrap (128 * (s.length : Int)) = 128 * (s.length : Int) := wrap64 (by omega) (by omega)
    simp only [f33_p0_o0_x0_y, f33_p0_o0_x1_y, hw]
    by_cases h1 : s.length ≤ 64
    · have h4 : (s.length : Int) ≤ 64 := by omega
      by_cases h3 : 0 ≤ used
      · simp only [May, h1, hu, h3, h4, ge_iff_le, decide_true, cond_true, true_and]
      · simp [May, h3, h4]
    · have h4 : ¬ (s.length : Int) ≤ 64 := by omega
      have h5 : ¬ May s used := fun h => h1 h.1
      simp [h4, h5]
  · have hgo : go f33_p0_st (f33_p0_y s used s s.length 0) = some (.inr (f33_p0_o1_y false)) := by
      refine go_seq (y := fun i => f33_p0_y s used s s.length i) (n := k) (fun i hi rec => ?_) (fun rec => ?_) ?_
      · rw [f33_p0_eq, nth_lt (by omega : i < s.length), Option.bind_some, wrap64 (by omega) (by omega)]
        have : (s[i]'(by omega)).length = 128 := h2 i hi
        have h3 : (i : Int) < s.length := by omega
        simp [h3, this]
      · rw [f33_p0_eq, nth_lt hk, Option.bind_some]
        have h3 : (k : Int) < s.length := by omega
        have h4 : ((s[k].length : Int) != 128) = true := by simp; omega
        simp [h3, h4]
      · simp only [f33_p0_y, fuelOf, fuelL, SAV.fuel, Ty.fuel, fuelR, fuelT]; omega
    have hu : ¬ May s used := fun hu => h1 (hu.2.1 _ (List.getElem_mem hk))
    rw [hgo, Option.bind_some]
    simp [hu]
/-- Text, of the document. -/
theorem reftext_eq (s : List (List UInt8)) (hu : Uni s) (hl : s.length ≤ 66) (used : Nat) (h : used ≤ 128 * s.length) : f34_F (s, ((used : Int), ())) = some (s.flatten.take used, ()) := by
  rw [f34_eq]
  have hlen := flat_len hu
  have hgo : go f34_p0_st (f34_p0_y used [] s s.length 0) = some (f34_p0_o0_y used s.flatten) := by
    refine go_seq (y := fun i => f34_p0_y used (s.take i).flatten s s.length i) (n := s.length) (fun i hi rec => ?_) (fun rec => ?_) ?_
    · rw [f34_p0_eq, nth_lt hi, Option.bind_some, wrap64 (by omega) (by omega)]
      have h3 : (i : Int) < s.length := by omega
      have h5 : (s.take i).flatten ++ s[i] = (s.take (i + 1)).flatten := by rw [List.take_succ_eq_append_getElem hi, List.flatten_append, List.flatten_cons, List.flatten_nil, List.append_nil]
      have h6 : (s.take (i + 1)).flatten.length ≤ 8448 := by
        rw [flat_len (fun x hx => hu x (List.mem_of_mem_take hx)), List.length_take]; omega
      have h7 : (s.take i).flatten.length + s[i].length ≤ 4611686018427387904 := by rw [← h5, List.length_append] at h6; omega
      rw [if_pos h7, h5]
      simp [h3]
    · rw [f34_p0_eq]; simp
    · simp only [f34_p0_y, fuelOf, fuelL, SAV.fuel, Ty.fuel, fuelR, fuelT]; omega
  rw [hgo, Option.bind_some]
  simp only [f34_p0_o0_x5_y, f34_p0_o0_x1_y]
  rw [cutHi_nat' _ _ _ (by omega)]
end Go.Pe.Try
