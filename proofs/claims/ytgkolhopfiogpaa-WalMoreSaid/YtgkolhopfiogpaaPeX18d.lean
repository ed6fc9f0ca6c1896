/- The law WalLays. -/
import Derived.Test.YtgkolhopfiogpaaPeX18c
import Derived.Test.YtgkolhopfiogpaaPeOpen2
namespace Go.Pe.Try
open Go.Proofs Go.RowKit Go.Pe.X18
set_option maxRecDepth 100000
/-- How many of the sectors below one are written. -/
def upTo (used : Nat) (data : List UInt8) (at_ : Nat) : Nat := min at_ (used / 128 + many used data) - used / 128
theorem wr_iff (used : Nat) (data : List UInt8) (at_ : Nat) : Wr used data at_ ↔ used / 128 ≤ at_ ∧ at_ < used / 128 + many used data := by
  unfold Wr many
  by_cases h : data = []
  · subst h; simp only [if_true, ne_eq, not_true_eq_false, and_false, false_iff]; omega
  · rw [if_neg h]
    have hp : 0 < data.length := List.length_pos_iff.2 h
    simp only [h, ne_eq, not_false_eq_true, and_true]
    omega
theorem many_le {s : List (List UInt8)} {used : Nat} {data : List UInt8} (h : used + data.length ≤ 128 * s.length) : used / 128 + many used data ≤ s.length := by
  unfold many; split <;> omega
theorem lays_loop (s : List (List UInt8)) (hu : Uni s) (hl : s.length ≤ 66) (used : Nat) (data : List UInt8) (hd : data.length ≤ 8448) (h : used + data.length ≤ 128 * s.length) :
    go f8_p2_st (f8_p2_y s used data (lays s used data) 0 0 s.length 0) = some (.inl (f8_p2_o0_y (lays s used data) 0 ((lays s used data).length : Int))) := by
  have hm := many_le h
  have hll : (lays s used data).length = many used data := writes_len _ _ _
  have e0 : ((upTo used data 0 : Nat) : Int) = 0 := by unfold upTo; omega
  rw [show f8_p2_y s used data (lays s used data) 0 0 s.length 0 = f8_p2_y s used data (lays s used data) 0 (upTo used data 0 : Nat) s.length ((0 : Nat) : Int) by rw [e0]; rfl]
  refine go_seq (y := fun i => f8_p2_y s used data (lays s used data) 0 (upTo used data i) s.length i) (n := s.length) (fun i hi rec => ?_) (fun rec => ?_) ?_
  · rw [f8_p2_eq, f8_p1_eq, written_eq used data i (by omega) hd, Option.bind_some]
    have h3 : (i : Int) < s.length := by omega
    have w1 : IntKind.i64.wrap ((i : Int) + 1) = ((i + 1 : Nat) : Int) := by rw [wrap64 (by omega) (by omega)]; omega
    by_cases hw : Wr used data i
    · have hw2 := (wr_iff used data i).1 hw
      have e1 : upTo used data i = i - used / 128 := by unfold upTo; omega
      have e2 : upTo used data (i + 1) = i - used / 128 + 1 := by unfold upTo; omega
      have hk : i - used / 128 < (lays s used data).length := by omega
      have hget : (lays s used data)[i - used / 128]? = some ((i : Int), chunk (whole s used data) i) := by
        unfold lays
        rw [writes_get _ _ _ _ (by omega), show used / 128 + (i - used / 128) = i by omega]
      have h4 : ¬ ((i - used / 128 : Nat) : Int) ≥ ((lays s used data).length : Int) := by omega
      have w2 : IntKind.i64.wrap (((i - used / 128 : Nat) : Int) + 1) = ((i - used / 128 + 1 : Nat) : Int) := by rw [wrap64 (by omega) (by omega)]; omega
      rw [e1, e2, f8_p0_eq, nth_nat, hget, sector_eq s hu hl used data hd h i hi]
      simp only [hw, h3, h4, decide_true, decide_false, cond_true, cond_false, Bool.not_true, Option.bind_some, beq_self_eq_true, Bool.and_self, f8_p0_o0_x110_y, f8_p0_o0_x0_y, f8_p0_o0_x1_y, f8_p0_o0_x2_y, f8_p0_o0_x7_y, f8_p0_o0_x8_y, f8_p0_o0_x11_y, f8_p0_o0_x84_y, f8_p0_o0_x85_y, w2,
        f8_p1_o1_x0_y, f8_p1_o1_x1_y, f8_p1_o1_x2_y, f8_p1_o1_x7_y, f8_p1_o1_x8_y, f8_p1_o1_x11_y, f8_p1_o1_x84_y, f8_p1_o1_x85_y, w1]
    · have e1 : upTo used data (i + 1) = upTo used data i := by
        rw [wr_iff] at hw
        unfold upTo; omega
      rw [e1]
      simp only [hw, h3, decide_true, decide_false, cond_true, cond_false, Bool.not_false, Option.bind_some, f8_p1_o1_x0_y, f8_p1_o1_x1_y, f8_p1_o1_x2_y, f8_p1_o1_x7_y, f8_p1_o1_x8_y, f8_p1_o1_x11_y, f8_p1_o1_x84_y, f8_p1_o1_x85_y, w1]
  · rw [f8_p2_eq]
    have e1 : upTo used data s.length = (lays s used data).length := by rw [hll]; unfold upTo; omega
    rw [e1]; simp
  · simp only [fuelOf, f8_p2_y, fuelL, SAV.fuel, Ty.fuel, fuelR, fuelT]; omega
theorem lawLays (x0 : List (List UInt8)) (x1 : Int) (x2 : List UInt8) (_ : Wf reachBytes (.list .str) x0) (w1 : Wf reachBytes (.int .i64) x1) (_ : Wf reachBytes .str x2) : f8_F (x0, (x1, (x2, ()))) = some (true, ()) := by
  have hr := int64_range w1
  rw [f8_eq, few_eq, Option.bind_some]
  dsimp only
  have hs : (x0.take 66).length ≤ 66 := by rw [List.length_take]; omega
  generalize x0.take 66 = s at hs
  rw [show (1000 : Int) = ((1000 : Nat) : Int) from rfl, cut_min]
  have hd : (x2.take 1000).length ≤ 1000 := by rw [List.length_take]; omega
  generalize x2.take 1000 = data at hd
  rw [lay_eq s x1 data hs (by omega) hr, text_eq s x1 hs, refmay_eq s x1 hs, alive]
  by_cases hm : May s x1
  · have hu := hm.2.1
    obtain ⟨used, rfl⟩ := Int.eq_ofNat_of_zero_le hm.2.2.1
    have hle := hm.2.2.2
    have w2 : IntKind.i64.wrap (128 * (s.length : Int)) = 128 * (s.length : Int) := wrap64 (by omega) (by omega)
    have w3 : IntKind.i64.wrap (128 * (s.length : Int) - (used : Int)) = 128 * (s.length : Int) - (used : Int) := wrap64 (by omega) (by omega)
    simp only [hm, if_true, decide_true, Bool.not_true, cond_false, Option.bind_some, Int.toNat_natCast]
    by_cases hroom : (data.length : Int) > 128 * s.length - used
    · simp only [hroom, if_true, Option.bind_some]
      rw [f8_p4_eq, f8_p3_eq, reftext_eq s hu hs used (by omega), alive]
      have h5 : (data.length : Int) > 128 * (s.length : Int) - used := hroom
      have h6 : ((0 : Int) != 0) = false := rfl
      simp only [h6, cond_false, Option.bind_some, bne_self_eq_false, Bool.not_true, f8_p3_o0_x67_y, f8_p3_o0_x2_y, f8_p3_o0_x0_y, f8_p3_o0_x1_y, f8_p3_o0_x7_y, f8_p3_o0_x8_y, w2, w3, h5, decide_true, cond_true]
      simp
    · simp only [hroom, if_false, Option.bind_some]
      rw [f8_p4_eq, f8_p3_eq, reftext_eq s hu hs used (by omega), alive]
      have h5 : ¬ (data.length : Int) > 128 * (s.length : Int) - used := hroom
      have h6 : ((0 : Int) != 0) = false := rfl
      simp only [h6, cond_false, Option.bind_some, bne_self_eq_false, Bool.not_true, f8_p3_o0_x67_y, f8_p3_o0_x2_y, f8_p3_o0_x0_y, f8_p3_o0_x1_y, f8_p3_o0_x7_y, f8_p3_o0_x8_y, w2, w3, h5, decide_false]
      rw [lays_loop s hu hs used data (by omega) (by omega)]
      simp
  · simp [hm]
end Go.Pe.Try
