/- Laying, writing, and the document's sectors. -/
import Derived.Test.YtgkolhopfiogpaaPeX18b
namespace Go.Pe.Try
open Go.Proofs Go.RowKit Go.Pe.X18
set_option maxRecDepth 100000
theorem tdiv128 (n : Nat) : Int.tdiv (n : Int) 128 = ((n / 128 : Nat) : Int) := by
  rw [Int.tdiv_eq_ediv_of_nonneg (by omega)]; omega
theorem lay_loop (used : Nat) (data all : List UInt8) (hd : data ≠ []) (ha : all.length ≤ 8448) (hall : used + data.length ≤ all.length) (h128 : all.length % 128 = 0) :
    go f31_p0_st (f31_p0_y used data all ((used / 128 : Nat) : Int) []) = some (f31_p0_o0_y (writes all (used / 128) (many used data))) := by
  have hp : 0 < data.length := List.length_pos_iff.2 hd
  have hm : many used data = (used + data.length + 127) / 128 - used / 128 := by unfold many; rw [if_neg hd]
  refine go_seq (y := fun i => f31_p0_y used data all ((used / 128 + i : Nat) : Int) (writes all (used / 128) i)) (n := many used data) (fun i hi rec => ?_) (fun rec => ?_) ?_
  · rw [f31_p0_eq]
    have w1 : IntKind.i64.wrap (((used / 128 + i : Nat) : Int) * 128) = (((used / 128 + i) * 128 : Nat) : Int) := by rw [wrap64 (by omega) (by omega)]; omega
    have w2 : IntKind.i64.wrap ((used : Int) + (data.length : Int)) = ((used + data.length : Nat) : Int) := by rw [wrap64 (by omega) (by omega)]; omega
    have w3 : IntKind.i64.wrap (((used / 128 + i : Nat) : Int) + 1) = ((used / 128 + (i + 1) : Nat) : Int) := by rw [wrap64 (by omega) (by omega)]; omega
    have w4 : IntKind.i64.wrap (((used / 128 + (i + 1) : Nat) : Int) * 128) = (((used / 128 + i + 1) * 128 : Nat) : Int) := by rw [wrap64 (by omega) (by omega)]; omega
    rw [w1, w2, w3, w4, cutMid_nat' _ _ _ _ (by omega) (by omega), appOk_lt (by rw [writes_len]; simp; omega)]
    have h3 : (((used / 128 + i) * 128 : Nat) : Int) < ((used + data.length : Nat) : Int) := by omega
    simp only [h3, decide_true, cond_true]
    rw [writes_snoc]; rfl
  · rw [f31_p0_eq]
    have w1 : IntKind.i64.wrap (((used / 128 + many used data : Nat) : Int) * 128) = (((used / 128 + many used data) * 128 : Nat) : Int) := by rw [wrap64 (by omega) (by omega)]; omega
    have w2 : IntKind.i64.wrap ((used : Int) + (data.length : Int)) = ((used + data.length : Nat) : Int) := by rw [wrap64 (by omega) (by omega)]; omega
    rw [w1, w2]
    have h3 : ¬ (((used / 128 + many used data) * 128 : Nat) : Int) < ((used + data.length : Nat) : Int) := by omega
    simp only [h3, decide_false, cond_false]
  · simp only [f31_p0_y, fuelOf, fuelL, SAV.fuel, Ty.fuel, fuelR, fuelT]; omega
theorem repeat_zero (n : Nat) (h : n ≤ 8448) : repeatF ([0], ((n : Int), ())) = some (List.replicate n 0, ()) := by
  unfold repeatF
  simp only [Int.toNat_natCast, List.length_singleton, Nat.one_mul]
  rw [if_pos (show (0 : Int) ≤ (n : Int) ∧ (n : Int) ≤ 9223372036854775807 ∧ n ≤ 140737488355328 from ⟨by omega, by omega, by omega⟩)]
  congr 2
  clear h
  induction n with
  | zero => rfl
  | succ n ih => rw [Lib.repeatL, List.replicate_succ, ih]; rfl
/-- Lay. -/
theorem lay_eq (s : List (List UInt8)) (used : Int) (data : List UInt8) (hl : s.length ≤ 66) (hd : data.length ≤ 8448) (hr : -9223372036854775808 ≤ used ∧ used < 9223372036854775808) : f31_F (s, (used, (data, ()))) =
    if May s used then (if (data.length : Int) > 128 * s.length - used then some ([], (40, ())) else some (lays s used.toNat data, (0, ()))) else some ([], (1, ())) := by
  rw [f31_eq, may_eq s used hl, Option.bind_some]
  by_cases h : May s used
  · rw [if_pos h]
    obtain ⟨n, rfl⟩ := Int.eq_ofNat_of_zero_le h.2.2.1
    have h4 := h.2.2.2
    have hu := h.2.1
    have hn : n ≤ 8448 := by omega
    have w1 : IntKind.i64.wrap ((s.length : Int) * 128) = 128 * (s.length : Int) := by rw [wrap64 (by omega) (by omega)]; omega
    have w2 : IntKind.i64.wrap (128 * (s.length : Int) - (n : Int)) = 128 * (s.length : Int) - (n : Int) := wrap64 (by omega) (by omega)
    simp only [h, decide_true, Bool.not_true, cond_false, w1, w2]
    by_cases h5 : (data.length : Int) > 128 * s.length - n
    · simp only [h5, decide_true, cond_true, if_true]
    · simp only [h5, decide_false, cond_false, if_false]
      have hflat := flat_len hu
      by_cases h6 : data = []
      · subst h6
        simp [lays, many, writes]
      · have h7 : (data == []) = false := by simp [h6]
        have w3 : IntKind.i64.wrap (128 * (s.length : Int) - (n : Int) - (data.length : Int)) = ((128 * s.length - n - data.length : Nat) : Int) := by rw [wrap64 (by omega) (by omega)]; omega
        rw [h7, cond_false, bytes_eq s hu hl, Option.bind_some]
        dsimp only
        rw [cutHi_nat' _ _ _ (by omega), if_pos (by rw [List.length_take]; omega), w3, repeat_zero _ (by omega), Option.bind_some, if_pos (by simp only [List.length_append, List.length_take, List.length_replicate]; omega)]
        have hw : s.flatten.take n ++ data ++ List.replicate (128 * s.length - n - data.length) 0 = whole s n data := rfl
        simp only [hw]
        have hwl := whole_len hu (used := n) (data := data) (by omega)
        rw [f31_p1_eq, tdiv128]
        have w4 : IntKind.i64.wrap ((n / 128 : Nat) : Int) = ((n / 128 : Nat) : Int) := wrap64 (by omega) (by omega)
        rw [w4, lay_loop n data _ h6 (by omega) (by omega) (by omega)]
        simp only [Option.bind_some, f31_p1_o0_l0_y, f31_p1_o0_x7_y, f31_p0_o0_l0_y]
        rfl
  · rw [if_neg h]; simp [h]
/-- With. -/
theorem with_eq (s : List (List UInt8)) (l : List (Int × List UInt8)) (hl : s.length ≤ 66) (hl2 : l.length ≤ 8448) (h : ∀ w ∈ l, 0 ≤ w.1 ∧ w.1 < s.length) : f38_F (s, (l, ())) = some (put s l, ()) := by
  rw [f38_eq, appOk_lt (by omega)]
  have hgo : go f38_p0_st (f38_p0_y l l.length 0 s) = some (f38_p0_o0_y (put s l)) := by
    refine go_seq (y := fun i => f38_p0_y l l.length i (put s (l.take i))) (n := l.length) (fun i hi rec => ?_) (fun rec => ?_) ?_
    · have h1 := h l[i] (List.getElem_mem hi)
      obtain ⟨j, hj⟩ := Int.eq_ofNat_of_zero_le h1.1
      have hjn : j < s.length := by omega
      rw [f38_p0_eq, nth_lt hi, Option.bind_some, wrap64 (by omega) (by omega), hj]
      have h3 : (i : Int) < l.length := by omega
      rw [within_lt (by rw [put_len]; exact hjn), Int.toNat_natCast, List.getElem?_eq_getElem (by rw [put_len]; exact hjn), Option.bind_some]
      simp only [h3, decide_true, cond_true]
      have e : put s (l.take (i + 1)) = (put s (l.take i)).set j l[i].2 := by
        rw [List.take_succ_eq_append_getElem hi]
        simp only [put, List.foldl_append, List.foldl_cons, List.foldl_nil, hj, Int.toNat_natCast]
      rw [e]; rfl
    · rw [f38_p0_eq]; simp
    · simp only [f38_p0_y, fuelOf, fuelL, SAV.fuel, Ty.fuel, fuelR, fuelT]; omega
  rw [hgo]; rfl
/-- Written. -/
def Wr (used : Nat) (data : List UInt8) (at_ : Nat) : Prop := used / 128 ≤ at_ ∧ at_ * 128 < used + data.length ∧ data ≠ []
instance (used : Nat) (data : List UInt8) (at_ : Nat) : Decidable (Wr used data at_) := inferInstanceAs (Decidable (_ ∧ _ ∧ _))
theorem written_eq (used : Nat) (data : List UInt8) (at_ : Nat) (hu : used ≤ 8448) (hd : data.length ≤ 8448) : f35_F ((used : Int), (data, ((at_ : Int), ()))) = some (decide (Wr used data at_), ()) := by
  rw [f35_eq]
  have hstep : ∀ i : Nat, i < data.length → IntKind.i64.wrap (Int.tdiv (IntKind.i64.wrap ((used : Int) + (i : Int))) 128) = (((used + i) / 128 : Nat) : Int) ∧ IntKind.i64.wrap ((i : Int) + 1) = ((i + 1 : Nat) : Int) := by
    intro i hi
    have w1 : IntKind.i64.wrap ((used : Int) + (i : Int)) = ((used + i : Nat) : Int) := by rw [wrap64 (by omega) (by omega)]; omega
    rw [w1, tdiv128, wrap64 (by omega) (by omega), wrap64 (by omega) (by omega)]
    exact ⟨rfl, by omega⟩
  by_cases hw : Wr used data at_
  · have hk : ∃ k, k < data.length ∧ (used + k) / 128 = at_ ∧ ∀ i, i < k → (used + i) / 128 ≠ at_ := by
      have hp : 0 < data.length := List.length_pos_iff.2 hw.2.2
      have h1 := hw.1; have h2 := hw.2.1
      by_cases e : at_ = used / 128
      · exact ⟨0, hp, by omega, fun i hi => by omega⟩
      · exact ⟨at_ * 128 - used, by omega, by omega, fun i hi => by omega⟩
    obtain ⟨k, h1, h2, h3⟩ := hk
    have hgo : go f35_p0_st (f35_p0_y used data at_ 0) = some (.inr (f35_p0_o1_y true)) := by
      refine go_seq (y := fun i => f35_p0_y used data at_ i) (n := k) (fun i hi rec => ?_) (fun rec => ?_) ?_
      · obtain ⟨w1, w2⟩ := hstep i (by omega)
        rw [f35_p0_eq, w1, w2]
        have h4 : (i : Int) < data.length := by omega
        have h5 : ((((used + i) / 128 : Nat) : Int) == (at_ : Int)) = false := by have := h3 i hi; simp; omega
        simp only [h4, h5, decide_true, cond_true, cond_false]
      · obtain ⟨w1, w2⟩ := hstep k h1
        rw [f35_p0_eq, w1, w2]
        have h4 : (k : Int) < data.length := by omega
        have h5 : ((((used + k) / 128 : Nat) : Int) == (at_ : Int)) = true := by simp; omega
        simp only [h4, h5, decide_true, cond_true]
      · simp only [f35_p0_y, fuelOf, fuelL, SAV.fuel, Ty.fuel, fuelR, fuelT]; omega
    rw [hgo, Option.bind_some]
    simp [hw]
  · have hno : ∀ i, i < data.length → (used + i) / 128 ≠ at_ := by
      intro i hi e
      apply hw
      refine ⟨by omega, by omega, fun e => by rw [e] at hi; simp at hi⟩
    have hgo : go f35_p0_st (f35_p0_y used data at_ 0) = some (.inl f35_p0_o0_y) := by
      refine go_seq (y := fun i => f35_p0_y used data at_ i) (n := data.length) (fun i hi rec => ?_) (fun rec => ?_) ?_
      · obtain ⟨w1, w2⟩ := hstep i (by omega)
        rw [f35_p0_eq, w1, w2]
        have h4 : (i : Int) < data.length := by omega
        have h5 : ((((used + i) / 128 : Nat) : Int) == (at_ : Int)) = false := by have := hno i hi; simp; omega
        simp only [h4, h5, decide_true, cond_true, cond_false]
      · rw [f35_p0_eq]; simp
      · simp only [f35_p0_y, fuelOf, fuelL, SAV.fuel, Ty.fuel, fuelR, fuelT]; omega
    rw [hgo, Option.bind_some]
    simp [hw]
theorem str_bytes (s : List UInt8) : strOf (bytesOf s) = s := by
  unfold strOf bytesOf
  rw [List.map_map]
  conv => rhs; rw [← List.map_id s]
  congr 1
  funext b
  simp
/-- One byte of the document's sector. -/
theorem byte_eq (s : List (List UInt8)) (hu : Uni s) (hl : s.length ≤ 66) (used : Nat) (data : List UInt8) (hd : data.length ≤ 8448) (h : used + data.length ≤ 128 * s.length) (at_ i : Nat) (hat : at_ < s.length) (hi : i < 128) (l : List Int) (hll : l.length ≤ 128) :
    f36_p0_F (f36_p0_y s used data at_ ((128 * at_ + i : Nat) : Int) l) = some (f36_p0_o0_y s used data at_ ((128 * at_ + i : Nat) : Int) (l ++ [((((chunk (whole s used data) at_)[i]?).getD 0).toNat : Int)])) := by
  rw [f36_p0_eq]
  have hc := chunk_get (whole s used data) at_ i hi
  rw [show at_ * 128 + i = 128 * at_ + i by omega] at hc
  have w1 : IntKind.i64.wrap (128 * (at_ : Int)) = ((128 * at_ : Nat) : Int) := by rw [wrap64 (by omega) (by omega)]; omega
  have w2 : IntKind.i64.wrap (((128 * at_ + i : Nat) : Int) - ((128 * at_ : Nat) : Int)) = (i : Int) := by rw [wrap64 (by omega) (by omega)]; omega
  rw [w1, w2]
  by_cases h1 : 128 * at_ + i < used
  · have h2 : ((128 * at_ + i : Nat) : Int) < (used : Int) := by omega
    have hlen : s[at_].length = 128 := hu _ (List.getElem_mem hat)
    rw [nth_lt hat, Option.bind_some, nth_lt (by omega : i < s[at_].length), Option.bind_some, appOk_lt (by simp; omega)]
    simp only [h2, decide_true, cond_true]
    have : (chunk (whole s used data) at_)[i]? = some (s[at_][i]'(by omega)) := by
      rw [hc, whole_below hu (by omega) h1, flat_get hu, show (128 * at_ + i) / 128 = at_ by omega, show (128 * at_ + i) % 128 = i by omega, List.getElem?_eq_getElem hat, Option.bind_some, List.getElem?_eq_getElem (by omega)]
    rw [this]; rfl
  · have h2 : ¬ ((128 * at_ + i : Nat) : Int) < (used : Int) := by omega
    have w3 : IntKind.i64.wrap (((128 * at_ + i : Nat) : Int) - (used : Int)) = ((128 * at_ + i - used : Nat) : Int) := by rw [wrap64 (by omega) (by omega)]; omega
    rw [w3]
    by_cases h3 : 128 * at_ + i - used < data.length
    · have h4 : ((128 * at_ + i - used : Nat) : Int) < (data.length : Int) := by omega
      rw [nth_lt h3, Option.bind_some, appOk_lt (by simp; omega)]
      simp only [h2, h4, decide_true, decide_false, cond_true, cond_false]
      have : (chunk (whole s used data) at_)[i]? = some (data[128 * at_ + i - used]) := by
        rw [hc, whole_mid hu (by omega) (by omega) h3, List.getElem?_eq_getElem h3]
      rw [this]; rfl
    · have h4 : ¬ ((128 * at_ + i - used : Nat) : Int) < (data.length : Int) := by omega
      rw [appOk_lt (by simp; omega)]
      simp only [h2, h4, decide_false, cond_false]
      have : (chunk (whole s used data) at_)[i]? = some 0 := by
        rw [hc, whole_end hu (by omega) (by omega) (by omega) (by omega)]
      rw [this]; rfl
theorem bytesOf_snoc (s : List UInt8) (i : Nat) (hi : i < s.length) : bytesOf (s.take (i + 1)) = bytesOf (s.take i) ++ [((s[i]?.getD 0).toNat : Int)] := by
  rw [List.take_succ_eq_append_getElem hi, List.getElem?_eq_getElem hi]
  simp only [bytesOf, List.map_append, List.map_cons, List.map_nil, Option.getD_some]
/-- Sector. -/
theorem sector_eq (s : List (List UInt8)) (hu : Uni s) (hl : s.length ≤ 66) (used : Nat) (data : List UInt8) (hd : data.length ≤ 8448) (h : used + data.length ≤ 128 * s.length) (at_ : Nat) (hat : at_ < s.length) :
    f36_F (s, ((used : Int), (data, ((at_ : Int), ())))) = some (chunk (whole s used data) at_, ()) := by
  rw [f36_eq]
  have hcl := chunk_len (whole s used data) at_ (by rw [whole_len hu h]; omega)
  have w1 : IntKind.i64.wrap (128 * (at_ : Int)) = ((128 * at_ + 0 : Nat) : Int) := by rw [wrap64 (by omega) (by omega)]; omega
  rw [w1]
  have hgo : go f36_p1_st (f36_p1_y s used data at_ ((128 * at_ + 0 : Nat) : Int) []) = some (f36_p1_o0_y (bytesOf (chunk (whole s used data) at_))) := by
    refine go_seq (y := fun i => f36_p1_y s used data at_ ((128 * at_ + i : Nat) : Int) (bytesOf ((chunk (whole s used data) at_).take i))) (n := 128) (fun i hi rec => ?_) (fun rec => ?_) ?_
    · rw [f36_p1_eq, byte_eq s hu hl used data hd h at_ i hat hi _ (by simp [bytesOf]; omega), Option.bind_some]
      have w2 : IntKind.i64.wrap (128 * (at_ : Int)) = 128 * (at_ : Int) := wrap64 (by omega) (by omega)
      have w3 : IntKind.i64.wrap (128 * (at_ : Int) + 128) = 128 * (at_ : Int) + 128 := wrap64 (by omega) (by omega)
      have w4 : IntKind.i64.wrap (((128 * at_ + i : Nat) : Int) + 1) = ((128 * at_ + (i + 1) : Nat) : Int) := by rw [wrap64 (by omega) (by omega)]; omega
      have h4 : ((128 * at_ + i : Nat) : Int) < 128 * (at_ : Int) + 128 := by omega
      simp only [w2, w3, h4, decide_true, cond_true, f36_p0_o0_x0_y, f36_p0_o0_x1_y, f36_p0_o0_x2_y, f36_p0_o0_x3_y, f36_p0_o0_x10_y, f36_p0_o0_l0_y, w4]
      rw [bytesOf_snoc _ i (by omega)]
    · rw [f36_p1_eq]
      have w2 : IntKind.i64.wrap (128 * (at_ : Int)) = 128 * (at_ : Int) := wrap64 (by omega) (by omega)
      have w3 : IntKind.i64.wrap (128 * (at_ : Int) + 128) = 128 * (at_ : Int) + 128 := wrap64 (by omega) (by omega)
      have h4 : ¬ ((128 * at_ + 128 : Nat) : Int) < 128 * (at_ : Int) + 128 := by omega
      simp only [w2, w3, h4, decide_false, cond_false]
      rw [List.take_of_length_le (by omega)]
    · have hlen : 128 ≤ s.flatten.length := by rw [flat_len hu]; omega
      simp only [f36_p1_y, fuelOf, fuelL, SAV.fuel, Ty.fuel, fuelR, fuelT]
      omega
  rw [hgo, Option.bind_some]
  simp only [f36_p1_o0_l0_y, str_bytes]
end Go.Pe.Try
