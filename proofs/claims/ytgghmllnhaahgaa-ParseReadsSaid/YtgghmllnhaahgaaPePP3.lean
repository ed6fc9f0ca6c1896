/- Numbers, as the parser reads them. -/
import Derived.Test.YtgghmllnhaahgaaPePP2
namespace Go.Pe.Try
open Go.Proofs Go.RowKit
set_option maxRecDepth 100000
set_option linter.unusedSimpArgs false
set_option linter.unusedVariables false
def dval (l : List UInt8) : Nat := l.foldl (fun v c => 10 * v + (c.toNat - 48)) 0
theorem dval_snoc (l : List UInt8) (c : UInt8) : dval (l ++ [c]) = 10 * dval l + (c.toNat - 48) := by simp [dval, List.foldl_append]
def ofDigits (ds : List UInt8) : Prop := ∀ c ∈ ds, digitB c = true
theorem digitB_iff {c : UInt8} : digitB c = true ↔ 48 ≤ c.toNat ∧ c.toNat ≤ 57 := by simp [digitB]
theorem dval_lt : ∀ (n : Nat) (ds : List UInt8), ds.length = n → ofDigits ds → dval ds + 1 ≤ 10 ^ n
  | 0, ds, h, _ => by rw [List.eq_nil_of_length_eq_zero h]; simp [dval]
  | n + 1, ds, h, hd => by
    obtain ⟨l, c, rfl⟩ : ∃ l c, ds = l ++ [c] := by
      rcases List.eq_nil_or_concat ds with rfl | ⟨l, c, rfl⟩
      · simp at h
      · exact ⟨l, c, by simp⟩
    have := dval_lt n l (by simpa using h) fun c hc => hd c (by simp [hc])
    have hc := digitB_iff.1 (hd c (by simp))
    rw [dval_snoc, Nat.pow_succ]; omega
/-- Without a leading zero. -/
theorem dval_ge : ∀ (n : Nat) (ds : List UInt8), ds.length = n + 1 → ofDigits ds → ds.head? ≠ some 48 → 10 ^ n ≤ dval ds
  | 0, ds, h, hd, h0 => by
    match ds, h with
    | [c], _ =>
      have hc := digitB_iff.1 (hd c (by simp))
      have : c.toNat ≠ 48 := fun e => h0 (by simp; rw [← UInt8.toNat_inj]; simpa using e)
      simp [dval]; omega
  | n + 1, ds, h, hd, h0 => by
    obtain ⟨l, c, rfl⟩ : ∃ l c, ds = l ++ [c] := by
      rcases List.eq_nil_or_concat ds with rfl | ⟨l, c, rfl⟩
      · simp at h
      · exact ⟨l, c, by simp⟩
    have hl : l.length = n + 1 := by simpa using h
    have := dval_ge n l hl (fun c hc => hd c (by simp [hc])) (by
      match l, hl with
      | x :: l, _ => simpa using h0)
    rw [dval_snoc, Nat.pow_succ]; omega
def badNum (neg : Bool) (ds : List UInt8) : Bool := ds.length == 0 || (decide (1 < ds.length) && ds.head? == some 48) || (ds == [48] && neg)
def numS (neg : Bool) (t : List UInt8) : Except Int (Int × List UInt8) :=
  if badNum neg (t.takeWhile digitB) = true then .error 20
  else if 13 < (t.takeWhile digitB).length ∨ 1099511627776 < dval (t.takeWhile digitB) then .error 2
  else .ok (if neg = true then -(dval (t.takeWhile digitB) : Int) else (dval (t.takeWhile digitB) : Int), t.dropWhile digitB)
def num (t : List UInt8) : Except Int (Int × List UInt8) := match t with
  | [] => .error 3
  | c :: r => if c = 45 then numS true r else numS false (c :: r)
def sgn (neg : Bool) : Int := if neg = true then -1 else 1
theorem tw_digits (t : List UInt8) : ofDigits (t.takeWhile digitB) := fun c hc => by
  induction t with
  | nil => simp at hc
  | cons x t ih =>
    simp only [List.takeWhile_cons] at hc
    split at hc
    · rename_i h
      rcases List.mem_cons.1 hc with rfl | hc
      · exact h
      · exact ih hc
    · simp at hc
theorem tw_dw (t : List UInt8) : t.takeWhile digitB ++ t.dropWhile digitB = t := List.takeWhile_append_dropWhile
theorem tw_take (t : List UInt8) : t.take (t.takeWhile digitB).length = t.takeWhile digitB := by
  conv => lhs; arg 2; rw [← tw_dw t]
  rw [List.take_left']; rfl
theorem tw_drop (t : List UInt8) : t.drop (t.takeWhile digitB).length = t.dropWhile digitB := by
  conv => lhs; arg 2; rw [← tw_dw t]
  rw [List.drop_left']; rfl
theorem tw_len (t : List UInt8) : (t.takeWhile digitB).length ≤ t.length := by
  have := congrArg List.length (tw_dw t); rw [List.length_append] at this; omega
theorem tw_get (t : List UInt8) (i : Nat) (h : i < (t.takeWhile digitB).length) : t[i]'(Nat.lt_of_lt_of_le h (tw_len t)) = (t.takeWhile digitB)[i] := by
  have : t[i]? = (t.takeWhile digitB)[i]? := by
    conv => lhs; arg 1; rw [← tw_dw t]
    rw [List.getElem?_append_left h]
  rw [List.getElem?_eq_getElem (Nat.lt_of_lt_of_le h (tw_len t)), List.getElem?_eq_getElem h] at this
  exact Option.some.inj this
theorem dw_head (t : List UInt8) (c : UInt8) (r : List UInt8) (h : t.dropWhile digitB = c :: r) : digitB c = false := by
  induction t with
  | nil => simp at h
  | cons x t ih =>
    simp only [List.dropWhile_cons] at h
    split at h
    · exact ih h
    · rename_i hx
      simp only [List.cons.injEq] at h
      rw [← h.1]; simpa using hx
/-- How many digits there are. -/
theorem count_eq (t : List UInt8) (ht : t.length ≤ 70000) (x n : Int) : go h38_p5_st (h38_p5_y x 0 t n 0 0 []) = some (h38_p5_o0_y x ((t.takeWhile digitB).length : Int) t n 0 0 []) := by
  refine go_seq (y := fun i => h38_p5_y x (i : Int) t n 0 0 []) (n := (t.takeWhile digitB).length) (fun i hi rec => ?_) (fun rec => ?_) (by have := tw_len t; rw [fuel_def]; omega)
  · have hlt := Nat.lt_of_lt_of_le hi (tw_len t)
    rw [h38_p5_eq, nth_lt hlt, tw_get t i hi]
    have hd := tw_digits t _ (List.getElem_mem hi)
    have : (i : Int) < (t.length : Int) := by omega
    simp only [this, decide_true, cond_true, Option.bind_some]
    rw [digit_eq, hd, wrap64 (by omega) (by omega)]
    rfl
  · rw [h38_p5_eq]
    by_cases h : (t.takeWhile digitB).length < t.length
    · have : ((t.takeWhile digitB).length : Int) < (t.length : Int) := by omega
      rw [nth_lt h]
      simp only [this, decide_true, cond_true, Option.bind_some]
      rw [digit_eq]
      have hdr := tw_drop t
      rw [List.drop_eq_getElem_cons h] at hdr
      rw [dw_head t _ _ hdr.symm]
      rfl
    · have : ¬ ((t.takeWhile digitB).length : Int) < (t.length : Int) := by omega
      simp [this]
theorem bad_eq (neg : Bool) (ds r : List UInt8) (n : Int) : h38_p2_F (h38_p2_y (sgn neg) (ds.length : Int) ds r n 0 0 []) = some (h38_p2_o0_y (sgn neg) (ds.length : Int) ds (badNum neg ds) r n 0 0 []) := by
  have hs : decide (sgn neg < 0) = neg := by cases neg <;> decide
  rw [h38_p2_eq, hs]
  match ds with
  | [] => simp [badNum]
  | [x] =>
    by_cases hx : x = 48
    · subst hx; cases neg <;> simp [badNum]
    · have : (x == 48) = false := by simpa using hx
      simp [badNum, this]
  | x :: y :: l =>
    have h1 : ¬ ((((x :: y :: l).length : Int)) = 0) := by simp only [List.length_cons]; omega
    have h2 : (((x :: y :: l).length : Int)) > 1 := by simp only [List.length_cons]; omega
    have hx : ((x.toNat : Int) == 48) = decide (x = 48) := by
      rw [Bool.eq_iff_iff]; simp only [beq_iff_eq, decide_eq_true_eq]; rw [← UInt8.toNat_inj]; simp only [UInt8.reduceToNat]; omega
    have h3 : nth (x :: y :: l) (0 : Int) = some x := by simp [nth]
    rw [h3, Option.bind_some, hx]
    have hb : badNum neg (x :: y :: l) = decide (x = 48) := by
      simp only [badNum, List.length_cons, List.head?_cons]
      by_cases h48 : x = 48
      · simp [h48]
      · simp [h48]
    rw [hb]
    have hl0 : (x :: y :: l == ([48] : List UInt8)) = false := by simp
    generalize ((x :: y :: l).length : Int) = m at *
    have h1b : (m == 0) = false := by simpa using h1
    by_cases h48 : x = 48
    · simp [h1b, h2, h48]
    · simp [h1b, h2, h48]
theorem value_eq (x n : Int) (ds r : List UInt8) (hd : ofDigits ds) (hl : ds.length ≤ 13) : go h38_p0_st (h38_p0_y x ds 0 (ds.length : Int) 0 r n 0 0 []) = some (h38_p0_o0_y x (dval ds : Int) r n 0 0 []) := by
  have hb : ∀ i, i ≤ ds.length → dval (ds.take i) + 1 ≤ 10 ^ 13 := fun i hi =>
    Nat.le_trans (dval_lt i _ (by simp; omega) fun c hc => hd c (List.mem_of_mem_take hc)) (Nat.pow_le_pow_right (by omega) (by omega))
  refine go_seq (y := fun i => h38_p0_y x ds (dval (ds.take i) : Int) (ds.length : Int) (i : Int) r n 0 0 []) (n := ds.length) (fun i hi rec => ?_) (fun rec => ?_) (by rw [fuel_def]; omega)
  · rw [h38_p0_eq, nth_lt hi]
    have hc := digitB_iff.1 (hd _ (List.getElem_mem hi))
    have h1 := hb i (by omega)
    have : (i : Int) < (ds.length : Int) := by omega
    simp only [this, decide_true, cond_true, Option.bind_some]
    rw [wrapU8 (by omega) (by omega), wrap64 (x := (10 : Int) * _) (by omega) (by omega), wrap64 (x := (_ : Int) - 48) (by omega) (by omega), wrap64 (x := _ + _) (by omega) (by omega), wrap64 (by omega) (by omega)]
    have e : ds.take (i + 1) = ds.take i ++ [ds[i]] := by rw [List.take_append_getElem hi]
    have e2 : (10 : Int) * (dval (ds.take i) : Int) + ((ds[i].toNat : Int) - 48) = (dval (ds.take (i + 1)) : Int) := by rw [e, dval_snoc]; omega
    rw [e2]; rfl
  · rw [h38_p0_eq]
    simp [List.take_length]
theorem number_of (neg : Bool) (t0 t : List UInt8) (ht : t.length ≤ 70000) (n : Int) (hp : h38_p6_F (h38_p6_y 1 t0 n 0 0 []) = some (h38_p6_o0_y (sgn neg) t n 0 0 [])) : h38_F (h38_y t0 n) = some (match numS neg t with
    | .error e => .inr (h38_z_y e)
    | .ok (v, r) => .inl (h38_o_y 1 v [] [] [] r n)) := by
  have hl := tw_len t
  rw [h38_eq, hp]
  simp only [Option.bind_some, h38_p6_o0_x3_y, h38_p6_o0_r0_0_y, h38_p6_o0_r0_1_y, h38_p6_o0_r1_0_y, h38_p6_o0_r1_1_y, h38_p6_o0_r1_2_y]
  rw [count_eq t ht]
  simp only [Option.bind_some, h38_p5_o0_r0_0_y, h38_p5_o0_x4_y, h38_p5_o0_x3_y, h38_p5_o0_r0_1_y, h38_p5_o0_r1_0_y, h38_p5_o0_r1_1_y, h38_p5_o0_r1_2_y]
  rw [cutHi_nat' _ _ _ hl, tw_take, h38_p4_eq, cutLo_nat' _ _ _ hl, tw_drop, bad_eq]
  unfold numS
  cases hb : badNum neg (t.takeWhile digitB) with
  | true => simp [h12_eq]
  | false =>
    simp only [Option.bind_some, h38_p2_o0_x73_y, cond_false, h38_p2_o0_x3_y, h38_p2_o0_x4_y, h38_p2_o0_x5_y, h38_p2_o0_r0_0_y, h38_p2_o0_r0_1_y, h38_p2_o0_r1_0_y, h38_p2_o0_r1_1_y, h38_p2_o0_r1_2_y, h38_p4_o0_x3_y, h38_p4_o0_x4_y, h38_p4_o0_x5_y, h38_p4_o0_r0_0_y, h38_p4_o0_r0_1_y, h38_p4_o0_r1_0_y, h38_p4_o0_r1_1_y, h38_p4_o0_r1_2_y, Bool.false_eq_true, if_false]
    rw [h38_p3_eq]
    by_cases h13 : 13 < (t.takeWhile digitB).length
    · have : ((t.takeWhile digitB).length : Int) > 13 := by omega
      simp [this, h13, h12_eq]
    · have : ¬ ((t.takeWhile digitB).length : Int) > 13 := by omega
      simp only [this, decide_false, cond_false, Option.bind_some, h38_p3_o0_x3_y, h38_p3_o0_x4_y, h38_p3_o0_x5_y, h38_p3_o0_x6_y, h38_p3_o0_r0_0_y, h38_p3_o0_r0_1_y, h38_p3_o0_r1_0_y, h38_p3_o0_r1_1_y, h38_p3_o0_r1_2_y]
      rw [value_eq _ _ _ _ (tw_digits t) (by omega)]
      simp only [Option.bind_some, h38_p0_o0_x3_y, h38_p0_o0_x6_y, h38_p0_o0_r0_0_y, h38_p0_o0_r0_1_y, h38_p0_o0_r1_0_y, h38_p0_o0_r1_1_y, h38_p0_o0_r1_2_y]
      rw [h38_p1_eq]
      by_cases h40 : 1099511627776 < dval (t.takeWhile digitB)
      · have : (dval (t.takeWhile digitB) : Int) > 1099511627776 := by omega
        simp [this, h40, h12_eq]
      · have : ¬ (dval (t.takeWhile digitB) : Int) > 1099511627776 := by omega
        simp only [this, decide_false, cond_false, Option.bind_some, h38_p1_o0_x3_y, h38_p1_o0_x6_y, h38_p1_o0_r0_0_y, h38_p1_o0_r0_1_y, h38_p1_o0_r1_0_y, h38_p1_o0_r1_1_y, h38_p1_o0_r1_2_y, h13, h40, or_self, if_false]
        rw [f45_eq]
        have hv : IntKind.i64.wrap (sgn neg * (dval (t.takeWhile digitB) : Int)) = if neg = true then -(dval (t.takeWhile digitB) : Int) else (dval (t.takeWhile digitB) : Int) := by
          cases neg with
          | true => simp only [sgn, if_true]; rw [wrap64 (by omega) (by omega)]; omega
          | false => simp only [sgn, Bool.false_eq_true, if_false]; rw [wrap64 (by omega) (by omega)]; omega
        rw [hv]
        rfl
theorem number_eq (t : List UInt8) (ht : t.length ≤ 70000) (n : Int) (h0 : t ≠ []) : h38_F (h38_y t n) = some (match num t with
    | .error e => .inr (h38_z_y e)
    | .ok (v, r) => .inl (h38_o_y 1 v [] [] [] r n)) := by
  cases t with
  | nil => exact absurd rfl h0
  | cons c r =>
    have e45 : ((c.toNat : Int) == 45) = decide (c = 45) := by
      rw [Bool.eq_iff_iff]; simp only [beq_iff_eq, decide_eq_true_eq]; rw [← UInt8.toNat_inj]; simp only [UInt8.reduceToNat]; omega
    have hn : nth (c :: r) (0 : Int) = some c := by simp [nth]
    have hr : r.length ≤ 70000 := by simp only [List.length_cons] at ht; omega
    unfold num
    by_cases h : c = 45
    · rw [number_of true (c :: r) r hr n (by rw [h38_p6_eq, hn, Option.bind_some, e45, h]; simp only [decide_true, cond_true, cutLo_one]; rfl)]
      simp only [h, if_true]
    · rw [number_of false (c :: r) (c :: r) ht n (by rw [h38_p6_eq, hn, Option.bind_some, e45]; simp only [h, decide_false, cond_false]; rfl)]
      simp only [h, if_false]
end Go.Pe.Try
