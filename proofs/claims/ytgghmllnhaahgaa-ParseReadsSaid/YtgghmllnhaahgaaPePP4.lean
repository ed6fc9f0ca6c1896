/- Numbers, as the reference reads them. -/
import Derived.Test.YtgghmllnhaahgaaPePP3
namespace Go.Pe.Try
open Go.Proofs Go.RowKit
set_option maxRecDepth 100000
set_option linter.unusedSimpArgs false
set_option linter.unusedVariables false
theorem dval_mono (l : List UInt8) (c : UInt8) : dval l ≤ dval (l ++ [c]) := by rw [dval_snoc]; omega
/-- The reference's digits: what they come to, while it is not too big. -/
theorem rdigits (a : List UInt8) (ha : a.length ≤ 70000) (neg : Bool) (s0 : Nat) : ∀ (k j : Nat) (x7 : Int) (x8 : Bool), j ≤ ((a.drop s0).takeWhile digitB).length → ((a.drop s0).takeWhile digitB).length + 1 ≤ k + j →
    x8 = decide (1099511627776 < dval (((a.drop s0).takeWhile digitB).take j)) → (x8 = false → x7 = (dval (((a.drop s0).takeWhile digitB).take j) : Int)) → (0 ≤ x7 ∧ x7 ≤ 20000000000000) →
    ∃ z, iter f27_p4_st k (f27_p4_y a ((s0 + j : Nat) : Int) neg (s0 : Int) x7 x8 0 0 [] 0 0 0) = some (f27_p4_o0_y a ((s0 + ((a.drop s0).takeWhile digitB).length : Nat) : Int) neg (s0 : Int) z (decide (1099511627776 < dval ((a.drop s0).takeWhile digitB))) 0 0 [] 0 0 0) ∧ (dval ((a.drop s0).takeWhile digitB) ≤ 1099511627776 → z = (dval ((a.drop s0).takeWhile digitB) : Int)) := by
  obtain ⟨t, ht⟩ : ∃ t, t = a.drop s0 := ⟨_, rfl⟩
  rw [← ht]
  have htl : t.length = a.length - s0 := by rw [ht]; simp
  obtain ⟨ds, hds⟩ : ∃ ds, ds = t.takeWhile digitB := ⟨_, rfl⟩
  have hdl : ds.length ≤ t.length := by rw [hds]; exact tw_len t
  have hdd : ofDigits ds := by rw [hds]; exact tw_digits t
  rw [← hds]
  intro k
  induction k with
  | zero => intro j x7 x8 h1 h2; omega
  | succ k ih =>
    intro j x7 x8 h1 h2 h8 h7 hr
    rw [iter, f27_p4_eq]
    have hget : ∀ i, i < t.length → ∃ h : s0 + i < a.length, a[s0 + i] = t[i]! := by
      intro i hi
      refine ⟨by omega, ?_⟩
      have : t[i]? = a[s0 + i]? := by rw [ht, List.getElem?_drop]
      rw [List.getElem!_eq_getElem?_getD, this, List.getElem?_eq_getElem (by omega)]; rfl
    rcases Nat.lt_or_ge j ds.length with hj | hj
    · -- a digit
      have hjt : j < t.length := by omega
      obtain ⟨hlt, hg⟩ := hget j hjt
      have hcj : t[j]! = ds[j] := by
        rw [getElem!_pos t j hjt]
        have := tw_get t j (by rw [← hds]; exact hj)
        rw [this]; simp only [hds]
      rw [hcj] at hg
      have hdg := digitB_iff.1 (hdd _ (List.getElem_mem hj))
      have hlt' : ((s0 + j : Nat) : Int) < (a.length : Int) := by omega
      have e1 : ((ds[j].toNat : Int) ≥ 48) := by omega
      have e2 : ((ds[j].toNat : Int) ≤ 57) := by omega
      have hn : nth a ((s0 + j : Nat) : Int) = some ds[j] := by rw [nth_lt hlt, hg]
      rw [hn]
      simp only [hlt', decide_true, cond_true, Option.bind_some, e1, e2]
      have htk : ds.take (j + 1) = ds.take j ++ [ds[j]] := by rw [List.take_append_getElem hj]
      have hsn : dval (ds.take (j + 1)) = 10 * dval (ds.take j) + (ds[j].toNat - 48) := by rw [htk, dval_snoc]
      rw [f27_p1_eq, hn]
      have hw1 : IntKind.i64.wrap (((s0 + j : Nat) : Int) + 1) = ((s0 + (j + 1) : Nat) : Int) := by rw [wrap64 (by omega) (by omega)]; omega
      cases x8 with
      | true =>
        have hbig : 1099511627776 < dval (ds.take j) := by simpa using h8.symm
        simp only [Bool.not_true, cond_false, Option.bind_some, f27_p1_o0_x0_y, f27_p1_o0_x1_y, f27_p1_o0_x5_y, f27_p1_o0_x6_y, f27_p1_o0_x7_y, f27_p1_o0_x8_y, f27_p1_o0_r0_0_y, f27_p1_o0_r0_1_y, f27_p1_o0_r0_2_y, f27_p1_o0_r0_5_y, f27_p1_o0_r0_6_y, f27_p1_o0_r0_7_y]
        have hp0 : f27_p0_F (f27_p0_y a ((s0 + j : Nat) : Int) neg (s0 : Int) x7 true 0 0 [] 0 0 0) = some (f27_p0_o0_y a ((s0 + j : Nat) : Int) neg (s0 : Int) x7 true 0 0 [] 0 0 0) := by
          rw [f27_p0_eq]; cases decide (x7 > 1099511627776) <;> rfl
        rw [hp0]
        simp only [Option.bind_some, f27_p0_o0_x0_y, f27_p0_o0_x1_y, f27_p0_o0_x5_y, f27_p0_o0_x6_y, f27_p0_o0_x7_y, f27_p0_o0_x8_y, f27_p0_o0_r0_0_y, f27_p0_o0_r0_1_y, f27_p0_o0_r0_2_y, f27_p0_o0_r0_5_y, f27_p0_o0_r0_6_y, f27_p0_o0_r0_7_y, hw1]
        exact ih (j + 1) x7 true (by omega) (by omega) (by simp only [Bool.true_eq, decide_eq_true_eq]; omega) (by simp) hr
      | false =>
        have hsmall : ¬ 1099511627776 < dval (ds.take j) := by simpa using h8.symm
        have hx7 := h7 rfl
        subst hx7
        simp only [Bool.not_false, cond_true, Option.bind_some, f27_p1_o0_x0_y, f27_p1_o0_x1_y, f27_p1_o0_x5_y, f27_p1_o0_x6_y, f27_p1_o0_x7_y, f27_p1_o0_x8_y, f27_p1_o0_r0_0_y, f27_p1_o0_r0_1_y, f27_p1_o0_r0_2_y, f27_p1_o0_r0_5_y, f27_p1_o0_r0_6_y, f27_p1_o0_r0_7_y]
        have hval : IntKind.i64.wrap (IntKind.i64.wrap ((10 : Int) * (dval (ds.take j) : Int)) + IntKind.i64.wrap (IntKind.u8.wrap ((ds[j].toNat : Int) - 48))) = (dval (ds.take (j + 1)) : Int) := by
          rw [wrapU8 (by omega) (by omega), wrap64 (x := (10 : Int) * _) (by omega) (by omega), wrap64 (x := (_ : Int) - 48) (by omega) (by omega), wrap64 (by omega) (by omega), hsn]; omega
        rw [hval, f27_p0_eq]
        have hc : ((dval (ds.take (j + 1)) : Int) > 1099511627776) ↔ 1099511627776 < dval (ds.take (j + 1)) := by omega
        have hp0 : (bif decide ((dval (ds.take (j + 1)) : Int) > 1099511627776) then some (f27_p0_o0_y a ((s0 + j : Nat) : Int) neg (s0 : Int) (dval (ds.take (j + 1)) : Int) true 0 0 [] 0 0 0) else some (f27_p0_o0_y a ((s0 + j : Nat) : Int) neg (s0 : Int) (dval (ds.take (j + 1)) : Int) false 0 0 [] 0 0 0)) = some (f27_p0_o0_y a ((s0 + j : Nat) : Int) neg (s0 : Int) (dval (ds.take (j + 1)) : Int) (decide (1099511627776 < dval (ds.take (j + 1)))) 0 0 [] 0 0 0) := by
          by_cases hh : 1099511627776 < dval (ds.take (j + 1))
          · rw [decide_eq_true hh, decide_eq_true (hc.2 hh)]; rfl
          · rw [decide_eq_false hh, decide_eq_false (fun h => hh (hc.1 h))]; rfl
        rw [hp0]
        simp only [Option.bind_some, f27_p0_o0_x0_y, f27_p0_o0_x1_y, f27_p0_o0_x5_y, f27_p0_o0_x6_y, f27_p0_o0_x7_y, f27_p0_o0_x8_y, f27_p0_o0_r0_0_y, f27_p0_o0_r0_1_y, f27_p0_o0_r0_2_y, f27_p0_o0_r0_5_y, f27_p0_o0_r0_6_y, f27_p0_o0_r0_7_y, hw1]
        exact ih (j + 1) _ _ (by omega) (by omega) rfl (fun _ => rfl) (by omega)
    · -- no more
      have hje : j = ds.length := by omega
      subst hje
      rw [List.take_length] at h8 h7
      have hout : (some (f27_p4_o0_y a ((s0 + ds.length : Nat) : Int) neg (s0 : Int) x7 x8 0 0 [] 0 0 0) : Option (OutDen f27_p4_outs)) = some (f27_p4_o0_y a ((s0 + ds.length : Nat) : Int) neg (s0 : Int) x7 (decide (1099511627776 < dval ds)) 0 0 [] 0 0 0) := by rw [h8]
      refine ⟨x7, ?_, fun hle => h7 (by rw [h8]; simp; omega)⟩
      rw [← hout]
      rcases Nat.lt_or_ge ds.length t.length with hlt | hge
      · obtain ⟨hlt', hg⟩ := hget ds.length hlt
        have hdr := tw_drop t
        rw [← hds, List.drop_eq_getElem_cons hlt] at hdr
        have hnd := dw_head t _ _ hdr.symm
        have hlti : ((s0 + ds.length : Nat) : Int) < (a.length : Int) := by omega
        have hn : nth a ((s0 + ds.length : Nat) : Int) = some t[ds.length] := by rw [nth_lt hlt', hg, getElem!_pos t _ hlt]
        rw [hn]
        simp only [hlti, decide_true, cond_true, Option.bind_some]
        generalize t[ds.length] = c at hnd
        simp only [digitB, Bool.and_eq_false_iff, decide_eq_false_iff_not] at hnd
        by_cases h48 : (c.toNat : Int) ≥ 48
        · have h57 : ¬ (c.toNat : Int) ≤ 57 := by omega
          simp [h48, h57]
        · simp [h48]
      · have hlti : ¬ ((s0 + ds.length : Nat) : Int) < (a.length : Int) := by omega
        simp only [hlti, decide_false, cond_false]
theorem rbad_eq (a : List UInt8) (ha : a.length ≤ 70000) (neg : Bool) (s0 : Nat) (z : Int) (b : Bool) : f27_p3_F (f27_p3_y a ((s0 + ((a.drop s0).takeWhile digitB).length : Nat) : Int) neg (s0 : Int) z b 0 0 [] 0 0 0) =
    some (f27_p3_o0_y ((s0 + ((a.drop s0).takeWhile digitB).length : Nat) : Int) neg z b (badNum neg ((a.drop s0).takeWhile digitB)) 0 0 [] 0 0 0) := by
  obtain ⟨t, ht⟩ : ∃ t, t = a.drop s0 := ⟨_, rfl⟩
  rw [← ht]
  have htl : t.length = a.length - s0 := by rw [ht]; simp
  obtain ⟨ds, hds⟩ : ∃ ds, ds = t.takeWhile digitB := ⟨_, rfl⟩
  have hdl : ds.length ≤ t.length := by rw [hds]; exact tw_len t
  rw [← hds, f27_p3_eq]
  have hw : IntKind.i64.wrap (((s0 + ds.length : Nat) : Int) - (s0 : Int)) = (ds.length : Int) := by
    rw [show (((s0 + ds.length : Nat) : Int) - (s0 : Int)) = (ds.length : Int) by omega, wrap64 (by omega) (by omega)]
  rw [hw]
  have hfirst : ∀ x l, ds = x :: l → nth a (s0 : Int) = some x := by
    intro x l e
    have h0 : 0 < ds.length := by rw [e]; simp
    have hlt : s0 < a.length := by omega
    rw [nth_lt hlt]
    have h1 := tw_get t 0 (by rw [← hds]; exact h0)
    have h2 : t[0]? = a[s0]? := by rw [ht, List.getElem?_drop]; rfl
    rw [List.getElem?_eq_getElem (by omega), List.getElem?_eq_getElem hlt] at h2
    have h3 := Option.some.inj h2
    rw [← h3, h1]
    simp only [← hds, e]; rfl
  match hd : ds with
  | [] => simp [badNum]
  | [x] =>
    rw [hfirst x [] rfl]
    have hne : ((((s0 + [x].length : Nat) : Int)) == (s0 : Int)) = false := by simp; omega
    have hx : ((x.toNat : Int) == 48) = (x == 48) := by
      rw [Bool.eq_iff_iff]; simp only [beq_iff_eq]; rw [← UInt8.toNat_inj]; simp only [UInt8.reduceToNat]; omega
    simp only [Option.bind_some]
    rw [hne, hx]
    cases neg <;> cases hxx : (x == 48) <;> simp [badNum, hxx] <;> simp_all
  | x :: y :: l =>
    rw [hfirst x (y :: l) rfl]
    have hne : ((((s0 + (x :: y :: l).length : Nat) : Int)) == (s0 : Int)) = false := by simp only [List.length_cons, beq_eq_false_iff_ne, ne_eq]; omega
    have hx : ((x.toNat : Int) == 48) = decide (x = 48) := by
      rw [Bool.eq_iff_iff]; simp only [beq_iff_eq, decide_eq_true_eq]; rw [← UInt8.toNat_inj]; simp only [UInt8.reduceToNat]; omega
    have hb : badNum neg (x :: y :: l) = decide (x = 48) := by
      simp only [badNum, List.length_cons, List.head?_cons]
      by_cases h48 : x = 48
      · simp [h48]
      · simp [h48]
    simp only [Option.bind_some]
    rw [hne, hx, hb]
    have h2 : (((x :: y :: l).length : Int)) > 1 := by simp only [List.length_cons]; omega
    have h3 : ((((x :: y :: l).length : Int)) == 1) = false := by simp only [List.length_cons, beq_eq_false_iff_ne, ne_eq]; omega
    rw [h3]
    simp only [h2, decide_true, cond_true, cond_false, Option.bind_some]
    by_cases h48 : x = 48
    · simp [h48]
    · cases neg <;> simp [h48]
theorem rnumber_eq (a : List UInt8) (ha : a.length ≤ 70000) (i : Nat) (c : UInt8) (r : List UInt8) (hi : a.drop i = c :: r) : f27_F (a, ((i : Int), ())) = some (match num (a.drop i) with
    | .error e => rv v0 0 0 e
    | .ok (v, r) => rv ⟨1, v, [], [], []⟩ (a.length - r.length) 0 0) := by
  have hil : i < a.length := by
    rcases drop_cases a i with ⟨_, e⟩ | ⟨h, _⟩
    · rw [e] at hi; cases hi
    · exact h
  have hc : a[i] = c ∧ a.drop (i + 1) = r := by
    rw [List.drop_eq_getElem_cons hil] at hi
    simp only [List.cons.injEq] at hi; exact hi
  have e45 : ((c.toNat : Int) == 45) = decide (c = 45) := by
    rw [Bool.eq_iff_iff]; simp only [beq_iff_eq, decide_eq_true_eq]; rw [← UInt8.toNat_inj]; simp only [UInt8.reduceToNat]; omega
  have key : ∀ (neg : Bool) (s0 : Nat), s0 ≤ a.length → f27_p5_F (f27_p5_y a (i : Int) neg 0 0 [] 0 0 0) = some (f27_p5_o0_y a (s0 : Int) neg 0 0 [] 0 0 0) → decide (c = 45) = neg →
      f27_F (a, ((i : Int), ())) = some (match numS neg (a.drop s0) with | .error e => rv v0 0 0 e | .ok (v, r) => rv ⟨1, v, [], [], []⟩ (a.length - r.length) 0 0) := by
    intro neg s0 hs0 hp hneg
    rw [f27_eq, nth_lt hil, hc.1, Option.bind_some, e45, hneg, hp]
    simp only [Option.bind_some, f27_p5_o0_x0_y, f27_p5_o0_x1_y, f27_p5_o0_x5_y, f27_p5_o0_r0_0_y, f27_p5_o0_r0_1_y, f27_p5_o0_r0_2_y, f27_p5_o0_r0_5_y, f27_p5_o0_r0_6_y, f27_p5_o0_r0_7_y]
    have htl : (a.drop s0).length = a.length - s0 := by simp
    have hdl := tw_len (a.drop s0)
    obtain ⟨z, hz, hz2⟩ := rdigits a ha neg s0 (fuelOf f27_p4_sh (f27_p4_y a (s0 : Int) neg (s0 : Int) 0 false 0 0 [] 0 0 0)) 0 0 false (by omega) (by rw [fuel_def]; omega) (by simp [dval]) (by simp [dval]) (by omega)
    unfold go
    rw [show ((s0 : Int)) = ((s0 + 0 : Nat) : Int) by simp] at hz
    simp only [Nat.add_zero] at hz
    rw [hz]
    simp only [Option.bind_some, f27_p4_o0_x0_y, f27_p4_o0_x1_y, f27_p4_o0_x5_y, f27_p4_o0_x6_y, f27_p4_o0_x7_y, f27_p4_o0_x8_y, f27_p4_o0_r0_0_y, f27_p4_o0_r0_1_y, f27_p4_o0_r0_2_y, f27_p4_o0_r0_5_y, f27_p4_o0_r0_6_y, f27_p4_o0_r0_7_y]
    rw [rbad_eq a ha]
    simp only [Option.bind_some, f27_p3_o0_x76_y, f27_p3_o0_x8_y, f27_p3_o0_x1_y, f27_p3_o0_x5_y, f27_p3_o0_x7_y, f27_p3_o0_r0_0_y, f27_p3_o0_r0_1_y, f27_p3_o0_r0_2_y, f27_p3_o0_r0_5_y, f27_p3_o0_r0_6_y, f27_p3_o0_r0_7_y]
    unfold numS
    have hdw : a.length - ((a.drop s0).dropWhile digitB).length = s0 + ((a.drop s0).takeWhile digitB).length := by
      have := congrArg List.length (tw_dw (a.drop s0)); rw [List.length_append] at this; omega
    cases hb : badNum neg ((a.drop s0).takeWhile digitB) with
    | true => simp only [cond_true, if_true]; rfl
    | false =>
      simp only [cond_false, Bool.false_eq_true, if_false]
      by_cases hbig : 1099511627776 < dval ((a.drop s0).takeWhile digitB)
      · simp only [hbig, decide_true, cond_true, or_true, if_true]; rfl
      · have hle := Nat.le_of_not_lt hbig
        have h13 : ¬ 13 < ((a.drop s0).takeWhile digitB).length := by
          intro h
          have hh : ((a.drop s0).takeWhile digitB).head? ≠ some 48 := by
            intro e
            simp only [badNum, Bool.or_eq_false_iff] at hb
            have := hb.1.2
            rw [e] at this
            simp only [BEq.rfl, Bool.and_true, decide_eq_false_iff_not] at this
            omega
          have := dval_ge (((a.drop s0).takeWhile digitB).length - 1) _ (by omega) (tw_digits _) hh
          have h2 : (10 : Nat) ^ 13 ≤ 10 ^ (((a.drop s0).takeWhile digitB).length - 1) := Nat.pow_le_pow_right (by omega) (by omega)
          omega
        simp only [hbig, decide_false, cond_false, h13, or_self, if_false]
        rw [hz2 hle, f27_p2_eq]
        cases neg with
        | true =>
          rw [wrap64 (by omega) (by omega)]
          simp only [cond_true, Option.bind_some, f27_p2_o0_x7_y, f27_p2_o0_x1_y, if_true, hdw, Int.zero_sub]; rfl
        | false =>
          simp only [cond_false, Option.bind_some, f27_p2_o0_x7_y, f27_p2_o0_x1_y, Bool.false_eq_true, if_false, hdw]; rfl
  rw [hi]
  unfold num
  by_cases h : c = 45
  · rw [key true (i + 1) (by omega) (by rw [f27_p5_eq, wrap64 (by omega) (by omega)]; rfl) (by simp [h]), hc.2]
    simp only [h, if_true]
  · rw [key false i (by omega) (by rw [f27_p5_eq]; rfl) (by simp [h]), hi]
    simp only [h, if_false]
end Go.Pe.Try
