/- Values: which may be, one by one. -/
import Derived.Test.YtgghmllnhaahgaaDoorPeXV3
set_option linter.unusedSectionVars false
set_option linter.unusedVariables false
set_option linter.unusedSimpArgs false
namespace Go.Pe.Tryd
open Go.Proofs Go.RowKit
set_option maxRecDepth 100000
def noIt (items : List V) (keys : List (List UInt8)) : Bool := bif ((items.length : Int) == 0) then ((keys.length : Int) == 0) else false
def mayP (k n : Int) (s : List UInt8) (items : List V) (keys : List (List UInt8)) : Bool :=
  bif k == 1 then (noIt items keys && (s == [] && (decide (n ≥ -1099511627776) && decide (n ≤ 1099511627776))))
  else bif k == 2 then (noIt items keys && (n == 0 && tok s))
  else bif k == 3 then (n == 0 && (s == [] && (keys.length : Int) == 0))
  else (k == 4 && (n == 0 && (s == [] && ((keys.length : Int) == (items.length : Int) && kok keys))))
def may (v : V) : Bool := mayP v.kind v.n v.s v.items v.keys
theorem f37_ok' (v : V) (h : v.items.length ≤ 4000) : f37_F (va v, ()) = some (may v, ()) := by
  obtain ⟨k, n, s, items, keys⟩ := v
  rw [va_mk, f37_eq, f37_p1_eq]
  have hx : (bif ((items.length : Int) == (0 : Int)) then (some ((f37_p1_o0_y ((keys.length : Int) == (0 : Int)) k n s items keys))) else (some ((f37_p1_o0_y false k n s items keys)))) = some (f37_p1_o0_y (noIt items keys) k n s items keys) := by
    unfold noIt
    cases ((items.length : Int) == (0 : Int)) <;> rfl
  rw [hx, Option.bind_some, f37_p1_o0_r0_0_y, f37_p1_o0_r0_1_y, f37_p1_o0_r0_2_y, f37_p1_o0_r0_3_y, f37_p1_o0_r0_4_y, f37_p1_o0_x3_y]
  show _ = some (mayP k n s items keys, ())
  unfold mayP
  generalize noIt items keys = e
  cases k == 1 with
  | true =>
    rw [cond_true, cond_true]
    cases e <;> cases s == [] <;> cases decide (n ≥ -1099511627776) <;> rfl
  | false =>
    rw [cond_false, cond_false]
    cases k == 2 with
    | true =>
      rw [cond_true, cond_true, f57_ok']
      cases e <;> cases n == 0 <;> rfl
    | false =>
      rw [cond_false, cond_false]
      cases k == 3 with
      | true =>
        rw [cond_true, cond_true]
        cases n == 0 <;> cases s == [] <;> rfl
      | false =>
        rw [cond_false, cond_false, f37_p0_eq]
        cases k == 4 with
        | false => rfl
        | true =>
          rw [cond_true]
          cases n == 0 with
          | false => simp only [cond_false, Option.bind_some, f37_p0_o0_x2_y, Bool.false_and, Bool.and_false]
          | true =>
            cases s == [] with
            | false => simp only [cond_true, cond_false, Option.bind_some, f37_p0_o0_x2_y, Bool.false_and, Bool.and_false]
            | true =>
              cases hk : ((keys.length : Int) == (items.length : Int)) with
              | false => simp only [cond_true, cond_false, Option.bind_some, f37_p0_o0_x2_y, Bool.false_and, Bool.and_false]
              | true =>
                have : keys.length = items.length := by have := beq_iff_eq.1 hk; omega
                rw [cond_true, cond_true, cond_true, f58_ok' keys (by simp only [V.items] at h; omega)]
                simp only [Option.bind_some, f37_p0_o0_x2_y, Bool.true_and]
def p3bad (k n : Int) (s : List UInt8) (items : List V) (keys : List (List UInt8)) : Bool :=
  decide (k < 1) || (decide (k > 4) || ((k != 1 && n != 0) || ((k != 2 && s != []) || ((decide (k < 3) && decide ((items.length : Int) > 0)) || (k != 4 && decide ((keys.length : Int) > 0))))))
theorem p3_val (k n : Int) (s : List UInt8) (items : List V) (keys : List (List UInt8)) : f59_p3_F (f59_p3_y k n s items keys) = some (f59_p3_o0_y (p3bad k n s items keys) k n s items keys) := by
  rw [f59_p3_eq]
  unfold p3bad
  generalize decide (k < 1) = a1
  generalize decide (k > 4) = a2
  generalize (k != 1) = a3
  generalize (n != 0) = a4
  generalize (k != 2) = a5
  generalize (s != []) = a6
  generalize decide (k < 3) = a7
  generalize decide ((items.length : Int) > 0) = a8
  generalize (k != 4) = a9
  generalize decide ((keys.length : Int) > 0) = a10
  cases a1 <;> first | rfl | skip
  cases a2 <;> first | rfl | skip
  cases a3 <;> cases a4 <;> first | rfl | skip
  all_goals (cases a5 <;> cases a6 <;> first | rfl | skip)
  all_goals (cases a7 <;> cases a8 <;> first | rfl | skip)
  all_goals (cases a9 <;> rfl)
def p2bad (k n : Int) (s : List UInt8) (items : List V) (keys : List (List UInt8)) : Bool :=
  decide (n < -1099511627776) || (decide (n > 1099511627776) || (!tok s || (k == 4 && (keys.length : Int) != (items.length : Int))))
theorem p2_val (k n : Int) (s : List UInt8) (items : List V) (keys : List (List UInt8)) (hs : s.length ≤ reachBytes) : f59_p2_F (f59_p2_y k n s items keys) = some (f59_p2_o0_y (p2bad k n s items keys) k n s items keys) := by
  rw [f59_p2_eq, f76_ok' s hs]
  unfold p2bad
  cases decide (n < -1099511627776) <;> first | rfl | skip
  cases decide (n > 1099511627776) <;> first | rfl | skip
  simp only [Option.bind_some]
  cases tok s <;> first | rfl | skip
  cases k == 4 <;> rfl
theorem keys_loop (k n : Int) (s : List UInt8) (items : List V) (ks : List (List UInt8)) (h : ks.length ≤ 4000) (hk : ∀ x ∈ ks, x.length ≤ reachBytes) :
    ((go f59_p1_st (f59_p1_y ks (ks.length : Int) (0 : Int) k n s items ks)).bind fun o125 => ((match o125 with | .inl z126 => some (true, ()) | .inr o127 => some ((f59_p1_o1_x2 o127), ())) : Option (argsDen f59_rs))) = some (kok ks, ()) := by
  have hr : (List.range ks.length).length = ks.length := by simp
  have e := go_scan (step := f59_p1_st) (l := List.range ks.length) (fun i => f59_p1_y ks (ks.length : Int) (i : Int) k n s items ks) (kbad ks) (fun i => some (.inr (f59_p1_o1_y false))) (some (.inl f59_p1_o0_y)) (fun i hi rec => by
    have hi' : i < ks.length := by simpa using hi
    rw [f59_p1_eq, lt_t hi', cond_true, nth_lt hi', Option.bind_some, f59_p0_eq, f76_ok' _ (hk _ (List.getElem_mem hi')), Option.bind_some, List.getElem_range]
    dsimp only
    unfold kbad
    rw [getD_lt hi']
    cases ht : tok ks[i] with
    | false => simp only [Bool.not_false, cond_true, Option.bind_some, f59_p0_o0_x108_y, Bool.true_or]
    | true =>
      simp only [Bool.not_true, cond_false, Bool.false_or]
      by_cases h0 : 0 < i
      · have e1 : decide ((i : Int) > 0) = true := by simp; omega
        have h1 : i - 1 < ks.length := by omega
        rw [e1, cond_true, pred_nat h0 (by omega), nth_lt h1, Option.bind_some, f52_ok' _ _ (hk _ (List.getElem_mem h1)), Option.bind_some, Option.bind_some, f59_p0_o0_x108_y, f59_p0_o0_x84_y, f59_p0_o0_x85_y, f59_p0_o0_x86_y, f59_p0_o0_r0_0_y, f59_p0_o0_r0_1_y, f59_p0_o0_r0_2_y, f59_p0_o0_r0_3_y, f59_p0_o0_r0_4_y, nx (by omega), getD_lt h1]
        simp [h0]
      · have e1 : decide ((i : Int) > 0) = false := by simp; omega
        rw [e1, cond_false, Option.bind_some, f59_p0_o0_x108_y, f59_p0_o0_x84_y, f59_p0_o0_x85_y, f59_p0_o0_x86_y, f59_p0_o0_r0_0_y, f59_p0_o0_r0_1_y, f59_p0_o0_r0_2_y, f59_p0_o0_r0_3_y, f59_p0_o0_r0_4_y, nx (by omega)]
        simp [h0]) (fun rec => by rw [hr, f59_p1_eq]; simp only [Int.lt_irrefl, decide_false, cond_false]) (by rw [fuel_def]; omega)
  have e' : go f59_p1_st (f59_p1_y ks (ks.length : Int) (0 : Int) k n s items ks) = _ := e
  rw [e']
  unfold kok
  rw [← findIdx_any]
  cases (List.range ks.length).findIdx? (kbad ks) with
  | none => rfl
  | some k => simp only [Option.bind_some, f59_p1_o1_x2_y]; rfl
theorem kok_nil {ks : List (List UInt8)} (h : ks.length = 0) : kok ks = true := by unfold kok; rw [h]; rfl
theorem tok_nil : tok [] = true := by decide
theorem one_may (k n : Int) (s : List UInt8) (items : List V) (keys : List (List UInt8)) : (bif p3bad k n s items keys then false else bif p2bad k n s items keys then false else kok keys) = may (.mk k n s items keys) := by
  show _ = mayP k n s items keys
  unfold p3bad p2bad mayP noIt
  have ei : ((items.length : Int) == 0) = !decide ((items.length : Int) > 0) := by rw [Bool.eq_iff_iff]; simp
  have ek : ((keys.length : Int) == 0) = !decide ((keys.length : Int) > 0) := by rw [Bool.eq_iff_iff]; simp
  have e1 : decide (n ≥ -1099511627776) = !decide (n < -1099511627776) := by rw [Bool.eq_iff_iff]; simp
  have e2 : decide (n ≤ 1099511627776) = !decide (n > 1099511627776) := by rw [Bool.eq_iff_iff]; simp
  rw [ei, ek, e1, e2]
  have hkn : decide ((keys.length : Int) > 0) = false → kok keys = true := fun h => kok_nil (by simp at h; simp [h])
  have hsn : (s == []) = true → tok s = true := fun h => by rw [beq_iff_eq.1 h]; exact tok_nil
  have h0a : (n == 0) = true → decide (n < -1099511627776) = false := fun h => by have := beq_iff_eq.1 h; subst this; rfl
  have h0b : (n == 0) = true → decide (n > 1099511627776) = false := fun h => by have := beq_iff_eq.1 h; subst this; rfl
  have hs : (s != []) = !(s == []) := rfl
  have hn : (n != 0) = !(n == 0) := rfl
  have hl : ((keys.length : Int) != (items.length : Int)) = !((keys.length : Int) == (items.length : Int)) := rfl
  rw [hs, hn, hl]
  generalize decide ((items.length : Int) > 0) = a1 at *
  generalize decide ((keys.length : Int) > 0) = a2 at *
  generalize decide (n < -1099511627776) = a3 at *
  generalize decide (n > 1099511627776) = a4 at *
  generalize (s == []) = a5 at *
  generalize (n == 0) = a6 at *
  generalize ((keys.length : Int) == (items.length : Int)) = a7 at *
  generalize tok s = a8 at *
  generalize kok keys = a9 at *
  by_cases k1 : k = 1
  · subst k1
    have : (((1 : Int) == 1) = true) ∧ ((1 : Int) != 1) = false ∧ (decide ((1 : Int) < 1) = false) ∧ (decide ((1 : Int) > 4) = false) ∧ ((1 : Int) != 2) = true ∧ (decide ((1 : Int) < 3) = true) ∧ ((1 : Int) != 4) = true ∧ ((1 : Int) == 4) = false := by decide
    obtain ⟨q1, q2, q3, q4, q5, q6, q7, q8⟩ := this
    rw [q1, q2, q3, q4, q5, q6, q7, q8]
    revert hkn hsn h0a h0b
    cases a1 <;> cases a2 <;> cases a3 <;> cases a4 <;> cases a5 <;> cases a8 <;> cases a9 <;> simp
  · by_cases k2 : k = 2
    · subst k2
      have : (((2 : Int) == 1) = false) ∧ ((2 : Int) != 1) = true ∧ (decide ((2 : Int) < 1) = false) ∧ (decide ((2 : Int) > 4) = false) ∧ ((2 : Int) != 2) = false ∧ (decide ((2 : Int) < 3) = true) ∧ ((2 : Int) != 4) = true ∧ ((2 : Int) == 4) = false ∧ ((2 : Int) == 2) = true := by decide
      obtain ⟨q1, q2, q3, q4, q5, q6, q7, q8, q9⟩ := this
      rw [q1, q2, q3, q4, q5, q6, q7, q8, q9]
      revert hkn hsn h0a h0b
      cases a1 <;> cases a2 <;> cases a3 <;> cases a4 <;> cases a6 <;> cases a8 <;> cases a9 <;> simp
    · by_cases k3 : k = 3
      · subst k3
        have : (((3 : Int) == 1) = false) ∧ ((3 : Int) != 1) = true ∧ (decide ((3 : Int) < 1) = false) ∧ (decide ((3 : Int) > 4) = false) ∧ ((3 : Int) != 2) = true ∧ (decide ((3 : Int) < 3) = false) ∧ ((3 : Int) != 4) = true ∧ ((3 : Int) == 4) = false ∧ ((3 : Int) == 2) = false ∧ ((3 : Int) == 3) = true := by decide
        obtain ⟨q1, q2, q3, q4, q5, q6, q7, q8, q9, q10⟩ := this
        rw [q1, q2, q3, q4, q5, q6, q7, q8, q9, q10]
        revert hkn hsn h0a h0b
        cases a2 <;> cases a3 <;> cases a4 <;> cases a5 <;> cases a6 <;> cases a8 <;> cases a9 <;> simp
      · by_cases k4 : k = 4
        · subst k4
          have : (((4 : Int) == 1) = false) ∧ ((4 : Int) != 1) = true ∧ (decide ((4 : Int) < 1) = false) ∧ (decide ((4 : Int) > 4) = false) ∧ ((4 : Int) != 2) = true ∧ (decide ((4 : Int) < 3) = false) ∧ ((4 : Int) != 4) = false ∧ ((4 : Int) == 4) = true ∧ ((4 : Int) == 2) = false ∧ ((4 : Int) == 3) = false := by decide
          obtain ⟨q1, q2, q3, q4, q5, q6, q7, q8, q9, q10⟩ := this
          rw [q1, q2, q3, q4, q5, q6, q7, q8, q9, q10]
          revert hkn hsn h0a h0b
          cases a3 <;> cases a4 <;> cases a5 <;> cases a6 <;> cases a7 <;> cases a8 <;> cases a9 <;> simp
        · have q1 : (k == 1) = false := by simp [k1]
          have q2 : (k == 2) = false := by simp [k2]
          have q3 : (k == 3) = false := by simp [k3]
          have q4 : (k == 4) = false := by simp [k4]
          rw [q1, q2, q3, q4]
          have : decide (k < 1) = true ∨ decide (k > 4) = true := by simp; omega
          rcases this with h | h <;> rw [h]
          · rfl
          · simp
theorem f59_ok' (v : V) (h : v.items.length ≤ 4000) (hs : v.s.length ≤ reachBytes) (hk : ∀ x ∈ v.keys, x.length ≤ reachBytes) : f59_F (va v, ()) = some (may v, ()) := by
  obtain ⟨k, n, s, items, keys⟩ := v
  simp only [V.items, V.s, V.keys] at h hs hk
  rw [va_mk, f59_eq, p3_val, Option.bind_some, f59_p3_o0_x54_y, f59_p3_o0_r0_0_y, f59_p3_o0_r0_1_y, f59_p3_o0_r0_2_y, f59_p3_o0_r0_3_y, f59_p3_o0_r0_4_y, p2_val _ _ _ _ _ hs, Option.bind_some, f59_p2_o0_x82_y, f59_p2_o0_r0_0_y, f59_p2_o0_r0_1_y, f59_p2_o0_r0_2_y, f59_p2_o0_r0_3_y, f59_p2_o0_r0_4_y, ← one_may]
  cases h3 : p3bad k n s items keys with
  | true => rfl
  | false =>
    rw [cond_false, cond_false]
    cases h2 : p2bad k n s items keys with
    | true => rfl
    | false =>
      rw [cond_false, cond_false]
      refine keys_loop k n s items keys ?_ hk
      unfold p3bad at h3
      unfold p2bad at h2
      simp only [Bool.or_eq_false_iff, Bool.and_eq_false_iff, decide_eq_false_iff_not, bne_eq_false_iff_eq, beq_eq_false_iff_ne, Bool.not_eq_false'] at h3 h2
      obtain ⟨_, _, _, _, _, h9⟩ := h3
      obtain ⟨_, _, _, h8⟩ := h2
      rcases h9 with h9 | h9
      · rcases h8 with h8 | h8
        · exact absurd h9 h8
        · omega
      · omega
end Go.Pe.Tryd
