/- The law ValueTexts. -/
import Derived.Test.YtgghmllnhaahgaaDoorPeXV9
set_option linter.unusedSectionVars false
set_option linter.unusedVariables false
set_option linter.unusedSimpArgs false
namespace Go.Pe.Tryd
open Go.Proofs Go.RowKit
set_option maxRecDepth 100000
def qb (b : UInt8) : Bool := decide (b = 34 ∨ b = 92)
theorem esc_count (s : List UInt8) : (esc s).length = s.length + s.countP qb := by
  induction s with
  | nil => rfl
  | cons b l ih =>
    have : esc (b :: l) = (if b = 34 ∨ b = 92 then [92, b] else [b]) ++ esc l := rfl
    rw [this, List.length_append, List.length_cons, List.countP_cons, ih]
    by_cases h : b = 34 ∨ b = 92
    · have : qb b = true := by simp [qb, h]
      rw [if_pos h, this]; simp; omega
    · have : qb b = false := by simp [qb, h]
      rw [if_neg h, this]; simp; omega
theorem countP_take {s : List UInt8} {i : Nat} (h : i < s.length) : (s.take (i + 1)).countP qb = (s.take i).countP qb + (if qb s[i] = true then 1 else 0) := by
  rw [List.take_succ_eq_append_getElem h, List.countP_append]; simp [List.countP_cons]
def tv (s : List UInt8) : V := .mk 2 0 s [] []
def nv (n : Int) : V := .mk 1 n [] [] []
theorem tv_right (s : List UInt8) : right (tv s) = tok s := by
  simp [right, tv, dep, depL, cnt, cntL, each, eachL, mayP, noIt]
theorem nv_right {n : Int} (h1 : -1099511627776 ≤ n) (h2 : n ≤ 1099511627776) : right (nv n) = true := by
  simp [right, nv, dep, depL, cnt, cntL, each, eachL, mayP, noIt]; omega
theorem tv_print (s : List UInt8) : f14_F (va (tv s), ()) = some (if tok s = true then (quo s, (0, ())) else ([], (1, ()))) := by
  have h := f14_ok' (tv s) (by simp [tv, cnt, cntL])
  have e : txt (tv s) = quo s := by simp [txt, tv]
  rw [h]
  unfold prn
  rw [tv_right, e]
  cases tok s <;> rfl
theorem nv_print {n : Int} (h1 : -1099511627776 ≤ n) (h2 : n ≤ 1099511627776) : f14_F (va (nv n), ()) = some (Lib.itoa n, (0, ())) := by
  have h := f14_ok' (nv n) (by simp [nv, cnt, cntL])
  have e : txt (nv n) = Lib.itoa n := by simp [txt, nv]
  rw [h]
  unfold prn
  rw [nv_right h1 h2, e, if_pos rfl]
/-! The digits. -/
def dl (u : Nat) : Nat := (Lib.decDigits u).length
theorem dl_1 {u : Nat} (h : u < 10) : dl u = 1 := by unfold dl; rw [Lib.decDigits]; simp [h]
theorem dl_s {u : Nat} (h : ¬ u < 10) : dl u = dl (u / 10) + 1 := by unfold dl; rw [Lib.decDigits]; simp [h]
theorem digits (s : List UInt8) (x1 x5 : Int) : ∀ (k u : Nat) (x9 : Int), u < 10 ^ (k + 1) → k ≤ 10 → 0 ≤ x9 → x9 + k ≤ 1000 → ∀ m, k + 1 ≤ m → iter f4_p2_st m (f4_p2_y s x1 x5 x9 (u : Int)) = some (f4_p2_o0_y s x1 x5 (x9 + (dl u : Int) - 1))
  | 0, u, x9, hu, _, _, _, m, hm => by
    obtain ⟨m, rfl⟩ : ∃ k, m = k + 1 := ⟨m - 1, by omega⟩
    have hu' : u < 10 := by simpa using hu
    rw [iter, f4_p2_eq]
    have : decide ((u : Int) ≥ 10) = false := by simp; omega
    rw [this, cond_false, dl_1 hu']
    congr 2; omega
  | k + 1, u, x9, hu, hk, h0, h1, m, hm => by
    obtain ⟨m, rfl⟩ : ∃ k, m = k + 1 := ⟨m - 1, by omega⟩
    rw [iter, f4_p2_eq]
    by_cases hu' : u < 10
    · have : decide ((u : Int) ≥ 10) = false := by simp; omega
      rw [this, cond_false, dl_1 hu']
      congr 2; omega
    · have : decide ((u : Int) ≥ 10) = true := by simp; omega
      have hsm : u < 100000000000000 := by
        have : 10 ^ (k + 1 + 1) ≤ 10 ^ 12 := Nat.pow_le_pow_right (by decide) (by omega)
        have e : (10 : Nat) ^ 12 = 1000000000000 := by decide
        omega
      have hd : IntKind.i64.wrap (Int.tdiv (u : Int) 10) = ((u / 10 : Nat) : Int) := by
        have : Int.tdiv (u : Int) 10 = ((u / 10 : Nat) : Int) := by rw [Int.tdiv_eq_ediv_of_nonneg (by omega)]; omega
        rw [this, wrap64 (by omega) (by omega)]
      rw [this, cond_true, hd, wrap64 (by omega) (by omega), digits s x1 x5 k (u / 10) (x9 + 1) (by rw [Nat.pow_succ] at hu; omega) (by omega) (by omega) (by omega) m (by omega), dl_s hu']
      congr 2; omega
theorem itoa_dl (n : Int) : ((Lib.itoa n).length : Int) = (dl n.natAbs : Int) + (if n < 0 then 1 else 0) := by
  unfold Lib.itoa
  split
  · simp [dl]
  · have : n.toNat = n.natAbs := by omega
    rw [this]; simp [dl]
/-! The bytes. -/
theorem bytes_loop (s : List UInt8) (n : Int) (h : s.length ≤ 300) :
    (s.any ctl = true ∧ go f4_p4_st (f4_p4_y s n (0 : Int) (s.length : Int) (0 : Int)) = some (.inr (f4_p4_o1_y true))) ∨ (s.any ctl = false ∧ go f4_p4_st (f4_p4_y s n (0 : Int) (s.length : Int) (0 : Int)) = some (.inl (f4_p4_o0_y s n ((s.countP qb : Nat) : Int)))) := by
  have e := go_scan (step := f4_p4_st) (l := s) (fun i => f4_p4_y s n (((s.take i).countP qb : Nat) : Int) (s.length : Int) (i : Int)) ctl (fun i => some (.inr (f4_p4_o1_y true))) (some (.inl (f4_p4_o0_y s n ((s.countP qb : Nat) : Int)))) (fun i hi rec => by
    have hcl : (s.take i).countP qb ≤ i := by
      have := List.countP_le_length (p := qb) (l := s.take i)
      rw [List.length_take] at this; omega
    rw [f4_p4_eq, lt_t hi, cond_true, f4_p1_eq, nth_lt hi, Option.bind_some]
    show _ = bif ctl s[i] then _ else _
    have hcd : decide ((((s[i]).toNat : Nat) : Int) < 32) = ctl s[i] := rfl
    rw [hcd]
    cases hc : ctl s[i] with
    | true =>
      have ht : tok s = false := by
        unfold tok
        have : s.any ctl = true := List.any_eq_true.2 ⟨_, List.getElem_mem hi, hc⟩
        rw [this]; simp
      have hp : f14_F (((2 : Int), ((0 : Int), (s, (([] : List V), (([] : List (List UInt8)), ()))))), ()) = _ := tv_print s
      rw [cond_true, cond_true, f22_eq, Option.bind_some]
      dsimp only
      rw [hp, ht]
      simp only [Bool.false_eq_true, if_false, Option.bind_some, f13_ok', cond_true]
      rw [f4_p1_o0_x4_y]; rfl
    | false =>
      rw [cond_false, cond_false, f4_p0_eq, nth_lt hi, Option.bind_some]
      have hx : (bif ((((s[i]).toNat : Nat) : Int) == (34 : Int)) then (some ((f4_p0_o0_y s n (((s.take i).countP qb : Nat) : Int) (s.length : Int) (i : Int) true))) else ((some s[i]).bind fun c166 => some ((f4_p0_o0_y s n (((s.take i).countP qb : Nat) : Int) (s.length : Int) (i : Int) ((c166.toNat : Int) == (92 : Int)))))) = some (f4_p0_o0_y s n (((s.take i).countP qb : Nat) : Int) (s.length : Int) (i : Int) (qb s[i])) := by
        have q1 : ((((s[i]).toNat : Nat) : Int) == (34 : Int)) = decide (s[i] = 34) := by
          rw [Bool.eq_iff_iff]; simp only [beq_iff_eq, decide_eq_true_eq]
          constructor
          · intro e; exact UInt8.toNat_inj.1 (by simp; omega)
          · intro e; rw [e]; rfl
        have q2 : ((((s[i]).toNat : Nat) : Int) == (92 : Int)) = decide (s[i] = 92) := by
          rw [Bool.eq_iff_iff]; simp only [beq_iff_eq, decide_eq_true_eq]
          constructor
          · intro e; exact UInt8.toNat_inj.1 (by simp; omega)
          · intro e; rw [e]; rfl
        rw [q1, Option.bind_some, q2]
        unfold qb
        by_cases e1 : s[i] = 34
        · simp [e1]
        · simp [e1]
      rw [hx, Option.bind_some, f4_p0_o0_x51_y, f4_p0_o0_x0_y, f4_p0_o0_x1_y, f4_p0_o0_x5_y, f4_p0_o0_x23_y, f4_p0_o0_x24_y, countP_take hi]
      cases qb s[i] with
      | true =>
        rw [cond_true, Option.bind_some]
        dsimp only
        rw [f4_p1_o1_x0_y, f4_p1_o1_x1_y, f4_p1_o1_x5_y, f4_p1_o1_x23_y, f4_p1_o1_x24_y, nx (by omega), nx (by omega), if_pos rfl]
      | false =>
        rw [cond_false, Option.bind_some]
        dsimp only
        rw [f4_p1_o1_x0_y, f4_p1_o1_x1_y, f4_p1_o1_x5_y, f4_p1_o1_x23_y, f4_p1_o1_x24_y, nx (by omega), if_neg (by simp)]; rfl) (fun rec => by rw [f4_p4_eq]; simp only [Int.lt_irrefl, decide_false, cond_false, List.take_length]) (by rw [fuel_def]; omega)
  have e' : go f4_p4_st (f4_p4_y s n (0 : Int) (s.length : Int) (0 : Int)) = _ := e
  have h2 := findIdx_any ctl s
  rw [e']
  cases hf : s.findIdx? ctl with
  | none => rw [hf] at h2; exact .inr ⟨h2.symm, rfl⟩
  | some k => rw [hf] at h2; exact .inl ⟨h2.symm, rfl⟩
theorem lawTexts (a0 : List UInt8) (a1 : Int) (hw : Wf reachBytes .str a0) (hn : Wf reachBytes (.int .i64) a1) : f4_F (a0, (a1, ())) = some (true, ()) := by
  rw [f4_eq]
  have e3 : (300 : Int) = ((300 : Nat) : Int) := rfl
  rw [e3, cut_min]
  have hl : (a0.take 300).length ≤ 300 := by simp; omega
  generalize a0.take 300 = s at *
  have hr : -999 ≤ Int.tmod a1 1000 ∧ Int.tmod a1 1000 ≤ 999 := by
    have h1 := Int.tmod_lt_of_pos a1 (show (0 : Int) < 1000 by decide)
    have h2 : -1000 < Int.tmod a1 1000 := by
      have := Int.lt_tmod_of_pos a1 (show (0 : Int) < 1000 by decide)
      omega
    omega
  generalize Int.tmod a1 1000 = n at *
  rcases bytes_loop s n hl with ⟨hc, hg⟩ | ⟨hc, hg⟩
  · rw [hg, Option.bind_some]; simp only [f4_p4_o1_x4_y]
  · rw [hg, Option.bind_some]
    have hcl : s.countP qb ≤ s.length := List.countP_le_length
    have ht : tok s = true := by
      unfold tok; rw [hc]; simp; omega
    simp only [f4_p4_o0_x0_y, f4_p4_o0_x1_y, f4_p4_o0_x5_y]
    have hm : maxI n (IntKind.i64.wrap (0 - n)) = ((n.natAbs : Nat) : Int) := by
      rw [wrap64 (by omega) (by omega), maxI_eq]; split <;> omega
    have hd : go f4_p2_st (f4_p2_y s n ((s.countP qb : Nat) : Int) (1 : Int) ((n.natAbs : Nat) : Int)) = some (f4_p2_o0_y s n ((s.countP qb : Nat) : Int) (1 + (dl n.natAbs : Int) - 1)) :=
      digits s n _ 2 n.natAbs 1 (by omega) (by omega) (by omega) (by omega) _ (by rw [fuel_def]; omega)
    rw [hm, hd, Option.bind_some]
    have hdl : dl n.natAbs ≤ 3 := dec_len 2 n.natAbs (by omega)
    simp only [f4_p2_o0_x0_y, f4_p2_o0_x1_y, f4_p2_o0_x5_y, f4_p2_o0_x9_y]
    rw [f4_p3_eq]
    have h3 : (bif decide (n < (0 : Int)) then (some ((f4_p3_o0_y s n ((s.countP qb : Nat) : Int) (IntKind.i64.wrap ((1 + (dl n.natAbs : Int) - 1) + (1 : Int)))))) else (some ((f4_p3_o0_y s n ((s.countP qb : Nat) : Int) (1 + (dl n.natAbs : Int) - 1))))) = some (f4_p3_o0_y s n ((s.countP qb : Nat) : Int) ((Lib.itoa n).length : Int)) := by
      rw [itoa_dl]
      clear hd
      generalize dl n.natAbs = D at *
      by_cases hn0 : n < 0
      · have e1 : IntKind.i64.wrap (1 + (D : Int) - 1 + 1) = (D : Int) + 1 := by rw [wrap64 (by omega) (by omega)]; omega
        rw [decide_eq_true hn0, cond_true, if_pos hn0, e1]
      · have e1 : 1 + (D : Int) - 1 = (D : Int) + 0 := by omega
        rw [decide_eq_false hn0, cond_false, if_neg hn0, e1]
    rw [h3, Option.bind_some]
    simp only [f4_p3_o0_x0_y, f4_p3_o0_x1_y, f4_p3_o0_x5_y, f4_p3_o0_x9_y]
    have hp : f14_F (((2 : Int), ((0 : Int), (s, (([] : List V), (([] : List (List UInt8)), ()))))), ()) = _ := tv_print s
    have hp2 : f14_F (((1 : Int), (n, (([] : List UInt8), (([] : List V), (([] : List (List UInt8)), ()))))), ()) = _ := nv_print (n := n) (by omega) (by omega)
    rw [f22_eq, Option.bind_some]
    dsimp only
    rw [hp, ht, if_pos rfl, Option.bind_some, f23_eq, Option.bind_some]
    dsimp only
    rw [hp2, Option.bind_some, f13_ok', Option.bind_some]
    have hq := esc_count s
    have hql : (quo s).length = s.length + s.countP qb + 2 := by simp [quo, hq]
    have hw2 : IntKind.i64.wrap (IntKind.i64.wrap ((s.length : Int) + ((s.countP qb : Nat) : Int)) + 2) = ((quo s).length : Int) := by
      have e1 : IntKind.i64.wrap ((s.length : Int) + ((s.countP qb : Nat) : Int)) = (s.length : Int) + ((s.countP qb : Nat) : Int) := wrap64 (by omega) (by omega)
      rw [e1, wrap64 (by omega) (by omega), hql]; omega
    dsimp only
    rw [hw2]
    have q0 : ((0 : Int) == 0) = true := rfl
    have hfst : nth (quo s) (0 : Int) = some 34 := by
      have : (quo s)[0]? = some 34 := rfl
      exact (nth_nat (quo s) 0).trans this
    have hlst : nth (quo s) (IntKind.i64.wrap (((quo s).length : Int) - 1)) = some 34 := by
      have e1 : IntKind.i64.wrap (((quo s).length : Int) - 1) = (((esc s).length + 1 : Nat) : Int) := by
        rw [wrap64 (by omega) (by omega)]; simp [quo]
      rw [e1, nth_nat]
      simp [quo]
    rw [cond_true, q0, cond_true, cond_true, beq_self_eq_true, cond_true, hfst, Option.bind_some]
    have q34 : ((((34 : UInt8).toNat : Nat) : Int) == 34) = true := rfl
    rw [q34, cond_true, hlst, Option.bind_some, q34, cond_true, beq_self_eq_true]
end Go.Pe.Tryd
