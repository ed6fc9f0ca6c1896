import Derived.Test.YtgkolhopfiogpaaPeW18b
namespace Go.Pe.Try
open Go.Proofs Go.RowKit
set_option maxRecDepth 100000
/-- The entries of bytes. -/
def parse : Nat → List UInt8 → Option (List (List UInt8))
  | 0, s => if s = [] then some [] else none
  | k + 1, s => if s = [] then some [] else if s.length < 4 then none else
      if num (s.take 4) > 4096 ∨ num (s.take 4) > (s.drop 4).length then none else
        (parse k ((s.drop 4).drop (num (s.take 4)))).map fun r => (s.drop 4).take (num (s.take 4)) :: r
def readOut (l : List (List UInt8)) : Option (List (List UInt8)) → OutDen f12_p1_outs
  | some r => .inl (f12_p1_o0_y (l ++ r))
  | none => .inr (f12_p1_o1_y 41)
theorem read_guard (t : List UInt8) (n : Nat) (l : List (List UInt8)) (ht : t.length < 18446744073709551616) :
    f12_p0_F (f12_p0_y t (n : Int) l) = some (f12_p0_o0_y t (n : Int) (decide (n > 4096 ∨ n > t.length)) l) := by
  rw [f12_p0_eq, wrapU64 (by omega) (by omega)]
  by_cases h : n > 4096
  · have h1 : decide ((n : Int) > 4096) = true := by simp; omega
    rw [h1, cond_true]; simp [h]
  · have h1 : decide ((n : Int) > 4096) = false := by simp; omega
    rw [h1, cond_false]
    have h2 : decide ((n : Int) > (t.length : Int)) = decide (n > 4096 ∨ n > t.length) := by
      apply decide_eq_decide.2; omega
    rw [h2]
theorem read_loop : ∀ (k : Nat) (s : List UInt8) (l : List (List UInt8)), s.length ≤ k → s.length + l.length < 4294967296 → ∀ n, k + 1 ≤ n →
    iter f12_p1_st n (f12_p1_y s l) = some (readOut l (parse k s)) := by
  intro k
  induction k with
  | zero =>
    intro s l hs hb n hn
    obtain ⟨n, rfl⟩ : ∃ j, n = j + 1 := ⟨n - 1, by omega⟩
    have : s = [] := List.length_eq_zero_iff.1 (by omega)
    subst this
    rw [iter, f12_p1_eq]
    simp [parse, readOut]
  | succ k ih =>
    intro s l hs hb n hn
    obtain ⟨n, rfl⟩ : ∃ j, n = j + 1 := ⟨n - 1, by omega⟩
    rw [iter, f12_p1_eq]
    by_cases h0 : s = []
    · subst h0; simp [parse, readOut]
    have h1 : (s != []) = true := by simp [h0]
    rw [h1, cond_true]
    by_cases h4 : s.length < 4
    · have h2 : decide ((s.length : Int) < 4) = true := by simp; omega
      rw [h2, cond_true]
      simp [parse, h0, h4, readOut]
    have h2 : decide ((s.length : Int) < 4) = false := by simp; omega
    rw [h2, cond_false, cutHi, if_pos (by omega)]
    have e4 : Int.toNat 4 = 4 := rfl
    rw [e4, num_eq _ (by simp; omega), Option.bind_some, cutLo, if_pos (by omega), e4]
    show ((f12_p0_F (f12_p0_y (s.drop 4) (num (s.take 4) : Nat) l)).bind _) = _
    rw [read_guard _ _ _ (by simp; omega), Option.bind_some]
    have a1 : ∀ (t : List UInt8) (x : Int) (b : Bool) (m : List (List UInt8)), f12_p0_o0_x28 (f12_p0_o0_y t x b m) = b := fun _ _ _ _ => rfl
    have a2 : ∀ (t : List UInt8) (x : Int) (b : Bool) (m : List (List UInt8)), f12_p0_o0_x0 (f12_p0_o0_y t x b m) = t := fun _ _ _ _ => rfl
    have a3 : ∀ (t : List UInt8) (x : Int) (b : Bool) (m : List (List UInt8)), f12_p0_o0_x5 (f12_p0_o0_y t x b m) = x := fun _ _ _ _ => rfl
    have a4 : ∀ (t : List UInt8) (x : Int) (b : Bool) (m : List (List UInt8)), f12_p0_o0_l0 (f12_p0_o0_y t x b m) = m := fun _ _ _ _ => rfl
    rw [a1]
    by_cases hg : num (s.take 4) > 4096 ∨ num (s.take 4) > (s.drop 4).length
    · rw [decide_eq_true hg, cond_true]
      simp only [parse, if_neg h0, if_neg h4, if_pos hg]; rfl
    rw [decide_eq_false hg, cond_false, a2, a3, a4]
    rw [cutHi, if_pos (by omega), appOk, if_pos (by simp at hb ⊢; omega), cutLo, if_pos (by omega), Int.toNat_natCast]
    have hlen : ((s.drop 4).drop (num (s.take 4))).length ≤ s.length - 4 := by simp; omega
    rw [ih _ _ (by omega) (by simp at hlen hb ⊢; omega) n (by omega)]
    simp only [parse, if_neg h0, if_neg h4, if_neg hg]
    cases parse k ((s.drop 4).drop (num (s.take 4))) with
    | none => rfl
    | some r => simp [readOut]
theorem read_eq (s : List UInt8) (hb : s.length < 1073741824) : f12_F (s, ()) = some (match parse s.length s with | some r => (r, (0, ())) | none => ([], (41, ()))) := by
  rw [f12_eq]
  have : go f12_p1_st (f12_p1_y s []) = some (readOut [] (parse s.length s)) := by
    refine go_le (m := s.length + 1) (fun n hn => ?_) ?_
    · exact read_loop s.length s [] (by omega) (by simp; omega) n hn
    · simp only [fuelOf, fuelL, SAV.fuel, Ty.fuel, fuelR, fuelT]
      omega
  rw [this, Option.bind_some]
  cases parse s.length s <;> rfl
/-! The document's reading. -/
def refOut (l : List (List UInt8)) : Option (List (List UInt8)) → OutDen f13_p1_outs
  | some r => .inl (f13_p1_o0_y (l ++ r))
  | none => .inr (f13_p1_o1_y false)
theorem ref_guard (s : List UInt8) (i n : Nat) (l : List (List UInt8)) (hs : s.length < 1073741824) (hi : i + 4 ≤ s.length) :
    f13_p0_F (f13_p0_y s (i : Int) (n : Int) l) = some (f13_p0_o0_y s (i : Int) (n : Int) (decide (n > 4096 ∨ n > s.length - i - 4)) l) := by
  rw [f13_p0_eq]
  have hw : IntKind.i64.wrap (IntKind.i64.wrap ((s.length : Int) - i) - 4) = ((s.length - i - 4 : Nat) : Int) := by
    rw [wrap64 (x := (s.length : Int) - i) (by omega) (by omega), wrap64 (by omega) (by omega)]; omega
  rw [hw]
  by_cases h : n > 4096
  · have h1 : decide ((n : Int) > 4096) = true := by simp; omega
    rw [h1, cond_true]; simp [h]
  · have h1 : decide ((n : Int) > 4096) = false := by simp; omega
    rw [h1, cond_false]
    have h2 : decide ((n : Int) > ((s.length - i - 4 : Nat) : Int)) = decide (n > 4096 ∨ n > s.length - i - 4) := by
      apply decide_eq_decide.2; omega
    rw [h2]
theorem ref_loop (s : List UInt8) (hs : s.length < 1073741824) : ∀ (k i : Nat) (l : List (List UInt8)), i ≤ s.length → s.length - i ≤ k → l.length ≤ i → ∀ n, k + 1 ≤ n →
    iter f13_p1_st n (f13_p1_y s (i : Int) l) = some (refOut l (parse k (s.drop i))) := by
  intro k
  induction k with
  | zero =>
    intro i l hi hk hl n hn
    obtain ⟨n, rfl⟩ : ∃ j, n = j + 1 := ⟨n - 1, by omega⟩
    have : s.drop i = [] := List.drop_eq_nil_of_le (by omega)
    rw [iter, f13_p1_eq, this]
    have h3 : decide ((i : Int) < (s.length : Int)) = false := by simp; omega
    rw [h3, cond_false]
    simp [parse, refOut]
  | succ k ih =>
    intro i l hi hk hl n hn
    obtain ⟨n, rfl⟩ : ∃ j, n = j + 1 := ⟨n - 1, by omega⟩
    rw [iter, f13_p1_eq]
    by_cases h0 : i = s.length
    · have h3 : decide ((i : Int) < (s.length : Int)) = false := by simp; omega
      have : s.drop i = [] := List.drop_eq_nil_of_le (by omega)
      rw [h3, cond_false, this]; simp [parse, refOut]
    have h3 : decide ((i : Int) < (s.length : Int)) = true := by simp; omega
    have hne : s.drop i ≠ [] := by intro h; have := congrArg List.length h; simp at this; omega
    rw [h3, cond_true, wrap64 (x := (s.length : Int) - i) (by omega) (by omega)]
    by_cases h4 : s.length - i < 4
    · have h2 : decide ((s.length : Int) - i < 4) = true := by simp; omega
      rw [h2, cond_true]
      have h5 : (s.drop i).length < 4 := by simp; omega
      simp only [parse, if_neg hne, if_pos h5]; rfl
    have h2 : decide ((s.length : Int) - i < 4) = false := by simp; omega
    have h5 : ¬ (s.drop i).length < 4 := by simp; omega
    have w4 : IntKind.i64.wrap ((i : Int) + 4) = ((i + 4 : Nat) : Int) := by rw [wrap64 (by omega) (by omega)]; rfl
    rw [h2, cond_false, w4, cutMid, if_pos (by omega), Int.toNat_natCast, Int.toNat_natCast]
    have e1 : (s.take (i + 4)).drop i = (s.drop i).take 4 := by rw [List.drop_take]; congr 1; omega
    have hN := num_lt8 (s.drop i) 4 (by simp; omega) (by omega)
    rw [e1, numref_eq _ (by simp; omega), Option.bind_some]
    show ((f13_p0_F (f13_p0_y s (i : Int) (IntKind.i64.wrap ((num ((s.drop i).take 4) : Nat) : Int)) l)).bind _) = _
    rw [wrap64 (by omega) (by omega), ref_guard _ _ _ _ hs (by omega), Option.bind_some]
    have a1 : ∀ (t : List UInt8) (y x : Int) (b : Bool) (m : List (List UInt8)), f13_p0_o0_x34 (f13_p0_o0_y t y x b m) = b := fun _ _ _ _ _ => rfl
    have a2 : ∀ (t : List UInt8) (y x : Int) (b : Bool) (m : List (List UInt8)), f13_p0_o0_x0 (f13_p0_o0_y t y x b m) = t := fun _ _ _ _ _ => rfl
    have a3 : ∀ (t : List UInt8) (y x : Int) (b : Bool) (m : List (List UInt8)), f13_p0_o0_x5 (f13_p0_o0_y t y x b m) = y := fun _ _ _ _ _ => rfl
    have a5 : ∀ (t : List UInt8) (y x : Int) (b : Bool) (m : List (List UInt8)), f13_p0_o0_x6 (f13_p0_o0_y t y x b m) = x := fun _ _ _ _ _ => rfl
    have a4 : ∀ (t : List UInt8) (y x : Int) (b : Bool) (m : List (List UInt8)), f13_p0_o0_l0 (f13_p0_o0_y t y x b m) = m := fun _ _ _ _ _ => rfl
    rw [a1]
    have ed : ((s.drop i).drop 4).length = s.length - i - 4 := by simp; omega
    by_cases hg : num ((s.drop i).take 4) > 4096 ∨ num ((s.drop i).take 4) > s.length - i - 4
    · rw [decide_eq_true hg, cond_true]
      simp only [parse, if_neg hne, if_neg h5, ed, if_pos hg]; rfl
    rw [decide_eq_false hg, cond_false, a2, a3, a4, a5, w4]
    have w5 : IntKind.i64.wrap (((i + 4 : Nat) : Int) + ((num ((s.drop i).take 4) : Nat) : Int)) = ((i + 4 + num ((s.drop i).take 4) : Nat) : Int) := by rw [wrap64 (by omega) (by omega)]; rfl
    rw [w5, cutMid, if_pos (by omega), appOk, if_pos (by simp; omega), Int.toNat_natCast, Int.toNat_natCast]
    rw [ih _ _ (by omega) (by omega) (by simp; omega) n (by omega)]
    simp only [parse, if_neg hne, if_neg h5, ed, if_neg hg]
    have e2 : ((s.drop i).drop 4).drop (num ((s.drop i).take 4)) = s.drop (i + 4 + num ((s.drop i).take 4)) := by rw [List.drop_drop, List.drop_drop]; congr 1; omega
    have e3 : (s.take (i + 4 + num ((s.drop i).take 4))).drop (i + 4) = ((s.drop i).drop 4).take (num ((s.drop i).take 4)) := by
      rw [List.drop_take, List.drop_drop]; congr 1; omega
    rw [e2, e3]
    cases parse k (s.drop (i + 4 + num ((s.drop i).take 4))) with
    | none => rfl
    | some r => simp [refOut]
theorem ref_eq (s : List UInt8) (hs : s.length < 1073741824) : f13_F (s, ()) = some (match parse s.length s with | some r => (r, (true, ())) | none => ([], (false, ()))) := by
  rw [f13_eq]
  have : go f13_p1_st (f13_p1_y s 0 []) = some (refOut [] (parse s.length s)) := by
    refine go_le (m := s.length + 1) (fun n hn => ?_) ?_
    · exact ref_loop s hs s.length 0 [] (by omega) (by omega) (by simp) n hn
    · simp only [fuelOf, fuelL, SAV.fuel, Ty.fuel, fuelR, fuelT]
      omega
  rw [this, Option.bind_some]
  cases parse s.length s <;> rfl
end Go.Pe.Try
