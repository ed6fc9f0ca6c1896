/- The reference's texts and signs, told. -/
import Derived.Test.YtgghmllnhaahgaaPePP1
namespace Go.Pe.Try
open Go.Proofs Go.RowKit
set_option maxRecDepth 100000
set_option linter.unusedSimpArgs false
set_option linter.unusedVariables false
theorem drop_cases (a : List UInt8) (i : Nat) : (a.length ≤ i ∧ a.drop i = []) ∨ ∃ h : i < a.length, a.drop i = a[i] :: a.drop (i + 1) := by
  rcases Nat.lt_or_ge i a.length with h | h
  · exact .inr ⟨h, List.drop_eq_getElem_cons h⟩
  · exact .inl ⟨h, List.drop_eq_nil_of_le h⟩
theorem sign_eq (a : List UInt8) (i : Nat) : f26_F (a, ((i : Int), ())) = some (match a.drop i with | [] => -1 | c :: _ => (c.toNat : Int), ()) := by
  rw [f26_eq]
  rcases drop_cases a i with ⟨h, e⟩ | ⟨h, e⟩ <;> rw [e]
  · have : (i : Int) ≥ (a.length : Int) := by omega
    simp [this]
  · have : ¬ ((i : Int) ≥ (a.length : Int)) := by omega
    have hb : a[i].toNat < 256 := a[i].toNat_lt
    rw [nth_lt h]
    simp only [this, decide_false, cond_false, Option.bind_some]
    rw [wrap64 (by omega) (by omega)]
abbrev RV := argsDen f29_rs
def rv (v : V) (i : Nat) (n : Nat) (e : Int) : RV := ((v.kind, (v.n, (v.s, (v.items, (v.keys, ((i : Int), ((n : Int), (e, ())))))))), ())
def v0 : V := ⟨0, 0, [], [], []⟩
theorem wrong_eq (a : List UInt8) (i : Nat) : f29_F (a, ((i : Int), ())) = some (rv v0 0 0 (match a.drop i with | [] => 3 | _ :: _ => 20)) := by
  rw [f29_eq]
  rcases drop_cases a i with ⟨h, e⟩ | ⟨h, e⟩ <;> rw [e]
  · have : (i : Int) ≥ (a.length : Int) := by omega
    simp [this]; rfl
  · have : ¬ ((i : Int) ≥ (a.length : Int)) := by omega
    simp [this]; rfl
theorem rtxt_loop (a : List UInt8) (ha : a.length ≤ 70000) : ∀ (k i : Nat) (acc : List UInt8), acc.length ≤ 4000 → 4002 ≤ k + acc.length → iter f28_p2_st k (f28_p2_y a (i : Int) 0 0 [] 0 0 0 (bytesOf acc)) = some (match txt (a.drop i) acc with
    | .error e => f28_p2_o0_y 0 0 [] 0 0 e
    | .ok (s, r) => f28_p2_o0_y 0 0 s ((a.length - r.length : Nat) : Int) 0 0) := by
  intro k
  induction k with
  | zero => intro i acc h1 h2; omega
  | succ k ih =>
    intro i acc h1 h2
    have hlen : ((bytesOf acc).length : Int) = (acc.length : Int) := by simp [bytesOf]
    have hnx : ∀ c : UInt8, bytesOf acc ++ [(c.toNat : Int)] = bytesOf (acc ++ [c]) := fun c => by simp [bytesOf]
    have happ : ∀ c : UInt8, (bytesOf acc).length + [(c.toNat : Int)].length ≤ 4294967296 := fun c => by simp [bytesOf]; omega
    rw [iter, f28_p2_eq]
    rcases drop_cases a i with ⟨h, e⟩ | ⟨h, e⟩ <;> rw [e]
    · have : (i : Int) ≥ (a.length : Int) := by omega
      simp [this, txt]
    have hge : ¬ ((i : Int) ≥ (a.length : Int)) := by omega
    have hw : IntKind.i64.wrap ((i : Int) + 1) = ((i + 1 : Nat) : Int) := by rw [wrap64 (by omega) (by omega)]; rfl
    rw [nth_lt h]
    simp only [hge, decide_false, cond_false, Option.bind_some, hw]
    generalize hci : a[i] = c
    unfold txt
    by_cases hc : c.toNat < 32
    · have : (c.toNat : Int) < 32 := by omega
      simp [this, hc]
    have hc' : ¬ ((c.toNat : Int) < 32) := by omega
    have e34 : ((c.toNat : Int) == 34) = decide (c = 34) := by
      rw [Bool.eq_iff_iff]; simp only [beq_iff_eq, decide_eq_true_eq]; rw [← UInt8.toNat_inj]; simp only [UInt8.reduceToNat]; omega
    have e92 : ((c.toNat : Int) == 92) = decide (c = 92) := by
      rw [Bool.eq_iff_iff]; simp only [beq_iff_eq, decide_eq_true_eq]; rw [← UInt8.toNat_inj]; simp only [UInt8.reduceToNat]; omega
    simp only [hc', decide_false, cond_false, hc, if_false, e34]
    by_cases h34 : c = 34
    · have : (a.length - (a.drop (i + 1)).length : Nat) = i + 1 := by simp; omega
      simp only [h34, decide_true, cond_true, if_true, this, strOf_bytesOf]
    simp only [h34, decide_false, cond_false, if_false]
    rw [f28_p1_eq, e92]
    by_cases h92 : c = 92
    · subst h92
      simp only [decide_true, cond_true, if_true]
      rcases drop_cases a (i + 1) with ⟨h', e'⟩ | ⟨h', e'⟩ <;> rw [e']
      · have : ((i + 1 : Nat) : Int) ≥ (a.length : Int) := by omega
        simp only [this, decide_true, cond_true, Option.bind_some, f28_p1_o0_r0_0_y, f28_p1_o0_r0_1_y, f28_p1_o0_r0_2_y, f28_p1_o0_r0_5_y, f28_p1_o0_r0_6_y, f28_p1_o0_r0_7_y]
      have hge' : ¬ (((i + 1 : Nat) : Int) ≥ (a.length : Int)) := by omega
      have hw' : IntKind.i64.wrap (((i + 1 : Nat) : Int) + 1) = ((i + 2 : Nat) : Int) := by rw [wrap64 (by omega) (by omega)]; omega
      rw [nth_lt h']
      simp only [hge', decide_false, cond_false, Option.bind_some]
      generalize hci' : a[i + 1] = c'
      rw [f28_p0_eq]
      have f34 : ((c'.toNat : Int) != 34) = decide (¬ c' = 34) := by
        rw [Bool.eq_iff_iff]; simp only [bne_iff, decide_eq_true_eq]; rw [← UInt8.toNat_inj]; simp only [UInt8.reduceToNat]; omega
      have f92 : ((c'.toNat : Int) != 92) = decide (¬ c' = 92) := by
        rw [Bool.eq_iff_iff]; simp only [bne_iff, decide_eq_true_eq]; rw [← UInt8.toNat_inj]; simp only [UInt8.reduceToNat]; omega
      rw [f34, f92]
      have go2 : (c' = 34 ∨ c' = 92) → ((some (f28_p0_o0_y a ((i + 1 : Nat) : Int) (c'.toNat : Int) false 0 0 [] 0 0 0 (bytesOf acc))).bind fun o16 => bif f28_p0_o0_x43 o16 then some (Sum.inl (f28_p1_o0_y 0 0 [] 0 0 20)) else some (Sum.inr (f28_p1_o1_y (f28_p0_o0_x0 o16) (IntKind.i64.wrap (f28_p0_o0_x1 o16 + 1)) (f28_p0_o0_x6 o16) (f28_p0_o0_r0_0 o16) (f28_p0_o0_r0_1 o16) (f28_p0_o0_r0_2 o16) (f28_p0_o0_r0_5 o16) (f28_p0_o0_r0_6 o16) (f28_p0_o0_r0_7 o16) (f28_p0_o0_l0 o16)))) = some (Sum.inr (f28_p1_o1_y a ((i + 2 : Nat) : Int) (c'.toNat : Int) 0 0 [] 0 0 0 (bytesOf acc))) := by
        intro _
        simp only [Option.bind_some, f28_p0_o0_x43_y, cond_false, f28_p0_o0_x0_y, f28_p0_o0_x1_y, f28_p0_o0_x6_y, f28_p0_o0_r0_0_y, f28_p0_o0_r0_1_y, f28_p0_o0_r0_2_y, f28_p0_o0_r0_5_y, f28_p0_o0_r0_6_y, f28_p0_o0_r0_7_y, f28_p0_o0_l0_y, hw']
      by_cases hm : c' = 34 ∨ c' = 92
      · have hif : (bif decide (¬ c' = 34) then some (f28_p0_o0_y a ((i + 1 : Nat) : Int) (c'.toNat : Int) (decide (¬ c' = 92)) 0 0 [] 0 0 0 (bytesOf acc)) else some (f28_p0_o0_y a ((i + 1 : Nat) : Int) (c'.toNat : Int) false 0 0 [] 0 0 0 (bytesOf acc))) = some (f28_p0_o0_y a ((i + 1 : Nat) : Int) (c'.toNat : Int) false 0 0 [] 0 0 0 (bytesOf acc)) := by
          rcases hm with rfl | rfl <;> rfl
        rw [hif, go2 hm]
        simp only [Option.bind_some, hm, if_true, f28_p1_o1_l0_y, f28_p1_o1_x6_y, f28_p1_o1_x0_y, f28_p1_o1_x1_y, f28_p1_o1_r0_0_y, f28_p1_o1_r0_1_y, f28_p1_o1_r0_2_y, f28_p1_o1_r0_5_y, f28_p1_o1_r0_6_y, f28_p1_o1_r0_7_y, hlen]
        by_cases h4 : acc.length = 4000
        · simp [h4]
        · have h4' : ((acc.length : Int) == 4000) = false := by simp; omega
          simp only [h4', cond_false, h4, if_false]
          rw [appOk_lt (happ c'), hnx, ih (i + 2) (acc ++ [c']) (by simp; omega) (by simp; omega)]
      · have hm1 : ¬ c' = 34 := fun e => hm (.inl e)
        have hm2 : ¬ c' = 92 := fun e => hm (.inr e)
        simp [hm1, hm2]
    · simp only [h92, decide_false, cond_false, Option.bind_some, if_false, f28_p1_o1_l0_y, f28_p1_o1_x6_y, f28_p1_o1_x0_y, f28_p1_o1_x1_y, f28_p1_o1_r0_0_y, f28_p1_o1_r0_1_y, f28_p1_o1_r0_2_y, f28_p1_o1_r0_5_y, f28_p1_o1_r0_6_y, f28_p1_o1_r0_7_y, hlen]
      by_cases h4 : acc.length = 4000
      · simp [h4]
      · have h4' : ((acc.length : Int) == 4000) = false := by simp; omega
        simp only [h4', cond_false, h4, if_false]
        rw [appOk_lt (happ c), hnx, ih (i + 1) (acc ++ [c]) (by simp; omega) (by simp; omega)]
theorem rtext_eq (a : List UInt8) (ha : a.length ≤ 70000) (i : Nat) : f28_F (a, ((i : Int), ())) = some (match txt (a.drop i) [] with
    | .error e => rv v0 0 0 e
    | .ok (s, r) => rv ⟨0, 0, s, [], []⟩ (a.length - r.length) 0 0) := by
  rw [f28_eq]
  unfold go
  rw [show ([] : List Int) = bytesOf [] from rfl, rtxt_loop a ha _ i [] (by simp) (by rw [fuel_def]; simp; omega)]
  cases txt (a.drop i) [] with
  | error e => simp; rfl
  | ok p => simp; rfl
end Go.Pe.Try
