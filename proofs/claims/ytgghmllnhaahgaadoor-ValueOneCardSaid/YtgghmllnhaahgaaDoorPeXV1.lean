/- Values: how many, how deep. -/
import Derived.Test.YtgghmllnhaahgaaDoorPeGV3q
import Derived.Test.YtgghmllnhaahgaaDoorPeLoopT
set_option linter.unusedSectionVars false
set_option linter.unusedVariables false
set_option linter.unusedSimpArgs false
namespace Go.Pe
open Go.RowKit
/-- A loop that goes from state to state, and may end early. -/
theorem go_q {sh : Shape} {β : Type} {step : (sh.den → Option β) → sh.den → Option β} (n : Nat) (Y : Nat → sh.den) (Q : Option β → Prop)
    (hs : ∀ i, i < n → (∀ rec, step rec (Y i) = rec (Y (i + 1))) ∨ ∃ r, Q r ∧ ∀ rec, step rec (Y i) = r) (he : ∃ r, Q r ∧ ∀ rec, step rec (Y n) = r) (hm : n + 1 ≤ fuelOf sh (Y 0)) : Q (go step (Y 0)) := by
  have key : ∀ d i, i + d = n → ∀ m, d + 1 ≤ m → Q (iter step m (Y i)) := by
    intro d
    induction d with
    | zero =>
      intro i hi m hm
      obtain ⟨m, rfl⟩ : ∃ k, m = k + 1 := ⟨m - 1, by omega⟩
      have : i = n := by omega
      subst this
      obtain ⟨r, hQ, hr⟩ := he
      rw [iter, hr]; exact hQ
    | succ d ih =>
      intro i hi m hm
      obtain ⟨m, rfl⟩ : ∃ k, m = k + 1 := ⟨m - 1, by omega⟩
      rcases hs i (by omega) with h | ⟨r, hQ, hr⟩
      · rw [iter, h]; exact ih (i + 1) (by omega) m (by omega)
      · rw [iter, hr]; exact hQ
  exact key n 0 (by omega) _ hm
namespace Tryd
open Go.Proofs
set_option maxRecDepth 100000
mutual
def cnt : V → Nat | .mk _ _ _ items _ => 1 + cntL items
def cntL : List V → Nat | [] => 0 | v :: l => cnt v + cntL l
end
mutual
def dep : V → Nat | .mk _ _ _ items _ => 1 + depL items
def depL : List V → Nat | [] => 0 | v :: l => max (dep v) (depL l)
end
theorem cnt_pos (v : V) : 1 ≤ cnt v := by cases v; simp [cnt]
theorem dep_pos (v : V) : 1 ≤ dep v := by cases v; simp [dep]
theorem cntL_append : ∀ (a b : List V), cntL (a ++ b) = cntL a + cntL b
  | [], b => by simp [cntL]
  | v :: a, b => by simp [cntL, cntL_append a b]; omega
theorem depL_append : ∀ (a b : List V), depL (a ++ b) = max (depL a) (depL b)
  | [], b => by simp [depL]
  | v :: a, b => by simp [depL, depL_append a b, Nat.max_assoc]
theorem cntL_take {l : List V} {i : Nat} (h : i < l.length) : cntL (l.take (i + 1)) = cntL (l.take i) + cnt l[i] := by
  rw [List.take_succ_eq_append_getElem h, cntL_append]; simp [cntL]
theorem depL_take {l : List V} {i : Nat} (h : i < l.length) : depL (l.take (i + 1)) = max (depL (l.take i)) (dep l[i]) := by
  rw [List.take_succ_eq_append_getElem h, depL_append]; simp [depL]
theorem cntL_take_le (l : List V) (i : Nat) : cntL (l.take i) ≤ cntL l := by
  conv => rhs; rw [← List.take_append_drop i l, cntL_append]
  omega
theorem depL_take_le (l : List V) (i : Nat) : depL (l.take i) ≤ depL l := by
  conv => rhs; rw [← List.take_append_drop i l, depL_append]
  omega
theorem cntL_len : ∀ (l : List V), l.length ≤ cntL l
  | [] => by simp
  | v :: l => by have := cntL_len l; have := cnt_pos v; simp [cntL]; omega
theorem cnt_mem {v : V} : ∀ {l : List V}, v ∈ l → cnt v ≤ cntL l
  | u :: l, h => by
    rcases List.mem_cons.1 h with rfl | h
    · simp [cntL]
    · have := cnt_mem h; simp [cntL]; omega
theorem dep_mem {v : V} : ∀ {l : List V}, v ∈ l → dep v ≤ depL l
  | u :: l, h => by
    rcases List.mem_cons.1 h with rfl | h
    · simp only [depL]; omega
    · exact Nat.le_trans (dep_mem h) (Nat.le_max_right _ _)
theorem take_len (l : List V) {i : Nat} (h : i ≤ l.length) : i ≤ cntL (l.take i) := by
  have := cntL_len (l.take i)
  rw [List.length_take] at this; omega
mutual
theorem dep_le : ∀ v : V, dep v ≤ cnt v
  | .mk _ _ _ items _ => by have := depL_le items; simp [dep, cnt]; omega
theorem depL_le : ∀ l : List V, depL l ≤ cntL l
  | [] => by simp [depL]
  | v :: l => by have := dep_le v; have := depL_le l; simp [depL, cntL]; omega
end
@[reducible] def va (v : V) : Int × Int × List UInt8 × List V × List (List UInt8) × Unit := (v.kind, (v.n, (v.s, (v.items, (v.keys, ())))))
/-- Counted up to a bound. -/
theorem lim_step (n : Nat) (G : argsDen f16_ps → Option (argsDen f16_rs)) (hG : Sound Tryd.prog 16 (pfun G)) (items : List V) (m : Nat) (hm : m ≤ 3000)
    (ih : ∀ (m' : Nat) (v : V), m' < m → G (va v, ((m' : Int), ())) = some (((min (cnt v) (m' + 1) : Nat) : Int), ())) :
    ∃ o, go (f16_p0_st G hG) (f16_p0_y (m : Int) (1 : Int) items (items.length : Int) (0 : Int)) = some o ∧ ((match o with | .inl z4 => some ((f16_p0_o0_x5 z4), ()) | .inr o5 => some ((f16_p0_o1_x4 o5), ())) : Option (argsDen f16_rs)) = some (((min (1 + cntL items) (m + 1) : Nat) : Int), ()) := by
  let Y : Nat → f16_p0_sh.den := fun i => f16_p0_y m ((min (1 + cntL (items.take i)) (m + 1) : Nat) : Int) items items.length i
  have hY : ∀ i, Y i = f16_p0_y m ((min (1 + cntL (items.take i)) (m + 1) : Nat) : Int) items items.length i := fun _ => rfl
  have e : f16_p0_y (m : Int) (1 : Int) items (items.length : Int) (0 : Int) = Y 0 := by
    rw [hY]; simp only [List.take_zero, cntL, Nat.add_zero]
    congr 1
  rw [e]
  clear_value Y
  have bad : ∀ i, i < items.length → ¬ 1 + cntL (items.take i) ≤ m → ∃ r, (∃ o, r = some o ∧ ((match o with | .inl z4 => some ((f16_p0_o0_x5 z4), ()) | .inr o5 => some ((f16_p0_o1_x4 o5), ())) : Option (argsDen f16_rs)) = some (((min (1 + cntL items) (m + 1) : Nat) : Int), ())) ∧ ∀ rec, f16_p0_st G hG rec (Y i) = r := by
    intro i hil hc
    have hlt : decide ((i : Int) < (items.length : Int)) = true := by simp; omega
    refine ⟨some (.inr (f16_p0_o1_y ((m + 1 : Nat) : Int))), ⟨_, rfl, ?_⟩, fun rec => ?_⟩
    · simp only [f16_p0_o1_x4_y]
      have := cntL_take_le items i
      congr 3; omega
    · rw [hY, f16_p0_eq, hlt, cond_true, nth_lt hil, Option.bind_some]
      have hg : decide (((min (1 + cntL (items.take i)) (m + 1) : Nat) : Int) > (m : Int)) = true := by simp; omega
      rw [hg, cond_true]
      congr 4; omega
  refine go_q (step := f16_p0_st G hG) (min items.length m) Y (fun r => ∃ o, r = some o ∧ ((match o with | .inl z4 => some ((f16_p0_o0_x5 z4), ()) | .inr o5 => some ((f16_p0_o1_x4 o5), ())) : Option (argsDen f16_rs)) = some (((min (1 + cntL items) (m + 1) : Nat) : Int), ())) (fun i hi => ?_) ?_ (by rw [fuel_def]; omega)
  · have hil : i < items.length := by omega
    by_cases hc : 1 + cntL (items.take i) ≤ m
    · refine .inl fun rec => ?_
      have hlt : decide ((i : Int) < (items.length : Int)) = true := by simp; omega
      rw [hY, hY, f16_p0_eq, hlt, cond_true, nth_lt hil, Option.bind_some]
      have hg : decide (((min (1 + cntL (items.take i)) (m + 1) : Nat) : Int) > (m : Int)) = false := by simp; omega
      rw [hg, cond_false]
      have hw : IntKind.i64.wrap ((m : Int) - ((min (1 + cntL (items.take i)) (m + 1) : Nat) : Int)) = ((m - (1 + cntL (items.take i)) : Nat) : Int) := by
        rw [wrap64 (by omega) (by omega)]; omega
      have h3 := ih (m - (1 + cntL (items.take i))) items[i] (by omega)
      rw [hw, h3, Option.bind_some]
      dsimp only
      have hw2 : IntKind.i64.wrap (((min (1 + cntL (items.take i)) (m + 1) : Nat) : Int) + ((min (cnt items[i]) (m - (1 + cntL (items.take i)) + 1) : Nat) : Int)) = ((min (1 + cntL (items.take (i + 1))) (m + 1) : Nat) : Int) := by
        rw [wrap64 (by omega) (by omega), cntL_take hil]; omega
      have hw3 : IntKind.i64.wrap ((i : Int) + 1) = ((i + 1 : Nat) : Int) := by rw [wrap64 (by omega) (by omega)]; rfl
      rw [hw2, hw3]
    · exact .inr (bad i hil hc)
  · by_cases hl : items.length ≤ m
    · have hmn : min items.length m = items.length := Nat.min_eq_left hl
      rw [hmn]
      refine ⟨some (.inl (f16_p0_o0_y ((min (1 + cntL items) (m + 1) : Nat) : Int))), ⟨_, rfl, ?_⟩, fun rec => by rw [hY, f16_p0_eq]; simp only [Int.lt_irrefl, decide_false, cond_false, List.take_length]⟩
      simp only [f16_p0_o0_x5_y]
    · have hmn : min items.length m = m := Nat.min_eq_right (by omega)
      rw [hmn]
      have h2 := take_len items (i := m) (by omega)
      exact bad m (by omega) (by omega)
theorem f16_next (n : Nat) : (f16_S (n + 1)).1 = f16_b (f16_S n).1 (f16_S n).2 := by kernel_rfl
theorem va_mk (k a : Int) (s : List UInt8) (items : List V) (keys : List (List UInt8)) : va (.mk k a s items keys) = (k, (a, (s, (items, (keys, ()))))) := rfl
theorem lim_ok : ∀ (n m : Nat) (v : V), m ≤ 3000 → m < n → (f16_S n).1 (va v, ((m : Int), ())) = some (((min (cnt v) (m + 1) : Nat) : Int), ())
  | 0, m, v, _, h => by omega
  | n + 1, m, .mk k a s items keys, hm, hn => by
    rw [f16_next, va_mk, f16_eq]
    obtain ⟨o, h1, h2⟩ := lim_step n (f16_S n).1 (f16_S n).2 items m hm fun m' v h => lim_ok n m' v (by omega) (by omega)
    rw [h1, Option.bind_some]; simp only [cnt]; exact h2
theorem f16_ok' (m : Nat) (v : V) (hm : m ≤ 3000) : f16_F (va v, ((m : Int), ())) = some (((min (cnt v) (m + 1) : Nat) : Int), ()) := by
  unfold f16_F
  exact lim_ok recN m v hm (by rw [recN_eq]; omega)
end Tryd
end Go.Pe
