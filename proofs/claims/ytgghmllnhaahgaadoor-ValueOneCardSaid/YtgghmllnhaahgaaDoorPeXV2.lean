/- Values: how many and how deep, as the program and the law tell it. -/
import Derived.Test.YtgghmllnhaahgaaDoorPeXV1
set_option linter.unusedSectionVars false
set_option linter.unusedVariables false
set_option linter.unusedSimpArgs false
namespace Go.Pe.Tryd
open Go.Proofs
set_option maxRecDepth 100000
theorem nx {i : Nat} (h : i ≤ 1000000) : IntKind.i64.wrap ((i : Int) + 1) = ((i + 1 : Nat) : Int) := by rw [wrap64 (by omega) (by omega)]; rfl
theorem lt_t {i n : Nat} (h : i < n) : decide ((i : Int) < (n : Int)) = true := by simp; omega
theorem va_eta (v : V) : (v.kind, (v.n, (v.s, (v.items, (v.keys, ()))))) = va v := rfl
theorem item_le {items : List V} {i : Nat} (h : i < items.length) : cnt items[i] ≤ cntL items ∧ dep items[i] ≤ depL items := ⟨cnt_mem (List.getElem_mem h), dep_mem (List.getElem_mem h)⟩
/-! How many. -/
theorem count_step (G : argsDen f15_ps → Option (argsDen f15_rs)) (hG : Sound Tryd.prog 15 (pfun G)) (items : List V) (hm : cntL items ≤ 4000)
    (ih : ∀ v ∈ items, G (va v, ()) = some ((cnt v : Int), ())) : go (f15_p0_st G hG) (f15_p0_y (1 : Int) items (items.length : Int) (0 : Int)) = some (f15_p0_o0_y ((1 + cntL items : Nat) : Int)) := by
  have hl := cntL_len items
  refine go_seq (step := f15_p0_st G hG) (y := fun i => f15_p0_y ((1 + cntL (items.take i) : Nat) : Int) items (items.length : Int) (i : Int)) (n := items.length) (fun i hi rec => ?_) (fun rec => ?_) (by rw [fuel_def]; omega)
  · have h1 := cntL_take_le items i
    have h2 := item_le hi
    rw [f15_p0_eq, lt_t hi, cond_true, nth_lt hi, Option.bind_some, va_eta, ih _ (List.getElem_mem hi), Option.bind_some]
    dsimp only
    rw [nx (by omega), wrap64 (by omega) (by omega), cntL_take hi]
    congr 2; omega
  · rw [f15_p0_eq]; simp only [Int.lt_irrefl, decide_false, cond_false, List.take_length]
theorem f15_next (n : Nat) : (f15_S (n + 1)).1 = f15_b (f15_S n).1 (f15_S n).2 := by kernel_rfl
theorem count_ok : ∀ (n : Nat) (v : V), dep v ≤ n → cnt v ≤ 3000 → (f15_S n).1 (va v, ()) = some ((cnt v : Int), ())
  | 0, v, h, _ => by have := dep_pos v; omega
  | n + 1, .mk k a s items keys, hd, hc => by
    simp only [dep, cnt] at hd hc
    rw [f15_next, va_mk, f15_eq, count_step _ _ items (by omega) fun v hv => count_ok n v (by have := dep_mem hv; omega) (by have := cnt_mem hv; omega), Option.bind_some, f15_p0_o0_x3_y]
    simp only [cnt]
theorem f15_ok' (v : V) (h : cnt v ≤ 3000) : f15_F (va v, ()) = some ((cnt v : Int), ()) := by
  unfold f15_F
  exact count_ok recN v (by have := dep_le v; rw [recN_eq]; omega) h
/-! How deep. -/
theorem depth_step (G : argsDen f17_ps → Option (argsDen f17_rs)) (hG : Sound Tryd.prog 17 (pfun G)) (items : List V) (hm : cntL items ≤ 4000)
    (ih : ∀ v ∈ items, G (va v, ()) = some ((dep v : Int), ())) : go (f17_p0_st G hG) (f17_p0_y (0 : Int) items (items.length : Int) (0 : Int)) = some (f17_p0_o0_y ((depL items : Nat) : Int)) := by
  have hl := cntL_len items
  refine go_seq (step := f17_p0_st G hG) (y := fun i => f17_p0_y ((depL (items.take i) : Nat) : Int) items (items.length : Int) (i : Int)) (n := items.length) (fun i hi rec => ?_) (fun rec => ?_) (by rw [fuel_def]; omega)
  · rw [f17_p0_eq, lt_t hi, cond_true, nth_lt hi, Option.bind_some, va_eta, ih _ (List.getElem_mem hi), Option.bind_some]
    dsimp only
    rw [nx (by omega), maxI_nat, depL_take hi]
  · rw [f17_p0_eq]; simp only [Int.lt_irrefl, decide_false, cond_false, List.take_length]
theorem f17_next (n : Nat) : (f17_S (n + 1)).1 = f17_b (f17_S n).1 (f17_S n).2 := by kernel_rfl
theorem depth_ok : ∀ (n : Nat) (v : V), dep v ≤ n → cnt v ≤ 3000 → (f17_S n).1 (va v, ()) = some ((dep v : Int), ())
  | 0, v, h, _ => by have := dep_pos v; omega
  | n + 1, .mk k a s items keys, hd, hc => by
    simp only [dep, cnt] at hd hc
    have := depL_le items
    rw [f17_next, va_mk, f17_eq, depth_step _ _ items (by omega) fun v hv => depth_ok n v (by have := dep_mem hv; omega) (by have := cnt_mem hv; omega), Option.bind_some, f17_p0_o0_x3_y, nx (by omega)]
    simp only [dep, Nat.add_comm]
theorem f17_ok' (v : V) (h : cnt v ≤ 3000) : f17_F (va v, ()) = some ((dep v : Int), ()) := by
  unfold f17_F
  exact depth_ok recN v (by have := dep_le v; rw [recN_eq]; omega) h
/-! How deep, as the law tells it. -/
theorem deep_step (G : argsDen f18_ps → Option (argsDen f18_rs)) (hG : Sound Tryd.prog 18 (pfun G)) (items : List V) (hm : cntL items ≤ 4000)
    (ih : ∀ v ∈ items, G (va v, ()) = some ((dep v : Int), ())) : go (f18_p1_st G hG) (f18_p1_y (1 : Int) items (items.length : Int) (0 : Int)) = some (f18_p1_o0_y ((1 + depL items : Nat) : Int)) := by
  have hl := cntL_len items
  have hd := depL_le items
  refine go_seq (step := f18_p1_st G hG) (y := fun i => f18_p1_y ((1 + depL (items.take i) : Nat) : Int) items (items.length : Int) (i : Int)) (n := items.length) (fun i hi rec => ?_) (fun rec => ?_) (by rw [fuel_def]; omega)
  · have h2 := item_le hi
    have h3 := depL_take_le items i
    rw [f18_p1_eq, lt_t hi, cond_true, f18_p0_eq, nth_lt hi, Option.bind_some, va_eta, ih _ (List.getElem_mem hi), Option.bind_some]
    dsimp only
    rw [nx (by omega), depL_take hi]
    by_cases hc : dep items[i] + 1 > 1 + depL (items.take i)
    · have : decide (((dep items[i] + 1 : Nat) : Int) > ((1 + depL (items.take i) : Nat) : Int)) = true := by simp; omega
      rw [this, cond_true, Option.bind_some, f18_p0_o0_x3_y, f18_p0_o0_x8_y, f18_p0_o0_x9_y, f18_p0_o0_x10_y, nx (by omega)]
      congr 2; omega
    · have : decide (((dep items[i] + 1 : Nat) : Int) > ((1 + depL (items.take i) : Nat) : Int)) = false := by simp; omega
      rw [this, cond_false, Option.bind_some, f18_p0_o0_x3_y, f18_p0_o0_x8_y, f18_p0_o0_x9_y, f18_p0_o0_x10_y, nx (by omega)]
      congr 2; omega
  · rw [f18_p1_eq]; simp only [Int.lt_irrefl, decide_false, cond_false, List.take_length]
theorem f18_next (n : Nat) : (f18_S (n + 1)).1 = f18_b (f18_S n).1 (f18_S n).2 := by kernel_rfl
theorem deep_ok : ∀ (n : Nat) (v : V), dep v ≤ n → cnt v ≤ 3000 → (f18_S n).1 (va v, ()) = some ((dep v : Int), ())
  | 0, v, h, _ => by have := dep_pos v; omega
  | n + 1, .mk k a s items keys, hd, hc => by
    simp only [dep, cnt] at hd hc
    rw [f18_next, va_mk, f18_eq, deep_step _ _ items (by omega) fun v hv => deep_ok n v (by have := dep_mem hv; omega) (by have := cnt_mem hv; omega), Option.bind_some, f18_p1_o0_x3_y]
    simp only [dep]
theorem f18_ok' (v : V) (h : cnt v ≤ 3000) : f18_F (va v, ()) = some ((dep v : Int), ()) := by
  unfold f18_F
  exact deep_ok recN v (by have := dep_le v; rw [recN_eq]; omega) h
end Go.Pe.Tryd
