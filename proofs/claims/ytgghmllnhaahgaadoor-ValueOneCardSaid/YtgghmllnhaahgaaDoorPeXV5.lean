/- Values: which may be, with all within. -/
import Derived.Test.YtgghmllnhaahgaaDoorPeXV4
import Derived.Test.YtgghmllnhaahgaaDoorPeOpen2
set_option linter.unusedSectionVars false
set_option linter.unusedVariables false
set_option linter.unusedSimpArgs false
namespace Go.Pe.Tryd
open Go.Proofs Go.RowKit
set_option maxRecDepth 100000
mutual
def each : V → Bool | .mk k n s items keys => mayP k n s items keys && eachL items
def eachL : List V → Bool | [] => true | v :: l => each v && eachL l
end
theorem eachL_all : ∀ l : List V, eachL l = l.all each
  | [] => rfl
  | v :: l => by simp [eachL, eachL_all l]
def right (v : V) : Bool := decide (dep v ≤ 12) && (decide (cnt v ≤ 2000) && each v)
theorem wf_items {N : Nat} {v : V} (h : WfV N v) : ∀ x ∈ v.items, WfV N x := by
  cases h with
  | mk kind n s items keys hk hn hs hi hks hit hkl =>
    intro x hx
    obtain ⟨i, hi', rfl⟩ := List.getElem_of_mem hx
    exact hit i hi'
@[reducible] def vy (v : V) : h36_I.den := h36_y v.kind v.n v.s v.items v.keys
theorem any_step (G : h36_I.den → Option h36_O.den) (hG : SoundH Tryd.prog 36 ⟨h36_I, h36_O, G⟩) (items : List V) (hl : items.length ≤ 4000) (ih : ∀ v ∈ items, G (vy v) = some (h36_o_y (each v))) :
    h55_F G hG (h55_y items) = some (h55_o_y (!eachL items)) := by
  rw [h55_eq, h73_eq]
  have e := go_scan (step := h73_p0_st G hG) (l := items) (fun i => h73_p0_y items (items.length : Int) (i : Int)) (fun v => !each v) (fun i => some (.inr (h73_p0_o1_y (i : Int)))) (some (.inl h73_p0_o0_y)) (fun i hi rec => by
    rw [h73_p0_eq, lt_t hi, cond_true, nth_lt hi, Option.bind_some, h56_eq, ih _ (List.getElem_mem hi), Option.bind_some, Option.bind_some, h56_o_x0_y, h36_o_x0_y, nx (by omega)]) (fun rec => by rw [h73_p0_eq]; simp only [Int.lt_irrefl, decide_false, cond_false]) (by rw [fuel_def]; omega)
  have e' : go (h73_p0_st G hG) (h73_p0_y items (items.length : Int) (0 : Int)) = _ := e
  rw [e', eachL_all]
  have h2 := findIdx_any (fun v => !each v) items
  have h3 : items.any (fun v => !each v) = !items.all each := by rw [List.all_eq_not_any_not]; simp
  rw [← h3, ← h2]
  cases items.findIdx? (fun v => !each v) with
  | none => rfl
  | some k =>
    simp only [Option.bind_some, h73_p0_o1_x4_y, h73_o_x0_y, Option.isSome_some]
    have : decide ((k : Int) ≥ 0) = true := by simp
    rw [this]
theorem h36_next (n : Nat) : (h36_S (n + 1)).1 = h36_b (h36_S n).1 (h36_S n).2 := by kernel_rfl
theorem each_ok : ∀ (n : Nat) (v : V), dep v ≤ n → cnt v ≤ 3000 → (h36_S n).1 (vy v) = some (h36_o_y (each v))
  | 0, v, h, _ => by have := dep_pos v; omega
  | n + 1, .mk k a s items keys, hd, hc => by
    simp only [dep, cnt] at hd hc
    have hl := cntL_len items
    have h37 := f37_ok' (.mk k a s items keys) (by simp only [V.items]; omega)
    rw [va_mk] at h37
    show (h36_S (n + 1)).1 (h36_y k a s items keys) = _
    rw [h36_next, h36_eq, h37, Option.bind_some]
    simp only [each]
    show (bif mayP k a s items keys then _ else _) = _
    cases mayP k a s items keys with
    | false => rfl
    | true =>
      rw [cond_true, any_step _ _ items (by omega) fun v hv => each_ok n v (by have := dep_mem hv; omega) (by have := cnt_mem hv; omega), Option.bind_some, h55_o_x0_y, Bool.not_not, Bool.true_and]
theorem h36_is (v : V) (h : cnt v ≤ 3000) : h36_F (vy v) = some (h36_o_y (each v)) := by
  unfold h36_F
  exact each_ok recN v (by have := dep_le v; rw [recN_eq]; omega) h
theorem f19_ok' (v : V) (h : cnt v ≤ 3000) : f19_F (va v, ()) = some (right v, ()) := by
  obtain ⟨k, n, s, items, keys⟩ := v
  rw [va_mk, f19_eq]
  have h1 := f17_ok' (.mk k n s items keys) h
  have h2 := f15_ok' (.mk k n s items keys) h
  have h3 := h36_is (.mk k n s items keys) h
  rw [va_mk] at h1 h2
  have h3' : h36_F (h36_y k n s items keys) = _ := h3
  rw [h1, Option.bind_some]
  unfold right
  generalize V.mk k n s items keys = v at *
  by_cases hd : dep v ≤ 12
  · have e1 : decide ((dep v : Int) ≤ 12) = true := by simp; omega
    dsimp only
    rw [e1, cond_true, h2, Option.bind_some]
    by_cases hc : cnt v ≤ 2000
    · have e2 : decide ((cnt v : Int) ≤ 2000) = true := by simp; omega
      dsimp only
      rw [e2, cond_true, h3', Option.bind_some, h36_o_x0_y]; simp [hd, hc]
    · have e2 : decide ((cnt v : Int) ≤ 2000) = false := by simp; omega
      dsimp only
      rw [e2, cond_false]; simp [hc]
  · have e1 : decide ((dep v : Int) ≤ 12) = false := by simp; omega
    dsimp only
    rw [e1, cond_false]; simp [hd]
/-! As the law tells it. -/
theorem refeach_step (G : argsDen f38_ps → Option (argsDen f38_rs)) (hG : Sound Tryd.prog 38 (pfun G)) (k n : Int) (s : List UInt8) (keys : List (List UInt8)) (items : List V) (hl : items.length ≤ 4000) (ih : ∀ v ∈ items, G (va v, ()) = some (each v, ())) :
    go (f38_p0_st G hG) (f38_p0_y items (items.length : Int) (0 : Int) k n s items keys) = some (if eachL items = true then .inl (f38_p0_o0_y k n s items keys) else .inr (f38_p0_o1_y false)) := by
  have e := go_scan (step := f38_p0_st G hG) (l := items) (fun i => f38_p0_y items (items.length : Int) (i : Int) k n s items keys) (fun v => !each v) (fun i => some (.inr (f38_p0_o1_y false))) (some (.inl (f38_p0_o0_y k n s items keys))) (fun i hi rec => by
    rw [f38_p0_eq, lt_t hi, cond_true, nth_lt hi, Option.bind_some, va_eta, ih _ (List.getElem_mem hi), Option.bind_some]
    dsimp only
    rw [nx (by omega)]) (fun rec => by rw [f38_p0_eq]; simp only [Int.lt_irrefl, decide_false, cond_false]) (by rw [fuel_def]; omega)
  have e' : go (f38_p0_st G hG) (f38_p0_y items (items.length : Int) (0 : Int) k n s items keys) = _ := e
  rw [e', eachL_all]
  have h2 := findIdx_any (fun v => !each v) items
  have h3 : items.any (fun v => !each v) = !items.all each := by rw [List.all_eq_not_any_not]; simp
  rw [h3] at h2
  cases hf : items.findIdx? (fun v => !each v) with
  | none =>
    rw [hf] at h2
    have : items.all each = true := by simpa using h2.symm
    rw [if_pos this]
  | some k =>
    rw [hf] at h2
    have : ¬ items.all each = true := by
      intro h; rw [h] at h2; simp at h2
    rw [if_neg this]
theorem f38_next (n : Nat) : (f38_S (n + 1)).1 = f38_b (f38_S n).1 (f38_S n).2 := by kernel_rfl
theorem refeach_ok : ∀ (n : Nat) (v : V), dep v ≤ n → cnt v ≤ 3000 → WfV reachBytes v → (f38_S n).1 (va v, ()) = some (each v, ())
  | 0, v, h, _, _ => by have := dep_pos v; omega
  | n + 1, .mk k a s items keys, hd, hc, hw => by
    simp only [dep, cnt] at hd hc
    have hl := cntL_len items
    have hwi := wf_items hw
    have h59 := f59_ok' (.mk k a s items keys) (by simp only [V.items]; omega) (by cases hw; assumption) (by cases hw; assumption)
    rw [va_mk] at h59
    rw [f38_next, va_mk, f38_eq, refeach_step _ _ k a s keys items (by omega) fun v hv => refeach_ok n v (by have := dep_mem hv; omega) (by have := cnt_mem hv; omega) (hwi v hv), Option.bind_some]
    simp only [each]
    cases he : eachL items with
    | false => simp [f38_p0_o1_x2_y]
    | true =>
      simp only [if_true, f38_p0_o0_r0_0_y, f38_p0_o0_r0_1_y, f38_p0_o0_r0_2_y, f38_p0_o0_r0_3_y, f38_p0_o0_r0_4_y, h59, Option.bind_some, Bool.and_true]
      rfl
theorem f20_ok' (v : V) (hw : WfV reachBytes v) (h : cnt v ≤ 3000) : f20_F (va v, ()) = some (right v, ()) := by
  have h1 := f16_ok' 2000 v (by omega)
  have h2 := f18_ok' v h
  have h3 : f38_F (va v, ()) = some (each v, ()) := by
    unfold f38_F
    exact refeach_ok recN v (by have := dep_le v; rw [recN_eq]; omega) h hw
  obtain ⟨k, n, s, items, keys⟩ := v
  rw [va_mk] at *
  rw [f20_eq]
  have h1' : f16_F ((k, (n, (s, (items, (keys, ()))))), ((2000 : Int), ())) = _ := h1
  rw [h1', Option.bind_some]
  unfold right
  generalize V.mk k n s items keys = v at *
  by_cases hc : cnt v ≤ 2000
  · have e2 : decide (((min (cnt v) (2000 + 1) : Nat) : Int) ≤ 2000) = true := by simp; omega
    dsimp only
    rw [e2, cond_true, h2, Option.bind_some]
    by_cases hd : dep v ≤ 12
    · have e1 : decide ((dep v : Int) ≤ 12) = true := by simp; omega
      dsimp only
      rw [e1, cond_true, h3, Option.bind_some]; simp [hd, hc]
    · have e1 : decide ((dep v : Int) ≤ 12) = false := by simp; omega
      dsimp only
      rw [e1, cond_false]; simp [hd]
  · have e2 : decide (((min (cnt v) (2000 + 1) : Nat) : Int) ≤ 2000) = false := by simp; omega
    dsimp only
    rw [e2, cond_false]; simp [hc]
end Go.Pe.Tryd
