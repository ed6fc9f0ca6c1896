/- Values: which are the same, as the program tells it; the law ValueOne but for its texts. -/
import Derived.Test.YtgghmllnhaahgaaDoorPeXV11
set_option linter.unusedSectionVars false
set_option linter.unusedVariables false
set_option linter.unusedSimpArgs false
namespace Go.Pe.Tryd
open Go.Proofs Go.RowKit
set_option maxRecDepth 100000
theorem f41_ok' (a b : List (List UInt8)) (hk : a.length ≤ reachBytes) : f41_F (a, (b, ())) = some (a == b, ()) := by
  unfold reachBytes at hk
  rw [f41_eq]
  by_cases hlk : a.length = b.length
  · have e2 : ((a.length : Int) != (b.length : Int)) = false := by simp [hlk]
    rw [e2, cond_false]
    have hr : (List.range a.length).length = a.length := by simp
    have e := go_scan (step := f41_p0_st) (l := List.range a.length) (fun i => f41_p0_y a b (a.length : Int) (i : Int)) (fun i => a.getD i [] != b.getD i []) (fun i => some (.inr (f41_p0_o1_y false))) (some (.inl f41_p0_o0_y)) (fun i hi rec => by
      have hi' : i < a.length := by simpa using hi
      have hi2 : i < b.length := by omega
      rw [f41_p0_eq, lt_t hi', cond_true, nth_lt hi', Option.bind_some, nth_lt hi2, Option.bind_some, List.getElem_range, getD_lt hi', getD_lt hi2, nxb (by omega)]) (fun rec => by rw [hr, f41_p0_eq]; simp only [Int.lt_irrefl, decide_false, cond_false]) (by
        rw [hr, fuel_def]
        have : a.length ≤ fuelL f41_p0_sh.slots (f41_p0_y a b (a.length : Int) ((0 : Nat) : Int)).1 := fuel0 (.list .str) _ a _
        omega)
    have e' : go f41_p0_st (f41_p0_y a b (a.length : Int) (0 : Int)) = _ := e
    have hk2 := findIdx_any (fun i => a.getD i [] != b.getD i []) (List.range a.length)
    rw [range_keys a b hlk] at hk2
    rw [e']
    cases hf : (List.range a.length).findIdx? (fun i => a.getD i [] != b.getD i []) with
    | some j =>
      rw [hf] at hk2
      have : (a == b) = false := by simpa using hk2.symm
      rw [this]; simp only [Option.bind_some, f41_p0_o1_x4_y]
    | none =>
      rw [hf] at hk2
      have : (a == b) = true := by simpa using hk2.symm
      rw [this]; rfl
  · have e2 : ((a.length : Int) != (b.length : Int)) = true := by simp; omega
    have e3 : (a == b) = false := by simp; intro e; exact hlk (by rw [e])
    rw [e2, cond_true, e3]
theorem eqf_ok (G : argsDen f25_ps → Option (argsDen f25_rs)) (hG : Sound Tryd.prog 25 (pfun G)) (items items' : List V) (hl : items.length ≤ 4000) (ih : ∀ i (h : i < items.length) (h' : i < items'.length), G (va items[i], (va items'[i], ())) = some (same items[i] items'[i], ())) :
    h42_F G hG (h42_y items items') = some (h42_o_y (sameL items items')) := by
  rw [h42_eq]
  by_cases hli : items.length = items'.length
  · have e1 : ((items.length : Int) != (items'.length : Int)) = false := by simp [hli]
    rw [e1, cond_false]
    have hr2 : (List.range items.length).length = items.length := by simp
    have g := go_scan (step := h42_p0_st G hG) (l := List.range items.length) (fun i => h42_p0_y items' items (items.length : Int) (i : Int)) (fun i => !same (items.getD i alV) (items'.getD i alV)) (fun i => some (.inr (h42_p0_o1_y false))) (some (.inl h42_p0_o0_y)) (fun i hi rec => by
      have hi' : i < items.length := by simpa using hi
      have hi2 : i < items'.length := by omega
      rw [h42_p0_eq, lt_t hi', cond_true, nth_lt hi', Option.bind_some, nth_lt hi2, Option.bind_some, va_eta, va_eta, ih i hi' hi2, Option.bind_some, List.getElem_range, getD_lt hi', getD_lt hi2]
      dsimp only
      rw [nx (by omega)]) (fun rec => by rw [hr2, h42_p0_eq]; simp only [Int.lt_irrefl, decide_false, cond_false]) (by rw [hr2, fuel_def]; omega)
    have g' : go (h42_p0_st G hG) (h42_p0_y items' items (items.length : Int) (0 : Int)) = _ := g
    have hi3 := findIdx_any (fun i => !same (items.getD i alV) (items'.getD i alV)) (List.range items.length)
    rw [range_items items items' hli] at hi3
    rw [g']
    cases hf2 : (List.range items.length).findIdx? (fun i => !same (items.getD i alV) (items'.getD i alV)) with
    | some j =>
      rw [hf2] at hi3
      have : sameL items items' = false := by simpa using hi3.symm
      rw [this]; simp only [Option.bind_some, h42_p0_o1_x6_y]
    | none =>
      rw [hf2] at hi3
      have : sameL items items' = true := by simpa using hi3.symm
      rw [this]; rfl
  · have e1 : ((items.length : Int) != (items'.length : Int)) = true := by simp; omega
    have e3 : sameL items items' = false := by
      cases hs : sameL items items' with
      | false => rfl
      | true => exact absurd (by rw [(sameL_iff _ _).1 hs]) hli
    rw [e1, cond_true, e3]
theorem f25_next (n : Nat) : (f25_S (n + 1)).1 = f25_b (f25_S n).1 (f25_S n).2 := by kernel_rfl
theorem psame_ok : ∀ (n : Nat) (v w : V), dep v ≤ n → cnt v ≤ 3000 → WfV reachBytes v → (f25_S n).1 (va v, (va w, ())) = some (same v w, ())
  | 0, v, _, h, _, _ => by have := dep_pos v; omega
  | n + 1, .mk k a s items keys, .mk k' a' s' items' keys', hd, hc, hw => by
    have hwi := wf_items hw
    have hwk := wf_keys hw
    simp only [dep, cnt] at hd hc
    have hl := cntL_len items
    rw [f25_next, va_mk, va_mk, f25_eq]
    simp only [same, V.kind, V.n, V.s, V.items, V.keys]
    cases k == k' with
    | false => rfl
    | true =>
      rw [cond_true, Bool.true_and]
      cases a == a' with
      | false => rfl
      | true =>
        rw [cond_true, Bool.true_and]
        cases s == s' with
        | false => rfl
        | true =>
          rw [cond_true, Bool.true_and, f41_ok' keys keys' hwk, Option.bind_some]
          dsimp only
          cases keys == keys' with
          | false => rfl
          | true =>
            rw [cond_true, Bool.true_and, eqf_ok _ _ items items' (by omega) fun i h h' => psame_ok n items[i] items'[i] (by have := dep_mem (List.getElem_mem h); omega) (by have := cnt_mem (List.getElem_mem h); omega) (hwi _ (List.getElem_mem h)), Option.bind_some, h42_o_x0_y]
theorem f25_ok' (v w : V) (h : cnt v ≤ 3000) (hw : WfV reachBytes v) : f25_F (va v, (va w, ())) = some (same v w, ()) := by
  unfold f25_F
  exact psame_ok recN v w (by have := dep_le v; rw [recN_eq]; omega) h hw
/-- The law, if texts are told apart. -/
theorem lawOne_of (v w : V) (hv : WfV reachBytes v) (hw : WfV reachBytes w) (hinj : each v = true → each w = true → txt v = txt w → v = w) : f5_F (va v, (va w, ())) = some (true, ()) := by
  have h12v := f12_ok' v
  have h12w := f12_ok' w
  have h13 := f13_ok'
  have hp2 : ∀ o : Bool, o = (decide (2100 < cnt v) || decide (2100 < cnt w)) → f5_p2_F (f5_p2_y v.kind v.n v.s v.items v.keys w.kind w.n w.s w.items w.keys) = some (f5_p2_o0_y o v.kind v.n v.s v.items v.keys w.kind w.n w.s w.items w.keys) := by
    intro o ho
    rw [f5_p2_eq, va_eta, va_eta, h12v, Option.bind_some, ho]
    dsimp only
    cases decide (2100 < cnt v) with
    | true => rfl
    | false => rw [cond_false, h12w, Option.bind_some, Bool.false_or]
  have he : f5_F (va v, (va w, ())) = f5_F ((v.kind, (v.n, (v.s, (v.items, (v.keys, ()))))), ((w.kind, (w.n, (w.s, (w.items, (w.keys, ()))))), ())) := rfl
  rw [he, f5_eq, hp2 _ rfl, Option.bind_some, f5_p2_o0_x15_y]
  by_cases hb : 2100 < cnt v ∨ 2100 < cnt w
  · have : (decide (2100 < cnt v) || decide (2100 < cnt w)) = true := by simp; exact hb
    rw [this, cond_true, h13]; rfl
  · have : (decide (2100 < cnt v) || decide (2100 < cnt w)) = false := by simp; omega
    have hcv : cnt v ≤ 3000 := by omega
    have hcw : cnt w ≤ 3000 := by omega
    have h24 := f24_ok' v w hcv hv
    have h25 := f25_ok' v w hcv hv
    have h25v := f25_ok' v v hcv hv
    have h14v := f14_ok' v hcv
    have h14w := f14_ok' w hcw
    rw [this, cond_false, f5_p2_o0_r0_0_y, f5_p2_o0_r0_1_y, f5_p2_o0_r0_2_y, f5_p2_o0_r0_3_y, f5_p2_o0_r0_4_y, f5_p2_o0_r1_0_y, f5_p2_o0_r1_1_y, f5_p2_o0_r1_2_y, f5_p2_o0_r1_3_y, f5_p2_o0_r1_4_y, va_eta, va_eta, h24, Option.bind_some]
    dsimp only
    rw [f5_p1_eq, va_eta, va_eta, h25, Option.bind_some]
    dsimp only
    have hvv : same v v = true := (same_iff v v).2 rfl
    rw [bne_self_eq_false, cond_false, h25v, Option.bind_some]
    dsimp only
    rw [hvv, Bool.not_true, cond_false, h13, Option.bind_some, Option.bind_some]
    dsimp only
    rw [f5_p1_o0_x34_y, Bool.not_true, cond_false, f5_p1_o0_r0_0_y, f5_p1_o0_r0_1_y, f5_p1_o0_r0_2_y, f5_p1_o0_r0_3_y, f5_p1_o0_r0_4_y, f5_p1_o0_r1_0_y, f5_p1_o0_r1_1_y, f5_p1_o0_r1_2_y, f5_p1_o0_r1_3_y, f5_p1_o0_r1_4_y, f5_p1_o0_x5_y, va_eta, va_eta, h14v, Option.bind_some, h14w, Option.bind_some, f5_p0_eq]
    dsimp only
    unfold prn
    have hr : ∀ u, right u = true → each u = true := fun u h => by
      unfold right at h
      simp only [Bool.and_eq_true] at h
      exact h.2.2
    cases hrv : right v with
    | false =>
      have q : ((1 : Int) != 0) = true := rfl
      simp only [Bool.false_eq_true, if_false, q, cond_true, Option.bind_some, f5_p0_o0_x50_y]
    | true =>
      have q0 : ((0 : Int) != 0) = false := rfl
      simp only [if_true, q0, cond_false]
      cases hrw : right w with
      | false =>
        have q : ((1 : Int) != 0) = true := rfl
        simp only [Bool.false_eq_true, if_false, q, Option.bind_some, f5_p0_o0_x50_y, cond_true]
      | true =>
        simp only [if_true, q0, Option.bind_some, f5_p0_o0_x50_y, cond_false, f5_p0_o0_x6_y, f5_p0_o0_x8_y, f5_p0_o0_x5_y]
        have : (txt v == txt w) = same v w := by
          rw [Bool.eq_iff_iff, same_iff, beq_iff_eq]
          exact ⟨hinj (hr v hrv) (hr w hrw), fun e => by rw [e]⟩
        rw [this]; simp
end Go.Pe.Tryd
