/- Values: which are the same. -/
import Derived.Test.YtgghmllnhaahgaaDoorPeXV10
set_option linter.unusedSectionVars false
set_option linter.unusedVariables false
set_option linter.unusedSimpArgs false
namespace Go.Pe.Tryd
open Go.Proofs Go.RowKit
set_option maxRecDepth 100000
mutual
def same : V → V → Bool
  | .mk k n s items keys, w => k == w.kind && (n == w.n && (s == w.s && (keys == w.keys && sameL items w.items)))
def sameL : List V → List V → Bool
  | [], l => l.isEmpty
  | v :: l, l' => match l' with | [] => false | w :: l' => same v w && sameL l l'
end
mutual
theorem same_iff : ∀ v w : V, same v w = true ↔ v = w
  | .mk k n s items keys, .mk k' n' s' items' keys' => by
    have ih := sameL_iff items items'
    simp only [same, V.kind, V.n, V.s, V.keys, V.items, Bool.and_eq_true, beq_iff_eq, ih, V.mk.injEq]
    constructor
    · rintro ⟨h1, h2, h3, h4, h5⟩; exact ⟨h1, h2, h3, h5, h4⟩
    · rintro ⟨h1, h2, h3, h4, h5⟩; exact ⟨h1, h2, h3, h5, h4⟩
theorem sameL_iff : ∀ l l' : List V, sameL l l' = true ↔ l = l'
  | [], l' => by cases l' <;> simp [sameL]
  | v :: l, [] => by simp [sameL]
  | v :: l, w :: l' => by
    simp only [sameL, Bool.and_eq_true, same_iff v w, sameL_iff l l', List.cons.injEq]
end
theorem same_eq (v w : V) [Decidable (v = w)] : same v w = decide (v = w) := by rw [Bool.eq_iff_iff, same_iff, decide_eq_true_eq]
theorem range_keys : ∀ (a b : List (List UInt8)), a.length = b.length → (List.range a.length).any (fun i => a.getD i [] != b.getD i []) = !(a == b) := by
  intro a b h
  rw [Bool.eq_iff_iff]
  simp only [List.any_eq_true, List.mem_range, bne_iff_ne, ne_eq, Bool.not_eq_true', beq_eq_false_iff_ne]
  constructor
  · rintro ⟨i, hi, hne⟩ e; exact hne (by rw [e])
  · intro hne
    refine Classical.byContradiction fun hall => hne (List.ext_getElem h fun i h1 h2 => ?_)
    have : ¬ ¬ a.getD i [] = b.getD i [] := fun hx => hall ⟨i, h1, hx⟩
    have := Classical.not_not.1 this
    rwa [getD_lt h1, getD_lt h2] at this
theorem range_items : ∀ (a b : List V), a.length = b.length → (List.range a.length).any (fun i => !same (a.getD i alV) (b.getD i alV)) = !sameL a b := by
  intro a b h
  rw [Bool.eq_iff_iff]
  simp only [List.any_eq_true, List.mem_range, Bool.not_eq_true']
  constructor
  · rintro ⟨i, hi, hne⟩
    cases hs : sameL a b with
    | false => rfl
    | true =>
      have e := (sameL_iff a b).1 hs
      rw [← e] at hne
      have : same (a.getD i alV) (a.getD i alV) = true := (same_iff _ _).2 rfl
      rw [this] at hne; cases hne
  · intro hne
    refine Classical.byContradiction fun hall => ?_
    have e : a = b := List.ext_getElem h fun i h1 h2 => by
      have h3 : same (a.getD i alV) (b.getD i alV) = true := by
        cases hx : same (a.getD i alV) (b.getD i alV) with
        | true => rfl
        | false => exact absurd ⟨i, h1, hx⟩ hall
      have := (same_iff _ _).1 h3
      rwa [getD_lt h1, getD_lt h2] at this
    rw [(sameL_iff a b).2 e] at hne; cases hne
theorem fuel_rec4 (r : List (Option (List SAV))) (k n : Int) (s : List UInt8) (items : List V) (keys : List (List UInt8)) (z : recsDen r) :
    keys.length ≤ fuelR (some [.hole (.int .i64), .hole (.int .i64), .hole .str, .hole (.list .value), .hole (.list .str)] :: r) ((k, (n, (s, (items, (keys, ()))))), z) := by
  simp only [fuelR, fuelL, SAV.fuel, Ty.fuel]; omega
/-! As the law tells it. -/
theorem rsame_step (G : argsDen f24_ps → Option (argsDen f24_rs)) (hG : Sound Tryd.prog 24 (pfun G)) (k n : Int) (s : List UInt8) (items : List V) (keys : List (List UInt8)) (k' n' : Int) (s' : List UInt8) (items' : List V) (keys' : List (List UInt8))
    (hl : items.length ≤ 4000) (hk : keys.length ≤ reachBytes) (ih : ∀ i (h : i < items.length) (h' : i < items'.length), G (va items[i], (va items'[i], ())) = some (same items[i] items'[i], ())) :
    f24_b G hG (va (.mk k n s items keys), (va (.mk k' n' s' items' keys'), ())) = some (same (.mk k n s items keys) (.mk k' n' s' items' keys'), ()) := by
  unfold reachBytes at hk
  rw [va_mk, va_mk, f24_eq, f24_p2_eq]
  simp only [same, V.kind, V.n, V.s, V.items, V.keys]
  have b1 : (k != k') = !(k == k') := rfl
  have b2 : (n != n') = !(n == n') := rfl
  have b3 : (s != s') = !(s == s') := rfl
  rw [b1, b2, b3]
  cases k == k' with
  | false => simp only [Bool.not_false, cond_true, Option.bind_some, f24_p2_o0_x43_y, Bool.false_and]
  | true =>
    rw [Bool.not_true, cond_false, Bool.true_and]
    cases n == n' with
    | false => simp only [Bool.not_false, cond_true, Option.bind_some, f24_p2_o0_x43_y, Bool.false_and]
    | true =>
      rw [Bool.not_true, cond_false, Bool.true_and]
      cases s == s' with
      | false => simp only [Bool.not_false, cond_true, Option.bind_some, f24_p2_o0_x43_y, Bool.false_and]
      | true =>
        rw [Bool.not_true, cond_false, Bool.true_and]
        by_cases hli : items.length = items'.length
        · have e1 : ((items.length : Int) != (items'.length : Int)) = false := by simp [hli]
          rw [e1, cond_false, Option.bind_some, f24_p2_o0_x43_y, f24_p2_o0_r0_0_y, f24_p2_o0_r0_1_y, f24_p2_o0_r0_2_y, f24_p2_o0_r0_3_y, f24_p2_o0_r0_4_y, f24_p2_o0_r1_0_y, f24_p2_o0_r1_1_y, f24_p2_o0_r1_2_y, f24_p2_o0_r1_3_y, f24_p2_o0_r1_4_y]
          by_cases hlk : keys.length = keys'.length
          · have e2 : ((keys.length : Int) != (keys'.length : Int)) = false := by simp [hlk]
            rw [e2, cond_false]
            have hr : (List.range keys.length).length = keys.length := by simp
            have e := go_scan (step := f24_p1_st G hG) (l := List.range keys.length) (fun i => f24_p1_y (keys.length : Int) (i : Int) k n s items keys k' n' s' items' keys') (fun i => keys.getD i [] != keys'.getD i []) (fun i => some (.inr (f24_p1_o1_y false))) (some (.inl (f24_p1_o0_y k n s items keys k' n' s' items' keys'))) (fun i hi rec => by
              have hi' : i < keys.length := by simpa using hi
              have hi2 : i < keys'.length := by omega
              rw [f24_p1_eq, lt_t hi', cond_true, nth_lt hi', Option.bind_some, nth_lt hi2, Option.bind_some, List.getElem_range, getD_lt hi', getD_lt hi2, nxb (by omega)]) (fun rec => by rw [hr, f24_p1_eq]; simp only [Int.lt_irrefl, decide_false, cond_false]) (by
                rw [hr, fuel_def]
                have : keys.length ≤ fuelR f24_p1_sh.recs (f24_p1_y (keys.length : Int) ((0 : Nat) : Int) k n s items keys k' n' s' items' keys').2.1 := fuel_rec4 _ _ _ _ _ _ _
                omega)
            have e' : go (f24_p1_st G hG) (f24_p1_y (keys.length : Int) (0 : Int) k n s items keys k' n' s' items' keys') = _ := e
            have hk2 := findIdx_any (fun i => keys.getD i [] != keys'.getD i []) (List.range keys.length)
            rw [range_keys keys keys' hlk] at hk2
            rw [e']
            cases hf : (List.range keys.length).findIdx? (fun i => keys.getD i [] != keys'.getD i []) with
            | some j =>
              rw [hf] at hk2
              have : (keys == keys') = false := by simpa using hk2.symm
              rw [this]; simp only [Option.bind_some, f24_p1_o1_x4_y, Bool.false_and]
            | none =>
              rw [hf] at hk2
              have hkk : (keys == keys') = true := by simpa using hk2.symm
              rw [hkk, Bool.true_and]
              simp only [Option.bind_some, f24_p1_o0_r0_0_y, f24_p1_o0_r0_1_y, f24_p1_o0_r0_2_y, f24_p1_o0_r0_3_y, f24_p1_o0_r0_4_y, f24_p1_o0_r1_0_y, f24_p1_o0_r1_1_y, f24_p1_o0_r1_2_y, f24_p1_o0_r1_3_y, f24_p1_o0_r1_4_y]
              have hr2 : (List.range items.length).length = items.length := by simp
              have g := go_scan (step := f24_p0_st G hG) (l := List.range items.length) (fun i => f24_p0_y (items.length : Int) (i : Int) k n s items keys k' n' s' items' keys') (fun i => !same (items.getD i alV) (items'.getD i alV)) (fun i => some (.inr (f24_p0_o1_y false))) (some (.inl f24_p0_o0_y)) (fun i hi rec => by
                have hi' : i < items.length := by simpa using hi
                have hi2 : i < items'.length := by omega
                rw [f24_p0_eq, lt_t hi', cond_true, nth_lt hi', Option.bind_some, nth_lt hi2, Option.bind_some, va_eta, va_eta, ih i hi' hi2, Option.bind_some, List.getElem_range, getD_lt hi', getD_lt hi2]
                dsimp only
                rw [nx (by omega)]) (fun rec => by rw [hr2, f24_p0_eq]; simp only [Int.lt_irrefl, decide_false, cond_false]) (by rw [hr2, fuel_def]; omega)
              have g' : go (f24_p0_st G hG) (f24_p0_y (items.length : Int) (0 : Int) k n s items keys k' n' s' items' keys') = _ := g
              have hi3 := findIdx_any (fun i => !same (items.getD i alV) (items'.getD i alV)) (List.range items.length)
              rw [range_items items items' hli] at hi3
              rw [g']
              cases hf2 : (List.range items.length).findIdx? (fun i => !same (items.getD i alV) (items'.getD i alV)) with
              | some j =>
                rw [hf2] at hi3
                have : sameL items items' = false := by simpa using hi3.symm
                rw [this]; simp only [Option.bind_some, f24_p0_o1_x4_y]
              | none =>
                rw [hf2] at hi3
                have : sameL items items' = true := by simpa using hi3.symm
                rw [this]; rfl
          · have e2 : ((keys.length : Int) != (keys'.length : Int)) = true := by simp; omega
            have e3 : (keys == keys') = false := by simp; intro e; exact hlk (by rw [e])
            rw [e2, cond_true, e3, Bool.false_and]
        · have e1 : ((items.length : Int) != (items'.length : Int)) = true := by simp; omega
          have e3 : sameL items items' = false := by
            cases hs : sameL items items' with
            | false => rfl
            | true => exact absurd (by rw [(sameL_iff _ _).1 hs]) hli
          rw [e1, cond_true, Option.bind_some, f24_p2_o0_x43_y, cond_true, e3, Bool.and_false]
theorem f24_next (n : Nat) : (f24_S (n + 1)).1 = f24_b (f24_S n).1 (f24_S n).2 := by kernel_rfl
theorem wf_keys {v : V} (h : WfV reachBytes v) : v.keys.length ≤ reachBytes := by cases h; assumption
theorem rsame_ok : ∀ (n : Nat) (v w : V), dep v ≤ n → cnt v ≤ 3000 → WfV reachBytes v → (f24_S n).1 (va v, (va w, ())) = some (same v w, ())
  | 0, v, _, h, _, _ => by have := dep_pos v; omega
  | n + 1, .mk k a s items keys, .mk k' a' s' items' keys', hd, hc, hw => by
    have hwi := wf_items hw
    have hwk := wf_keys hw
    simp only [dep, cnt] at hd hc
    have hl := cntL_len items
    rw [f24_next]
    exact rsame_step _ _ k a s items keys k' a' s' items' keys' (by omega) hwk fun i h h' => rsame_ok n items[i] items'[i] (by have := dep_mem (List.getElem_mem h); omega) (by have := cnt_mem (List.getElem_mem h); omega) (hwi _ (List.getElem_mem h))
theorem f24_ok' (v w : V) (h : cnt v ≤ 3000) (hw : WfV reachBytes v) : f24_F (va v, (va w, ())) = some (same v w, ()) := by
  unfold f24_F
  exact rsame_ok recN v w (by have := dep_le v; rw [recN_eq]; omega) h hw
end Go.Pe.Tryd
