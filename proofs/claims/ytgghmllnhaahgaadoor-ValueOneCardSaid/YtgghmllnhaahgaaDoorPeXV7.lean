/- The text of a value. -/
import Derived.Test.YtgghmllnhaahgaaDoorPeXV6
set_option linter.unusedSectionVars false
set_option linter.unusedVariables false
set_option linter.unusedSimpArgs false
namespace Go.Pe.Tryd
open Go.Proofs Go.RowKit
set_option maxRecDepth 100000
mutual
def txt : V → List UInt8
  | .mk k n s items keys => bif k == 1 then Lib.itoa n else bif k == 2 then quo s else bif k == 4 then 123 :: (txtL true 0 keys items ++ [125]) else 91 :: (txtL false 0 keys items ++ [93])
def txtL : Bool → Nat → List (List UInt8) → List V → List UInt8
  | _, _, _, [] => []
  | m, i, keys, v :: l => (bif decide (0 < i) then [44] else []) ++ ((bif m then quo (keys.getD i []) ++ [58] else []) ++ (txt v ++ txtL m (i + 1) keys l))
end
def pre (m : Bool) (keys : List (List UInt8)) (i : Nat) : List UInt8 := (bif decide (0 < i) then [44] else []) ++ (bif m then quo (keys.getD i []) ++ [58] else [])
theorem txtL_append (m : Bool) (keys : List (List UInt8)) : ∀ (a b : List V) (i : Nat), txtL m i keys (a ++ b) = txtL m i keys a ++ txtL m (i + a.length) keys b
  | [], b, i => by simp [txtL]
  | v :: a, b, i => by
    simp only [List.cons_append, txtL, txtL_append m keys a b (i + 1), List.append_assoc, List.length_cons]
    have : i + 1 + a.length = i + (a.length + 1) := by omega
    rw [this]
theorem txtL_take (m : Bool) (keys : List (List UInt8)) {items : List V} {i : Nat} (h : i < items.length) : txtL m 0 keys (items.take (i + 1)) = txtL m 0 keys (items.take i) ++ (pre m keys i ++ txt items[i]) := by
  rw [List.take_succ_eq_append_getElem h, txtL_append]
  have : 0 + (items.take i).length = i := by simp; omega
  rw [this]
  simp only [txtL, pre, List.append_nil, List.append_assoc]
theorem txtL_take_le (m : Bool) (keys : List (List UInt8)) (items : List V) (i : Nat) : (txtL m 0 keys (items.take i)).length ≤ (txtL m 0 keys items).length := by
  conv => rhs; rw [← List.take_append_drop i items, txtL_append]
  rw [List.length_append]; omega
/-! What may be: how long. -/
theorem kok_tok {ks : List (List UInt8)} (h : kok ks = true) {i : Nat} (hi : i < ks.length) : ks[i].length ≤ 4000 := by
  unfold kok at h
  simp only [Bool.not_eq_true', List.any_eq_false, List.mem_range] at h
  have := h i hi
  unfold kbad at this
  rw [getD_lt hi] at this
  simp only [Bool.or_eq_true, not_or, Bool.not_eq_true', Bool.not_eq_false] at this
  have h2 := this.1
  unfold tok at h2
  simp at h2
  exact h2.1
theorem mayP_1 {n : Int} {s items keys} (h : mayP 1 n s items keys = true) : -1099511627776 ≤ n ∧ n ≤ 1099511627776 := by
  unfold mayP at h
  simp at h
  exact ⟨h.2.2.1, h.2.2.2⟩
theorem mayP_2 {n : Int} {s items keys} (h : mayP 2 n s items keys = true) : s.length ≤ 4000 := by
  have q : ((2 : Int) == 1) = false := rfl
  have q2 : ((2 : Int) == 2) = true := rfl
  unfold mayP at h
  rw [q, q2, cond_false, cond_true] at h
  simp only [Bool.and_eq_true] at h
  have := h.2.2
  unfold tok at this
  simp at this
  exact this.1
theorem mayP_4 {n : Int} {s items keys} (h : mayP 4 n s items keys = true) : keys.length = items.length ∧ kok keys = true := by
  have q : ((4 : Int) == 1) = false := rfl
  have q2 : ((4 : Int) == 2) = false := rfl
  have q3 : ((4 : Int) == 3) = false := rfl
  unfold mayP at h
  rw [q, q2, q3, cond_false, cond_false, cond_false] at h
  simp only [Bool.and_eq_true, beq_iff_eq] at h
  exact ⟨by omega, h.2.2.2.2⟩
theorem dec_len : ∀ (k u : Nat), u < 10 ^ (k + 1) → (Lib.decDigits u).length ≤ k + 1
  | 0, u, h => by rw [Lib.decDigits]; simp at h; simp [h]
  | k + 1, u, h => by
    rw [Lib.decDigits]
    split
    · simp
    · have := dec_len k (u / 10) (by rw [Nat.pow_succ] at h; omega)
      simp; omega
theorem itoa_len {n : Int} (h1 : -1099511627776 ≤ n) (h2 : n ≤ 1099511627776) : (Lib.itoa n).length ≤ 14 := by
  have e : (10 : Nat) ^ 13 = 10000000000000 := by decide
  unfold Lib.itoa
  split
  · have := dec_len 12 n.natAbs (by rw [e]; omega)
    simp; omega
  · have := dec_len 12 n.toNat (by rw [e]; omega)
    omega
theorem pre_len {m : Bool} {keys : List (List UInt8)} {i : Nat} (h : m = true → ∀ j (hj : j < keys.length), keys[j].length ≤ 4000) : (pre m keys i).length ≤ 8004 := by
  unfold pre
  have h1 : (bif decide (0 < i) then [44] else [] : List UInt8).length ≤ 1 := by cases decide (0 < i) <;> simp
  have h2 : (bif m then quo (keys.getD i []) ++ [58] else []).length ≤ 8003 := by
    cases m with
    | false => simp
    | true =>
      have hq := quo_len (keys.getD i [])
      have : (keys.getD i []).length ≤ 4000 := by
        rcases Nat.lt_or_ge i keys.length with hi | hi
        · rw [getD_lt hi]; exact h rfl i hi
        · simp [List.getD_eq_getElem?_getD, hi]
      simp only [cond_true, List.length_append, List.length_singleton]; omega
  rw [List.length_append]; omega
theorem txtL_len (m : Bool) (keys : List (List UInt8)) (h : m = true → ∀ j (hj : j < keys.length), keys[j].length ≤ 4000) : ∀ (l : List V) (i : Nat), (∀ v ∈ l, (txt v).length + 8004 ≤ 17000 * cnt v) → (txtL m i keys l).length ≤ 17000 * cntL l
  | [], i, _ => by simp [txtL]
  | v :: l, i, hv => by
    have h1 := hv v (by simp)
    have h2 := txtL_len m keys h l (i + 1) fun u hu => hv u (by simp [hu])
    have h3 := pre_len (m := m) (keys := keys) (i := i) h
    unfold pre at h3
    rw [List.length_append] at h3
    simp only [txtL, List.length_append, cntL] at *
    omega
theorem txt_len : ∀ (n : Nat) (v : V), dep v ≤ n → each v = true → (txt v).length + 8004 ≤ 17000 * cnt v
  | 0, v, h, _ => by have := dep_pos v; omega
  | n + 1, .mk k a s items keys, hd, he => by
    simp only [dep] at hd
    simp only [each, Bool.and_eq_true] at he
    have hv : ∀ v ∈ items, (txt v).length + 8004 ≤ 17000 * cnt v := fun v hv => txt_len n v (by have := dep_mem hv; omega) (by
      have := he.2
      rw [eachL_all, List.all_eq_true] at this
      exact this v hv)
    simp only [txt, cnt]
    by_cases h1 : k = 1
    · subst h1
      have := mayP_1 he.1
      have := itoa_len this.1 this.2
      simp only [beq_self_eq_true, cond_true]; omega
    · have q1 : (k == 1) = false := by simp [h1]
      rw [q1, cond_false]
      by_cases h2 : k = 2
      · subst h2
        have := mayP_2 he.1
        have := quo_len s
        simp only [beq_self_eq_true, cond_true]; omega
      · have q2 : (k == 2) = false := by simp [h2]
        rw [q2, cond_false]
        by_cases h4 : k = 4
        · subst h4
          have h5 := mayP_4 he.1
          have := txtL_len true keys (fun _ j hj => kok_tok h5.2 hj) items 0 hv
          simp only [beq_self_eq_true, cond_true, List.length_cons, List.length_append, List.length_nil]; omega
        · have q4 : (k == 4) = false := by simp [h4]
          have := txtL_len false keys (fun h => by cases h) items 0 hv
          rw [q4, cond_false]
          simp only [List.length_cons, List.length_append, List.length_nil]; omega
/-! Writing into the builder. -/
theorem h53a_is (x : List UInt8) (l : List Int) (h : l.length + x.length ≤ 4294967296) : h53a_F (h53a_y x l) = some (h53a_o_y (x.length : Int) (l ++ bytesOf x)) := by
  rw [h53a_eq]
  show (appOk (l.length + (bytesOf x).length) _) = _
  rw [appOk_lt (by rw [bytesOf_len]; exact h)]; rfl
theorem h53_is (x : List UInt8) (h : x.length ≤ 4294967296) : h53_F (h53_y x) = some (h53_o_y (x.length : Int) (bytesOf x)) := by
  rw [h53_eq]
  show (appOk (0 + (bytesOf x).length) _) = _
  rw [appOk_lt (by rw [bytesOf_len]; omega)]; rfl
theorem h34a_items (G : h34a_I.den → Option h34a_O.den) (hG : SoundH Tryd.prog 34 ⟨h34a_I, h34a_O, G⟩) (x4 : List UInt8) (k n : Int) (s : List UInt8) (items : List V) (keys : List (List UInt8)) (l : List Int) (hl : items.length ≤ 4000) (hm : (k == 4) = true → keys.length = items.length ∧ ∀ j (hj : j < keys.length), keys[j].length ≤ 4000)
    (hlen : l.length + (txtL (k == 4) 0 keys items).length ≤ 4294967296) (ih : ∀ v ∈ items, ∀ l : List Int, l.length + (txt v).length ≤ 4294967296 → G (h34a_y v.kind v.n v.s v.items v.keys l) = some (h34a_o_y (l ++ bytesOf (txt v)))) :
    go (h34a_p2_st G hG) (h34a_p2_y x4 items (items.length : Int) (0 : Int) k n s items keys l) = some (h34a_p2_o0_y x4 (l ++ bytesOf (txtL (k == 4) 0 keys items))) := by
  have e := go_seq (step := (h34a_p2_st G hG)) (y := fun i => h34a_p2_y x4 items (items.length : Int) (i : Int) k n s items keys (l ++ bytesOf (txtL (k == 4) 0 keys (items.take i)))) (n := items.length) (r := some (h34a_p2_o0_y x4 (l ++ bytesOf (txtL (k == 4) 0 keys items)))) (fun i hi rec => by
    have hle := txtL_take_le (k == 4) keys items (i + 1)
    rw [txtL_take _ _ hi] at hle
    generalize hL : l ++ bytesOf (txtL (k == 4) 0 keys (items.take i)) = L at *
    have hLl : L.length + (pre (k == 4) keys i).length + (txt items[i]).length ≤ 4294967296 := by
      rw [← hL]; simp only [List.length_append, bytesOf_len] at *; omega
    have hn : l ++ bytesOf (txtL (k == 4) 0 keys (items.take (i + 1))) = L ++ bytesOf (pre (k == 4) keys i) ++ bytesOf (txt items[i]) := by
      rw [txtL_take _ _ hi, ← hL]; simp only [bytesOf_append, List.append_assoc]
    rw [hn]
    rw [h34a_p2_eq, lt_t hi, cond_true, nth_lt hi, Option.bind_some, h34a_p1_eq]
    have hc : (bif decide (((i : Nat) : Int) > (0 : Int)) then ((h53a_F (h53a_y ([44] : List UInt8) L)).bind fun z53 => some ((h34a_p1_o0_y x4 (i : Int) items (items.length : Int) (i : Int) k n s items keys items[i].kind items[i].n items[i].s items[i].items items[i].keys (h53a_o_l0 z53)))) else (some ((h34a_p1_o0_y x4 (i : Int) items (items.length : Int) (i : Int) k n s items keys items[i].kind items[i].n items[i].s items[i].items items[i].keys L)))) = some (h34a_p1_o0_y x4 (i : Int) items (items.length : Int) (i : Int) k n s items keys items[i].kind items[i].n items[i].s items[i].items items[i].keys (L ++ bytesOf (bif decide (0 < i) then [44] else []))) := by
      unfold pre at hLl
      by_cases h0 : 0 < i
      · have e1 : decide ((i : Int) > 0) = true := by simp; omega
        have e2 : decide (0 < i) = true := by simp [h0]
        rw [e1, e2, cond_true, cond_true, h53a_is _ _ (by rw [e2] at hLl; simp only [cond_true, List.length_append, List.length_singleton] at *; omega), Option.bind_some, h53a_o_l0_y]
      · have e1 : decide ((i : Int) > 0) = false := by simp; omega
        have e2 : decide (0 < i) = false := by simp [h0]
        rw [e1, e2, cond_false, cond_false]; simp [bytesOf]
    rw [hc, Option.bind_some]
    simp only [h34a_p1_o0_x4_y, h34a_p1_o0_x5_y, h34a_p1_o0_x31_y, h34a_p1_o0_x32_y, h34a_p1_o0_x33_y, h34a_p1_o0_r1_0_y, h34a_p1_o0_r1_1_y, h34a_p1_o0_r1_2_y, h34a_p1_o0_r1_3_y, h34a_p1_o0_r1_4_y, h34a_p1_o0_r2_0_y, h34a_p1_o0_r2_1_y, h34a_p1_o0_r2_2_y, h34a_p1_o0_r2_3_y, h34a_p1_o0_r2_4_y, h34a_p1_o0_l0_y]
    rw [h34a_p0_eq]
    have hk : (bif (k == (4 : Int)) then ((nth keys ((i : Nat) : Int)).bind fun y49 => (f54_F (y49, ())).bind fun r50 => (h53a_F (h53a_y r50.1 (L ++ bytesOf (bif decide (0 < i) then [44] else [])))).bind fun z51 => (h53a_F (h53a_y ([58] : List UInt8) (h53a_o_l0 z51))).bind fun z52 => some ((h34a_p0_o0_y x4 items (items.length : Int) (i : Int) k n s items keys items[i].kind items[i].n items[i].s items[i].items items[i].keys (h53a_o_l0 z52)))) else (some ((h34a_p0_o0_y x4 items (items.length : Int) (i : Int) k n s items keys items[i].kind items[i].n items[i].s items[i].items items[i].keys (L ++ bytesOf (bif decide (0 < i) then [44] else [])))))) = some (h34a_p0_o0_y x4 items (items.length : Int) (i : Int) k n s items keys items[i].kind items[i].n items[i].s items[i].items items[i].keys (L ++ bytesOf (pre (k == 4) keys i))) := by
      unfold pre at hLl ⊢
      cases hk4 : (k == 4) with
      | false => rw [cond_false, cond_false, List.append_nil]
      | true =>
        obtain ⟨hkl, hk2⟩ := hm hk4
        have hik : i < keys.length := by omega
        rw [hk4, getD_lt hik] at hLl
        rw [cond_true, cond_true, nth_lt hik, Option.bind_some, f54_ok' _ (by have := hk2 i hik; omega), Option.bind_some, getD_lt hik]
        simp only [cond_true, List.length_append, List.length_singleton] at hLl
        rw [h53a_is _ _ (by simp only [List.length_append, bytesOf_len]; omega), Option.bind_some, h53a_o_l0_y, h53a_is _ _ (by simp only [List.length_append, List.length_singleton, bytesOf_len]; omega), Option.bind_some, h53a_o_l0_y]
        simp only [bytesOf_append, List.append_assoc]
    rw [hk, Option.bind_some]
    simp only [h34a_p0_o0_x4_y, h34a_p0_o0_x31_y, h34a_p0_o0_x32_y, h34a_p0_o0_x33_y, h34a_p0_o0_r1_0_y, h34a_p0_o0_r1_1_y, h34a_p0_o0_r1_2_y, h34a_p0_o0_r1_3_y, h34a_p0_o0_r1_4_y, h34a_p0_o0_r2_0_y, h34a_p0_o0_r2_1_y, h34a_p0_o0_r2_2_y, h34a_p0_o0_r2_3_y, h34a_p0_o0_r2_4_y, h34a_p0_o0_l0_y]
    rw [ih _ (List.getElem_mem hi) _ (by simp only [List.length_append, bytesOf_len]; omega), Option.bind_some, h34a_o_l0_y, nx (by omega)]) (fun rec => by rw [h34a_p2_eq]; simp only [Int.lt_irrefl, decide_false, cond_false, List.take_length]) (by rw [fuel_def]; omega)
  have e0 : h34a_p2_y x4 items (items.length : Int) (0 : Int) k n s items keys l = h34a_p2_y x4 items (items.length : Int) ((0 : Nat) : Int) k n s items keys (l ++ bytesOf (txtL (k == 4) 0 keys (items.take 0))) := by simp [txtL, bytesOf]
  rw [e0]; exact e
theorem h34_items (x4 : List UInt8) (k n : Int) (s : List UInt8) (items : List V) (keys : List (List UInt8)) (l : List Int) (hl : items.length ≤ 4000) (hm : (k == 4) = true → keys.length = items.length ∧ ∀ j (hj : j < keys.length), keys[j].length ≤ 4000)
    (hlen : l.length + (txtL (k == 4) 0 keys items).length ≤ 4294967296) (ih : ∀ v ∈ items, ∀ l : List Int, l.length + (txt v).length ≤ 4294967296 → h34a_F (h34a_y v.kind v.n v.s v.items v.keys l) = some (h34a_o_y (l ++ bytesOf (txt v)))) :
    go h34_p2_st (h34_p2_y x4 items (items.length : Int) (0 : Int) k n s items keys l) = some (h34_p2_o0_y x4 (l ++ bytesOf (txtL (k == 4) 0 keys items))) := by
  have e := go_seq (step := h34_p2_st) (y := fun i => h34_p2_y x4 items (items.length : Int) (i : Int) k n s items keys (l ++ bytesOf (txtL (k == 4) 0 keys (items.take i)))) (n := items.length) (r := some (h34_p2_o0_y x4 (l ++ bytesOf (txtL (k == 4) 0 keys items)))) (fun i hi rec => by
    have hle := txtL_take_le (k == 4) keys items (i + 1)
    rw [txtL_take _ _ hi] at hle
    generalize hL : l ++ bytesOf (txtL (k == 4) 0 keys (items.take i)) = L at *
    have hLl : L.length + (pre (k == 4) keys i).length + (txt items[i]).length ≤ 4294967296 := by
      rw [← hL]; simp only [List.length_append, bytesOf_len] at *; omega
    have hn : l ++ bytesOf (txtL (k == 4) 0 keys (items.take (i + 1))) = L ++ bytesOf (pre (k == 4) keys i) ++ bytesOf (txt items[i]) := by
      rw [txtL_take _ _ hi, ← hL]; simp only [bytesOf_append, List.append_assoc]
    rw [hn]
    rw [h34_p2_eq, lt_t hi, cond_true, nth_lt hi, Option.bind_some, h34_p1_eq]
    have hc : (bif decide (((i : Nat) : Int) > (0 : Int)) then ((h53a_F (h53a_y ([44] : List UInt8) L)).bind fun z53 => some ((h34_p1_o0_y x4 (i : Int) items (items.length : Int) (i : Int) k n s items keys items[i].kind items[i].n items[i].s items[i].items items[i].keys (h53a_o_l0 z53)))) else (some ((h34_p1_o0_y x4 (i : Int) items (items.length : Int) (i : Int) k n s items keys items[i].kind items[i].n items[i].s items[i].items items[i].keys L)))) = some (h34_p1_o0_y x4 (i : Int) items (items.length : Int) (i : Int) k n s items keys items[i].kind items[i].n items[i].s items[i].items items[i].keys (L ++ bytesOf (bif decide (0 < i) then [44] else []))) := by
      unfold pre at hLl
      by_cases h0 : 0 < i
      · have e1 : decide ((i : Int) > 0) = true := by simp; omega
        have e2 : decide (0 < i) = true := by simp [h0]
        rw [e1, e2, cond_true, cond_true, h53a_is _ _ (by rw [e2] at hLl; simp only [cond_true, List.length_append, List.length_singleton] at *; omega), Option.bind_some, h53a_o_l0_y]
      · have e1 : decide ((i : Int) > 0) = false := by simp; omega
        have e2 : decide (0 < i) = false := by simp [h0]
        rw [e1, e2, cond_false, cond_false]; simp [bytesOf]
    rw [hc, Option.bind_some]
    simp only [h34_p1_o0_x4_y, h34_p1_o0_x5_y, h34_p1_o0_x31_y, h34_p1_o0_x32_y, h34_p1_o0_x33_y, h34_p1_o0_r1_0_y, h34_p1_o0_r1_1_y, h34_p1_o0_r1_2_y, h34_p1_o0_r1_3_y, h34_p1_o0_r1_4_y, h34_p1_o0_r2_0_y, h34_p1_o0_r2_1_y, h34_p1_o0_r2_2_y, h34_p1_o0_r2_3_y, h34_p1_o0_r2_4_y, h34_p1_o0_l0_y]
    rw [h34_p0_eq]
    have hk : (bif (k == (4 : Int)) then ((nth keys ((i : Nat) : Int)).bind fun y49 => (f54_F (y49, ())).bind fun r50 => (h53a_F (h53a_y r50.1 (L ++ bytesOf (bif decide (0 < i) then [44] else [])))).bind fun z51 => (h53a_F (h53a_y ([58] : List UInt8) (h53a_o_l0 z51))).bind fun z52 => some ((h34_p0_o0_y x4 items (items.length : Int) (i : Int) k n s items keys items[i].kind items[i].n items[i].s items[i].items items[i].keys (h53a_o_l0 z52)))) else (some ((h34_p0_o0_y x4 items (items.length : Int) (i : Int) k n s items keys items[i].kind items[i].n items[i].s items[i].items items[i].keys (L ++ bytesOf (bif decide (0 < i) then [44] else [])))))) = some (h34_p0_o0_y x4 items (items.length : Int) (i : Int) k n s items keys items[i].kind items[i].n items[i].s items[i].items items[i].keys (L ++ bytesOf (pre (k == 4) keys i))) := by
      unfold pre at hLl ⊢
      cases hk4 : (k == 4) with
      | false => rw [cond_false, cond_false, List.append_nil]
      | true =>
        obtain ⟨hkl, hk2⟩ := hm hk4
        have hik : i < keys.length := by omega
        rw [hk4, getD_lt hik] at hLl
        rw [cond_true, cond_true, nth_lt hik, Option.bind_some, f54_ok' _ (by have := hk2 i hik; omega), Option.bind_some, getD_lt hik]
        simp only [cond_true, List.length_append, List.length_singleton] at hLl
        rw [h53a_is _ _ (by simp only [List.length_append, bytesOf_len]; omega), Option.bind_some, h53a_o_l0_y, h53a_is _ _ (by simp only [List.length_append, List.length_singleton, bytesOf_len]; omega), Option.bind_some, h53a_o_l0_y]
        simp only [bytesOf_append, List.append_assoc]
    rw [hk, Option.bind_some]
    simp only [h34_p0_o0_x4_y, h34_p0_o0_x31_y, h34_p0_o0_x32_y, h34_p0_o0_x33_y, h34_p0_o0_r1_0_y, h34_p0_o0_r1_1_y, h34_p0_o0_r1_2_y, h34_p0_o0_r1_3_y, h34_p0_o0_r1_4_y, h34_p0_o0_r2_0_y, h34_p0_o0_r2_1_y, h34_p0_o0_r2_2_y, h34_p0_o0_r2_3_y, h34_p0_o0_r2_4_y, h34_p0_o0_l0_y]
    rw [ih _ (List.getElem_mem hi) _ (by simp only [List.length_append, bytesOf_len]; omega), Option.bind_some, h34a_o_l0_y, nx (by omega)]) (fun rec => by rw [h34_p2_eq]; simp only [Int.lt_irrefl, decide_false, cond_false, List.take_length]) (by rw [fuel_def]; omega)
  have e0 : h34_p2_y x4 items (items.length : Int) (0 : Int) k n s items keys l = h34_p2_y x4 items (items.length : Int) ((0 : Nat) : Int) k n s items keys (l ++ bytesOf (txtL (k == 4) 0 keys (items.take 0))) := by simp [txtL, bytesOf]
  rw [e0]; exact e
end Go.Pe.Tryd
