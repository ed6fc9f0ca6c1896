/- Texts of the proof, what is used of them: XV7, XV8, XV9, XV10, XV11, XV13, PPd1, PPd3, PPd5, PPd6, PPd7, PPd8, PB1, PB2, Lib3Tryd, GPd3, GPd3q, PO1, CardTryd. -/
import Derived.Test.YtgghmllnhaahgaaDoorProg
import Derived.Lib.LaidU8
import Derived.Lib.LaidTab
import Derived.Shelf.Vars
import Derived.HandedShaped
import Derived.Handed
import Derived.Lay
import Derived.MakeChecks
import Derived.Test.YtgghmllnhaahgaaDoorPeZPOne6
section
set_option linter.unusedSectionVars false
set_option linter.unusedVariables false
set_option linter.unusedSimpArgs false
namespace Go.Pe.Tryd
open Go.Proofs Go.RowKit
set_option maxRecDepth 100000
mutual
def txt : V → List UInt8
  | .mk k n s items keys => bif k == 1 then Lib.itoa n else bif k == 2 then quo s else bif k == 4 then 123 :: (txtL true 0 keys items ++ [125]) else 91 :: (txtL false 0 keys items ++ [93])
def txtL : Bool → Nat → List (List UInt8) → List V → List UInt8
  | _, _, _, [] => []
  | m, i, keys, v :: l => (bif decide (0 < i) then [44] else []) ++ ((bif m then quo (keys.getD i []) ++ [58] else []) ++ (txt v ++ txtL m (i + 1) keys l))
end
def pre (m : Bool) (keys : List (List UInt8)) (i : Nat) : List UInt8 := (bif decide (0 < i) then [44] else []) ++ (bif m then quo (keys.getD i []) ++ [58] else [])
theorem txtL_append (m : Bool) (keys : List (List UInt8)) : ∀ (a b : List V) (i : Nat), txtL m i keys (a ++ b) = txtL m i keys a ++ txtL m (i + a.length) keys b
  | [], b, i => by simp [txtL]
  | v :: a, b, i => by
    simp only [List.cons_append, txtL, txtL_append m keys a b (i + 1), List.append_assoc, List.length_cons]
    have : i + 1 + a.length = i + (a.length + 1) := by omega
    rw [this]
theorem txtL_take (m : Bool) (keys : List (List UInt8)) {items : List V} {i : Nat} (h : i < items.length) : txtL m 0 keys (items.take (i + 1)) = txtL m 0 keys (items.take i) ++ (pre m keys i ++ txt items[i]) := by
  rw [List.take_succ_eq_append_getElem h, txtL_append]
  have : 0 + (items.take i).length = i := by simp; omega
  rw [this]
  simp only [txtL, pre, List.append_nil, List.append_assoc]
theorem txtL_take_le (m : Bool) (keys : List (List UInt8)) (items : List V) (i : Nat) : (txtL m 0 keys (items.take i)).length ≤ (txtL m 0 keys items).length := by
  conv => rhs; rw [← List.take_append_drop i items, txtL_append]
  rw [List.length_append]; omega
theorem kok_tok {ks : List (List UInt8)} (h : kok ks = true) {i : Nat} (hi : i < ks.length) : ks[i].length ≤ 4000 := by
  unfold kok at h
  simp only [Bool.not_eq_true', List.any_eq_false, List.mem_range] at h
  have := h i hi
  unfold kbad at this
  rw [getD_lt hi] at this
  simp only [Bool.or_eq_true, not_or, Bool.not_eq_true', Bool.not_eq_false] at this
  have h2 := this.1
  unfold tok at h2
  simp at h2
  exact h2.1
theorem mayP_1 {n : Int} {s items keys} (h : mayP 1 n s items keys = true) : -1099511627776 ≤ n ∧ n ≤ 1099511627776 := by
  unfold mayP at h
  simp at h
  exact ⟨h.2.2.1, h.2.2.2⟩
theorem mayP_2 {n : Int} {s items keys} (h : mayP 2 n s items keys = true) : s.length ≤ 4000 := by
  have q : ((2 : Int) == 1) = false := rfl
  have q2 : ((2 : Int) == 2) = true := rfl
  unfold mayP at h
  rw [q, q2, cond_false, cond_true] at h
  simp only [Bool.and_eq_true] at h
  have := h.2.2
  unfold tok at this
  simp at this
  exact this.1
theorem mayP_4 {n : Int} {s items keys} (h : mayP 4 n s items keys = true) : keys.length = items.length ∧ kok keys = true := by
  have q : ((4 : Int) == 1) = false := rfl
  have q2 : ((4 : Int) == 2) = false := rfl
  have q3 : ((4 : Int) == 3) = false := rfl
  unfold mayP at h
  rw [q, q2, q3, cond_false, cond_false, cond_false] at h
  simp only [Bool.and_eq_true, beq_iff_eq] at h
  exact ⟨by omega, h.2.2.2.2⟩
theorem dec_len : ∀ (k u : Nat), u < 10 ^ (k + 1) → (Lib.decDigits u).length ≤ k + 1
  | 0, u, h => by rw [Lib.decDigits]; simp at h; simp [h]
  | k + 1, u, h => by
    rw [Lib.decDigits]
    split
    · simp
    · have := dec_len k (u / 10) (by rw [Nat.pow_succ] at h; omega)
      simp; omega
theorem itoa_len {n : Int} (h1 : -1099511627776 ≤ n) (h2 : n ≤ 1099511627776) : (Lib.itoa n).length ≤ 14 := by
  have e : (10 : Nat) ^ 13 = 10000000000000 := by decide
  unfold Lib.itoa
  split
  · have := dec_len 12 n.natAbs (by rw [e]; omega)
    simp; omega
  · have := dec_len 12 n.toNat (by rw [e]; omega)
    omega
theorem pre_len {m : Bool} {keys : List (List UInt8)} {i : Nat} (h : m = true → ∀ j (hj : j < keys.length), keys[j].length ≤ 4000) : (pre m keys i).length ≤ 8004 := by
  unfold pre
  have h1 : (bif decide (0 < i) then [44] else [] : List UInt8).length ≤ 1 := by cases decide (0 < i) <;> simp
  have h2 : (bif m then quo (keys.getD i []) ++ [58] else []).length ≤ 8003 := by
    cases m with
    | false => simp
    | true =>
      have hq := quo_len (keys.getD i [])
      have : (keys.getD i []).length ≤ 4000 := by
        rcases Nat.lt_or_ge i keys.length with hi | hi
        · rw [getD_lt hi]; exact h rfl i hi
        · simp [List.getD_eq_getElem?_getD, hi]
      simp only [cond_true, List.length_append, List.length_singleton]; omega
  rw [List.length_append]; omega
theorem txtL_len (m : Bool) (keys : List (List UInt8)) (h : m = true → ∀ j (hj : j < keys.length), keys[j].length ≤ 4000) : ∀ (l : List V) (i : Nat), (∀ v ∈ l, (txt v).length + 8004 ≤ 17000 * cnt v) → (txtL m i keys l).length ≤ 17000 * cntL l
  | [], i, _ => by simp [txtL]
  | v :: l, i, hv => by
    have h1 := hv v (by simp)
    have h2 := txtL_len m keys h l (i + 1) fun u hu => hv u (by simp [hu])
    have h3 := pre_len (m := m) (keys := keys) (i := i) h
    unfold pre at h3
    rw [List.length_append] at h3
    simp only [txtL, List.length_append, cntL] at *
    omega
theorem txt_len : ∀ (n : Nat) (v : V), dep v ≤ n → each v = true → (txt v).length + 8004 ≤ 17000 * cnt v
  | 0, v, h, _ => by have := dep_pos v; omega
  | n + 1, .mk k a s items keys, hd, he => by
    simp only [dep] at hd
    simp only [each, Bool.and_eq_true] at he
    have hv : ∀ v ∈ items, (txt v).length + 8004 ≤ 17000 * cnt v := fun v hv => txt_len n v (by have := dep_mem hv; omega) (by
      have := he.2
      rw [eachL_all, List.all_eq_true] at this
      exact this v hv)
    simp only [txt, cnt]
    by_cases h1 : k = 1
    · subst h1
      have := mayP_1 he.1
      have := itoa_len this.1 this.2
      simp only [beq_self_eq_true, cond_true]; omega
    · have q1 : (k == 1) = false := by simp [h1]
      rw [q1, cond_false]
      by_cases h2 : k = 2
      · subst h2
        have := mayP_2 he.1
        have := quo_len s
        simp only [beq_self_eq_true, cond_true]; omega
      · have q2 : (k == 2) = false := by simp [h2]
        rw [q2, cond_false]
        by_cases h4 : k = 4
        · subst h4
          have h5 := mayP_4 he.1
          have := txtL_len true keys (fun _ j hj => kok_tok h5.2 hj) items 0 hv
          simp only [beq_self_eq_true, cond_true, List.length_cons, List.length_append, List.length_nil]; omega
        · have q4 : (k == 4) = false := by simp [h4]
          have := txtL_len false keys (fun h => by cases h) items 0 hv
          rw [q4, cond_false]
          simp only [List.length_cons, List.length_append, List.length_nil]; omega
theorem h53a_is (x : List UInt8) (l : List Int) (h : l.length + x.length ≤ 4294967296) : h53a_F (h53a_y x l) = some (h53a_o_y (x.length : Int) (l ++ bytesOf x)) := by
  rw [h53a_eq]
  show (appOk (l.length + (bytesOf x).length) _) = _
  rw [appOk_lt (by rw [bytesOf_len]; exact h)]; rfl
theorem h53_is (x : List UInt8) (h : x.length ≤ 4294967296) : h53_F (h53_y x) = some (h53_o_y (x.length : Int) (bytesOf x)) := by
  rw [h53_eq]
  show (appOk (0 + (bytesOf x).length) _) = _
  rw [appOk_lt (by rw [bytesOf_len]; omega)]; rfl
theorem h34a_items (G : h34a_I.den → Option h34a_O.den) (hG : SoundH Tryd.prog 34 ⟨h34a_I, h34a_O, G⟩) (x4 : List UInt8) (k n : Int) (s : List UInt8) (items : List V) (keys : List (List UInt8)) (l : List Int) (hl : items.length ≤ 4000) (hm : (k == 4) = true → keys.length = items.length ∧ ∀ j (hj : j < keys.length), keys[j].length ≤ 4000)
    (hlen : l.length + (txtL (k == 4) 0 keys items).length ≤ 4294967296) (ih : ∀ v ∈ items, ∀ l : List Int, l.length + (txt v).length ≤ 4294967296 → G (h34a_y v.kind v.n v.s v.items v.keys l) = some (h34a_o_y (l ++ bytesOf (txt v)))) :
    go (h34a_p2_st G hG) (h34a_p2_y x4 items (items.length : Int) (0 : Int) k n s items keys l) = some (h34a_p2_o0_y x4 (l ++ bytesOf (txtL (k == 4) 0 keys items))) := by
  have e := go_seq (step := (h34a_p2_st G hG)) (y := fun i => h34a_p2_y x4 items (items.length : Int) (i : Int) k n s items keys (l ++ bytesOf (txtL (k == 4) 0 keys (items.take i)))) (n := items.length) (r := some (h34a_p2_o0_y x4 (l ++ bytesOf (txtL (k == 4) 0 keys items)))) (fun i hi rec => by
    have hle := txtL_take_le (k == 4) keys items (i + 1)
    rw [txtL_take _ _ hi] at hle
    generalize hL : l ++ bytesOf (txtL (k == 4) 0 keys (items.take i)) = L at *
    have hLl : L.length + (pre (k == 4) keys i).length + (txt items[i]).length ≤ 4294967296 := by
      rw [← hL]; simp only [List.length_append, bytesOf_len] at *; omega
    have hn : l ++ bytesOf (txtL (k == 4) 0 keys (items.take (i + 1))) = L ++ bytesOf (pre (k == 4) keys i) ++ bytesOf (txt items[i]) := by
      rw [txtL_take _ _ hi, ← hL]; simp only [bytesOf_append, List.append_assoc]
    rw [hn]
    rw [h34a_p2_eq, lt_t hi, cond_true, nth_lt hi, Option.bind_some, h34a_p1_eq]
    have hc : (bif decide (((i : Nat) : Int) > (0 : Int)) then ((h53a_F (h53a_y ([44] : List UInt8) L)).bind fun z53 => some ((h34a_p1_o0_y x4 (i : Int) items (items.length : Int) (i : Int) k n s items keys items[i].kind items[i].n items[i].s items[i].items items[i].keys (h53a_o_l0 z53)))) else (some ((h34a_p1_o0_y x4 (i : Int) items (items.length : Int) (i : Int) k n s items keys items[i].kind items[i].n items[i].s items[i].items items[i].keys L)))) = some (h34a_p1_o0_y x4 (i : Int) items (items.length : Int) (i : Int) k n s items keys items[i].kind items[i].n items[i].s items[i].items items[i].keys (L ++ bytesOf (bif decide (0 < i) then [44] else []))) := by
      unfold pre at hLl
      by_cases h0 : 0 < i
      · have e1 : decide ((i : Int) > 0) = true := by simp; omega
        have e2 : decide (0 < i) = true := by simp [h0]
        rw [e1, e2, cond_true, cond_true, h53a_is _ _ (by rw [e2] at hLl; simp only [cond_true, List.length_append, List.length_singleton] at *; omega), Option.bind_some, h53a_o_l0_y]
      · have e1 : decide ((i : Int) > 0) = false := by simp; omega
        have e2 : decide (0 < i) = false := by simp [h0]
        rw [e1, e2, cond_false, cond_false]; simp [bytesOf]
    rw [hc, Option.bind_some]
    simp only [h34a_p1_o0_x4_y, h34a_p1_o0_x5_y, h34a_p1_o0_x31_y, h34a_p1_o0_x32_y, h34a_p1_o0_x33_y, h34a_p1_o0_r1_0_y, h34a_p1_o0_r1_1_y, h34a_p1_o0_r1_2_y, h34a_p1_o0_r1_3_y, h34a_p1_o0_r1_4_y, h34a_p1_o0_r2_0_y, h34a_p1_o0_r2_1_y, h34a_p1_o0_r2_2_y, h34a_p1_o0_r2_3_y, h34a_p1_o0_r2_4_y, h34a_p1_o0_l0_y]
    rw [h34a_p0_eq]
    have hk : (bif (k == (4 : Int)) then ((nth keys ((i : Nat) : Int)).bind fun y49 => (f54_F (y49, ())).bind fun r50 => (h53a_F (h53a_y r50.1 (L ++ bytesOf (bif decide (0 < i) then [44] else [])))).bind fun z51 => (h53a_F (h53a_y ([58] : List UInt8) (h53a_o_l0 z51))).bind fun z52 => some ((h34a_p0_o0_y x4 items (items.length : Int) (i : Int) k n s items keys items[i].kind items[i].n items[i].s items[i].items items[i].keys (h53a_o_l0 z52)))) else (some ((h34a_p0_o0_y x4 items (items.length : Int) (i : Int) k n s items keys items[i].kind items[i].n items[i].s items[i].items items[i].keys (L ++ bytesOf (bif decide (0 < i) then [44] else [])))))) = some (h34a_p0_o0_y x4 items (items.length : Int) (i : Int) k n s items keys items[i].kind items[i].n items[i].s items[i].items items[i].keys (L ++ bytesOf (pre (k == 4) keys i))) := by
      unfold pre at hLl ⊢
      cases hk4 : (k == 4) with
      | false => rw [cond_false, cond_false, List.append_nil]
      | true =>
        obtain ⟨hkl, hk2⟩ := hm hk4
        have hik : i < keys.length := by omega
        rw [hk4, getD_lt hik] at hLl
        rw [cond_true, cond_true, nth_lt hik, Option.bind_some, f54_ok' _ (by have := hk2 i hik; omega), Option.bind_some, getD_lt hik]
        simp only [cond_true, List.length_append, List.length_singleton] at hLl
        rw [h53a_is _ _ (by simp only [List.length_append, bytesOf_len]; omega), Option.bind_some, h53a_o_l0_y, h53a_is _ _ (by simp only [List.length_append, List.length_singleton, bytesOf_len]; omega), Option.bind_some, h53a_o_l0_y]
        simp only [bytesOf_append, List.append_assoc]
    rw [hk, Option.bind_some]
    simp only [h34a_p0_o0_x4_y, h34a_p0_o0_x31_y, h34a_p0_o0_x32_y, h34a_p0_o0_x33_y, h34a_p0_o0_r1_0_y, h34a_p0_o0_r1_1_y, h34a_p0_o0_r1_2_y, h34a_p0_o0_r1_3_y, h34a_p0_o0_r1_4_y, h34a_p0_o0_r2_0_y, h34a_p0_o0_r2_1_y, h34a_p0_o0_r2_2_y, h34a_p0_o0_r2_3_y, h34a_p0_o0_r2_4_y, h34a_p0_o0_l0_y]
    rw [ih _ (List.getElem_mem hi) _ (by simp only [List.length_append, bytesOf_len]; omega), Option.bind_some, h34a_o_l0_y, nx (by omega)]) (fun rec => by rw [h34a_p2_eq]; simp only [Int.lt_irrefl, decide_false, cond_false, List.take_length]) (by rw [fuel_def]; omega)
  have e0 : h34a_p2_y x4 items (items.length : Int) (0 : Int) k n s items keys l = h34a_p2_y x4 items (items.length : Int) ((0 : Nat) : Int) k n s items keys (l ++ bytesOf (txtL (k == 4) 0 keys (items.take 0))) := by simp [txtL, bytesOf]
  rw [e0]; exact e
theorem h34_items (x4 : List UInt8) (k n : Int) (s : List UInt8) (items : List V) (keys : List (List UInt8)) (l : List Int) (hl : items.length ≤ 4000) (hm : (k == 4) = true → keys.length = items.length ∧ ∀ j (hj : j < keys.length), keys[j].length ≤ 4000)
    (hlen : l.length + (txtL (k == 4) 0 keys items).length ≤ 4294967296) (ih : ∀ v ∈ items, ∀ l : List Int, l.length + (txt v).length ≤ 4294967296 → h34a_F (h34a_y v.kind v.n v.s v.items v.keys l) = some (h34a_o_y (l ++ bytesOf (txt v)))) :
    go h34_p2_st (h34_p2_y x4 items (items.length : Int) (0 : Int) k n s items keys l) = some (h34_p2_o0_y x4 (l ++ bytesOf (txtL (k == 4) 0 keys items))) := by
  have e := go_seq (step := h34_p2_st) (y := fun i => h34_p2_y x4 items (items.length : Int) (i : Int) k n s items keys (l ++ bytesOf (txtL (k == 4) 0 keys (items.take i)))) (n := items.length) (r := some (h34_p2_o0_y x4 (l ++ bytesOf (txtL (k == 4) 0 keys items)))) (fun i hi rec => by
    have hle := txtL_take_le (k == 4) keys items (i + 1)
    rw [txtL_take _ _ hi] at hle
    generalize hL : l ++ bytesOf (txtL (k == 4) 0 keys (items.take i)) = L at *
    have hLl : L.length + (pre (k == 4) keys i).length + (txt items[i]).length ≤ 4294967296 := by
      rw [← hL]; simp only [List.length_append, bytesOf_len] at *; omega
    have hn : l ++ bytesOf (txtL (k == 4) 0 keys (items.take (i + 1))) = L ++ bytesOf (pre (k == 4) keys i) ++ bytesOf (txt items[i]) := by
      rw [txtL_take _ _ hi, ← hL]; simp only [bytesOf_append, List.append_assoc]
    rw [hn]
    rw [h34_p2_eq, lt_t hi, cond_true, nth_lt hi, Option.bind_some, h34_p1_eq]
    have hc : (bif decide (((i : Nat) : Int) > (0 : Int)) then ((h53a_F (h53a_y ([44] : List UInt8) L)).bind fun z53 => some ((h34_p1_o0_y x4 (i : Int) items (items.length : Int) (i : Int) k n s items keys items[i].kind items[i].n items[i].s items[i].items items[i].keys (h53a_o_l0 z53)))) else (some ((h34_p1_o0_y x4 (i : Int) items (items.length : Int) (i : Int) k n s items keys items[i].kind items[i].n items[i].s items[i].items items[i].keys L)))) = some (h34_p1_o0_y x4 (i : Int) items (items.length : Int) (i : Int) k n s items keys items[i].kind items[i].n items[i].s items[i].items items[i].keys (L ++ bytesOf (bif decide (0 < i) then [44] else []))) := by
      unfold pre at hLl
      by_cases h0 : 0 < i
      · have e1 : decide ((i : Int) > 0) = true := by simp; omega
        have e2 : decide (0 < i) = true := by simp [h0]
        rw [e1, e2, cond_true, cond_true, h53a_is _ _ (by rw [e2] at hLl; simp only [cond_true, List.length_append, List.length_singleton] at *; omega), Option.bind_some, h53a_o_l0_y]
      · have e1 : decide ((i : Int) > 0) = false := by simp; omega
        have e2 : decide (0 < i) = false := by simp [h0]
        rw [e1, e2, cond_false, cond_false]; simp [bytesOf]
    rw [hc, Option.bind_some]
    simp only [h34_p1_o0_x4_y, h34_p1_o0_x5_y, h34_p1_o0_x31_y, h34_p1_o0_x32_y, h34_p1_o0_x33_y, h34_p1_o0_r1_0_y, h34_p1_o0_r1_1_y, h34_p1_o0_r1_2_y, h34_p1_o0_r1_3_y, h34_p1_o0_r1_4_y, h34_p1_o0_r2_0_y, h34_p1_o0_r2_1_y, h34_p1_o0_r2_2_y, h34_p1_o0_r2_3_y, h34_p1_o0_r2_4_y, h34_p1_o0_l0_y]
    rw [h34_p0_eq]
    have hk : (bif (k == (4 : Int)) then ((nth keys ((i : Nat) : Int)).bind fun y49 => (f54_F (y49, ())).bind fun r50 => (h53a_F (h53a_y r50.1 (L ++ bytesOf (bif decide (0 < i) then [44] else [])))).bind fun z51 => (h53a_F (h53a_y ([58] : List UInt8) (h53a_o_l0 z51))).bind fun z52 => some ((h34_p0_o0_y x4 items (items.length : Int) (i : Int) k n s items keys items[i].kind items[i].n items[i].s items[i].items items[i].keys (h53a_o_l0 z52)))) else (some ((h34_p0_o0_y x4 items (items.length : Int) (i : Int) k n s items keys items[i].kind items[i].n items[i].s items[i].items items[i].keys (L ++ bytesOf (bif decide (0 < i) then [44] else [])))))) = some (h34_p0_o0_y x4 items (items.length : Int) (i : Int) k n s items keys items[i].kind items[i].n items[i].s items[i].items items[i].keys (L ++ bytesOf (pre (k == 4) keys i))) := by
      unfold pre at hLl ⊢
      cases hk4 : (k == 4) with
      | false => rw [cond_false, cond_false, List.append_nil]
      | true =>
        obtain ⟨hkl, hk2⟩ := hm hk4
        have hik : i < keys.length := by omega
        rw [hk4, getD_lt hik] at hLl
        rw [cond_true, cond_true, nth_lt hik, Option.bind_some, f54_ok' _ (by have := hk2 i hik; omega), Option.bind_some, getD_lt hik]
        simp only [cond_true, List.length_append, List.length_singleton] at hLl
        rw [h53a_is _ _ (by simp only [List.length_append, bytesOf_len]; omega), Option.bind_some, h53a_o_l0_y, h53a_is _ _ (by simp only [List.length_append, List.length_singleton, bytesOf_len]; omega), Option.bind_some, h53a_o_l0_y]
        simp only [bytesOf_append, List.append_assoc]
    rw [hk, Option.bind_some]
    simp only [h34_p0_o0_x4_y, h34_p0_o0_x31_y, h34_p0_o0_x32_y, h34_p0_o0_x33_y, h34_p0_o0_r1_0_y, h34_p0_o0_r1_1_y, h34_p0_o0_r1_2_y, h34_p0_o0_r1_3_y, h34_p0_o0_r1_4_y, h34_p0_o0_r2_0_y, h34_p0_o0_r2_1_y, h34_p0_o0_r2_2_y, h34_p0_o0_r2_3_y, h34_p0_o0_r2_4_y, h34_p0_o0_l0_y]
    rw [ih _ (List.getElem_mem hi) _ (by simp only [List.length_append, bytesOf_len]; omega), Option.bind_some, h34a_o_l0_y, nx (by omega)]) (fun rec => by rw [h34_p2_eq]; simp only [Int.lt_irrefl, decide_false, cond_false, List.take_length]) (by rw [fuel_def]; omega)
  have e0 : h34_p2_y x4 items (items.length : Int) (0 : Int) k n s items keys l = h34_p2_y x4 items (items.length : Int) ((0 : Nat) : Int) k n s items keys (l ++ bytesOf (txtL (k == 4) 0 keys (items.take 0))) := by simp [txtL, bytesOf]
  rw [e0]; exact e
end Go.Pe.Tryd
end
section
set_option linter.unusedSectionVars false
set_option linter.unusedVariables false
set_option linter.unusedSimpArgs false
namespace Go.Pe.Tryd
open Go.Proofs Go.RowKit
set_option maxRecDepth 100000
theorem h34a_list (G : h34a_I.den → Option h34a_O.den) (hG : SoundH Tryd.prog 34 ⟨h34a_I, h34a_O, G⟩) (o c : UInt8) (k n : Int) (s : List UInt8) (items : List V) (keys : List (List UInt8)) (l : List Int) (hl : items.length ≤ 4000) (hm : (k == 4) = true → keys.length = items.length ∧ ∀ j (hj : j < keys.length), keys[j].length ≤ 4000)
    (hlen : l.length + (txtL (k == 4) 0 keys items).length + 2 ≤ 4294967296) (ih : ∀ v ∈ items, ∀ l : List Int, l.length + (txt v).length ≤ 4294967296 → G (h34a_y v.kind v.n v.s v.items v.keys l) = some (h34a_o_y (l ++ bytesOf (txt v)))) :
    (cutHi ([o, c] : List UInt8) (1 : Int) fun s67 => (h53a_F (h53a_y s67 l)).bind fun z68 => (go (h34a_p2_st G hG) (h34a_p2_y ([o, c] : List UInt8) items (items.length : Int) (0 : Int) k n s items keys (h53a_o_l0 z68))).bind fun o69 => cutLo (h34a_p2_o0_x4 o69) (1 : Int) fun s70 => (h53a_F (h53a_y s70 (h34a_p2_o0_l0 o69))).bind fun z71 => some (h34a_o_y (h53a_o_l0 z71))) = some (h34a_o_y (l ++ bytesOf (o :: (txtL (k == 4) 0 keys items ++ [c])))) := by
  have e1 : (1 : Int) = ((1 : Nat) : Int) := rfl
  rw [e1, cutHi_nat' _ _ _ (by simp)]
  have e2 : ([o, c] : List UInt8).take 1 = [o] := rfl
  rw [e2, h53a_is _ _ (by simp only [List.length_singleton]; omega), Option.bind_some, h53a_o_l0_y, h34a_items G hG _ k n s items keys _ hl hm (by simp only [List.length_append, bytesOf_len, List.length_singleton]; omega) ih, Option.bind_some, h34a_p2_o0_x4_y, h34a_p2_o0_l0_y, cutLo_nat' _ _ _ (by simp)]
  have e3 : ([o, c] : List UInt8).drop 1 = [c] := rfl
  rw [e3, h53a_is _ _ (by simp only [List.length_append, bytesOf_len, List.length_singleton]; omega), Option.bind_some, h53a_o_l0_y]
  simp [bytesOf]
theorem h34_list (o c : UInt8) (k n : Int) (s : List UInt8) (items : List V) (keys : List (List UInt8)) (hl : items.length ≤ 4000) (hm : (k == 4) = true → keys.length = items.length ∧ ∀ j (hj : j < keys.length), keys[j].length ≤ 4000)
    (hlen : (txtL (k == 4) 0 keys items).length + 2 ≤ 4294967296) (ih : ∀ v ∈ items, ∀ l : List Int, l.length + (txt v).length ≤ 4294967296 → h34a_F (h34a_y v.kind v.n v.s v.items v.keys l) = some (h34a_o_y (l ++ bytesOf (txt v)))) :
    (cutHi ([o, c] : List UInt8) (1 : Int) fun s67 => (h53_F (h53_y s67)).bind fun z68 => (go h34_p2_st (h34_p2_y ([o, c] : List UInt8) items (items.length : Int) (0 : Int) k n s items keys (h53_o_l0 z68))).bind fun o69 => cutLo (h34_p2_o0_x4 o69) (1 : Int) fun s70 => (h53a_F (h53a_y s70 (h34_p2_o0_l0 o69))).bind fun z71 => some (h34_o_y (h53a_o_l0 z71))) = some (h34_o_y (bytesOf (o :: (txtL (k == 4) 0 keys items ++ [c])))) := by
  have e1 : (1 : Int) = ((1 : Nat) : Int) := rfl
  rw [e1, cutHi_nat' _ _ _ (by simp)]
  have e2 : ([o, c] : List UInt8).take 1 = [o] := rfl
  rw [e2, h53_is _ (by simp), Option.bind_some, h53_o_l0_y, h34_items  _ k n s items keys _ hl hm (by simp only [List.length_append, bytesOf_len, List.length_singleton]; omega) ih, Option.bind_some, h34_p2_o0_x4_y, h34_p2_o0_l0_y, cutLo_nat' _ _ _ (by simp)]
  have e3 : ([o, c] : List UInt8).drop 1 = [c] := rfl
  rw [e3, h53a_is _ _ (by simp only [List.length_append, bytesOf_len, List.length_singleton]; omega), Option.bind_some, h53a_o_l0_y]
  simp [bytesOf]
theorem format_is {a : Int} (h1 : -1099511627776 ≤ a) (h2 : a ≤ 1099511627776) : formatF (a, ((10 : Int), ())) = some (Lib.itoa a, ()) := by
  unfold formatF
  exact if_pos ⟨rfl, Int.le_trans (by decide) h1, Int.le_trans h2 (by decide)⟩
theorem each_items {k n : Int} {s items keys} (h : each (.mk k n s items keys) = true) : mayP k n s items keys = true ∧ ∀ v ∈ items, each v = true := by
  simp only [each, Bool.and_eq_true] at h
  refine ⟨h.1, fun v hv => ?_⟩
  have := h.2
  rw [eachL_all, List.all_eq_true] at this
  exact this v hv
theorem h34a_next (n : Nat) : (h34a_S (n + 1)).1 = h34a_b (h34a_S n).1 (h34a_S n).2 := by kernel_rfl
theorem wr_ok : ∀ (n : Nat) (v : V) (l : List Int), dep v ≤ n → cnt v ≤ 3000 → each v = true → l.length + (txt v).length ≤ 4294967296 → (h34a_S n).1 (h34a_y v.kind v.n v.s v.items v.keys l) = some (h34a_o_y (l ++ bytesOf (txt v)))
  | 0, v, _, h, _, _, _ => by have := dep_pos v; omega
  | n + 1, .mk k a s items keys, l, hd, hcn, hee, hlen => by
    have he := each_items hee
    simp only [dep, cnt] at hd hcn
    have hl := cntL_len items
    have ih : ∀ v ∈ items, ∀ l : List Int, l.length + (txt v).length ≤ 4294967296 → (h34a_S n).1 (h34a_y v.kind v.n v.s v.items v.keys l) = some (h34a_o_y (l ++ bytesOf (txt v))) := fun v hv l h => wr_ok n v l (by have := dep_mem hv; omega) (by have := cnt_mem hv; omega) (he.2 v hv) h
    show (h34a_S (n + 1)).1 (h34a_y k a s items keys l) = _
    rw [h34a_next, h34a_eq]
    by_cases h1 : k = 1
    · subst h1
      have hb := mayP_1 he.1
      have hf := format_is hb.1 hb.2
      have q1 : ((1 : Int) == 1) = true := rfl
      simp only [txt, q1, cond_true] at hlen ⊢
      rw [hf, Option.bind_some]
      dsimp only
      rw [h53a_is _ _ hlen, Option.bind_some, h53a_o_l0_y]
    · have q1 : (k == 1) = false := by simp [h1]
      rw [q1, cond_false]
      by_cases h2 : k = 2
      · subst h2
        have hb := mayP_2 he.1
        have q2 : ((2 : Int) == 2) = true := rfl
        simp only [txt, q1, q2, cond_true, cond_false] at hlen ⊢
        rw [f54_ok' s (by omega), Option.bind_some]
        dsimp only
        rw [h53a_is _ _ hlen, Option.bind_some, h53a_o_l0_y]
      · have q2 : (k == 2) = false := by simp [h2]
        rw [q2, cond_false]
        have hm : (k == 4) = true → keys.length = items.length ∧ ∀ j (hj : j < keys.length), keys[j].length ≤ 4000 := fun h => by
          have := beq_iff_eq.1 h; subst this
          have h5 := mayP_4 he.1
          exact ⟨h5.1, fun j hj => kok_tok h5.2 hj⟩
        by_cases h4 : k = 4
        · subst h4
          have q4 : ((4 : Int) == 4) = true := rfl
          simp only [txt, q1, q2, q4, cond_true, cond_false, List.length_cons, List.length_append, List.length_nil] at hlen ⊢
          have := h34a_list (h34a_S n).1 (h34a_S n).2 123 125 4 a s items keys l (by omega) hm (by rw [q4]; omega) ih
          rw [q4] at this
          exact this
        · have q4 : (k == 4) = false := by simp [h4]
          simp only [txt, q1, q2, q4, cond_false, List.length_cons, List.length_append, List.length_nil] at hlen ⊢
          have := h34a_list (h34a_S n).1 (h34a_S n).2 91 93 k a s items keys l (by omega) hm (by rw [q4]; omega) ih
          rw [q4] at this
          exact this
theorem h34a_is (v : V) (l : List Int) (hc : cnt v ≤ 3000) (he : each v = true) (hlen : l.length + (txt v).length ≤ 4294967296) : h34a_F (h34a_y v.kind v.n v.s v.items v.keys l) = some (h34a_o_y (l ++ bytesOf (txt v))) := by
  unfold h34a_F
  exact wr_ok recN v l (by have := dep_le v; rw [recN_eq]; omega) hc he hlen
theorem h34_is : ∀ (v : V), cnt v ≤ 3000 → each v = true → (txt v).length ≤ 4294967296 → h34_F (h34_y v.kind v.n v.s v.items v.keys) = some (h34_o_y (bytesOf (txt v)))
  | .mk k a s items keys, hcn, hee, hlen => by
    have he := each_items hee
    simp only [cnt] at hcn
    have hl := cntL_len items
    have ih : ∀ v ∈ items, ∀ l : List Int, l.length + (txt v).length ≤ 4294967296 → h34a_F (h34a_y v.kind v.n v.s v.items v.keys l) = some (h34a_o_y (l ++ bytesOf (txt v))) := fun v hv l h => h34a_is v l (by have := cnt_mem hv; omega) (he.2 v hv) h
    show h34_F (h34_y k a s items keys) = _
    rw [h34_eq]
    by_cases h1 : k = 1
    · subst h1
      have hb := mayP_1 he.1
      have hf := format_is hb.1 hb.2
      have q1 : ((1 : Int) == 1) = true := rfl
      simp only [txt, q1, cond_true] at hlen ⊢
      rw [hf, Option.bind_some]
      dsimp only
      rw [h53_is _ hlen, Option.bind_some, h53_o_l0_y]
    · have q1 : (k == 1) = false := by simp [h1]
      rw [q1, cond_false]
      by_cases h2 : k = 2
      · subst h2
        have hb := mayP_2 he.1
        have q2 : ((2 : Int) == 2) = true := rfl
        simp only [txt, q1, q2, cond_true, cond_false] at hlen ⊢
        rw [f54_ok' s (by omega), Option.bind_some]
        dsimp only
        rw [h53_is _ hlen, Option.bind_some, h53_o_l0_y]
      · have q2 : (k == 2) = false := by simp [h2]
        rw [q2, cond_false]
        have hm : (k == 4) = true → keys.length = items.length ∧ ∀ j (hj : j < keys.length), keys[j].length ≤ 4000 := fun h => by
          have := beq_iff_eq.1 h; subst this
          have h5 := mayP_4 he.1
          exact ⟨h5.1, fun j hj => kok_tok h5.2 hj⟩
        by_cases h4 : k = 4
        · subst h4
          have q4 : ((4 : Int) == 4) = true := rfl
          simp only [txt, q1, q2, q4, cond_true, cond_false, List.length_cons, List.length_append, List.length_nil] at hlen ⊢
          have := h34_list  123 125 4 a s items keys (by omega) hm (by rw [q4]; omega) ih
          rw [q4] at this
          exact this
        · have q4 : (k == 4) = false := by simp [h4]
          simp only [txt, q1, q2, q4, cond_false, List.length_cons, List.length_append, List.length_nil] at hlen ⊢
          have := h34_list  91 93 k a s items keys (by omega) hm (by rw [q4]; omega) ih
          rw [q4] at this
          exact this
theorem txt_small (v : V) (hc : cnt v ≤ 3000) (he : each v = true) : (txt v).length ≤ 51000000 := by
  have := txt_len (dep v) v (Nat.le_refl _) he
  omega
/-- What Print tells. -/
def prn (v : V) : List UInt8 × Int := if right v = true then (txt v, 0) else ([], 1)
theorem f14_ok' (v : V) (hc : cnt v ≤ 3000) : f14_F (va v, ()) = some ((prn v).1, ((prn v).2, ())) := by
  have h1 := f19_ok' v hc
  have h2 := h34_is v hc
  obtain ⟨k, n, s, items, keys⟩ := v
  rw [va_mk] at *
  rw [f14_eq, h1, Option.bind_some]
  unfold prn
  have h2' : each (.mk k n s items keys) = true → (txt (.mk k n s items keys)).length ≤ 4294967296 → h34_F (h34_y k n s items keys) = some (h34_o_y (bytesOf (txt (.mk k n s items keys)))) := h2
  generalize hv : V.mk k n s items keys = v at *
  cases hr : right v with
  | false => rfl
  | true =>
    have he : each v = true := by
      unfold right at hr
      simp only [Bool.and_eq_true] at hr
      exact hr.2.2
    have hs := txt_small v hc he
    dsimp only
    rw [Bool.not_true, cond_false, h2' he (by omega), Option.bind_some, h34_o_l0_y, if_pos rfl]
    have h35 : h35_F (h35_y (bytesOf (txt v))) = some (h35_o_y (txt v)) := by
      show (if bytesOf (strOf (bytesOf (txt v))) = bytesOf (txt v) ∧ (bytesOf (txt v)).length ≤ 4294967296 then some (h35_o_y (strOf (bytesOf (txt v)))) else none) = _
      rw [strOf_bytesOf, if_pos ⟨rfl, by rw [bytesOf_len]; omega⟩]
    rw [h35, Option.bind_some, h35_o_x0_y]
end Go.Pe.Tryd
end
section
set_option linter.unusedSectionVars false
set_option linter.unusedVariables false
set_option linter.unusedSimpArgs false
namespace Go.Pe.Tryd
open Go.Proofs Go.RowKit
set_option maxRecDepth 100000
def alV : V := .mk 3 0 [] [.mk 1 1 [] [] [], .mk 2 0 [97, 34, 98] [] []] []
end Go.Pe.Tryd
end
section
set_option linter.unusedSectionVars false
set_option linter.unusedVariables false
set_option linter.unusedSimpArgs false
namespace Go.Pe.Tryd
open Go.Proofs Go.RowKit
set_option maxRecDepth 100000
def tv (s : List UInt8) : V := .mk 2 0 s [] []
def nv (n : Int) : V := .mk 1 n [] [] []
def dl (u : Nat) : Nat := (Lib.decDigits u).length
theorem dl_1 {u : Nat} (h : u < 10) : dl u = 1 := by unfold dl; rw [Lib.decDigits]; simp [h]
theorem dl_s {u : Nat} (h : ¬ u < 10) : dl u = dl (u / 10) + 1 := by unfold dl; rw [Lib.decDigits]; simp [h]
theorem digits (s : List UInt8) (x1 x5 : Int) : ∀ (k u : Nat) (x9 : Int), u < 10 ^ (k + 1) → k ≤ 10 → 0 ≤ x9 → x9 + k ≤ 1000 → ∀ m, k + 1 ≤ m → iter f4_p2_st m (f4_p2_y s x1 x5 x9 (u : Int)) = some (f4_p2_o0_y s x1 x5 (x9 + (dl u : Int) - 1))
  | 0, u, x9, hu, _, _, _, m, hm => by
    obtain ⟨m, rfl⟩ : ∃ k, m = k + 1 := ⟨m - 1, by omega⟩
    have hu' : u < 10 := by simpa using hu
    rw [iter, f4_p2_eq]
    have : decide ((u : Int) ≥ 10) = false := by simp; omega
    rw [this, cond_false, dl_1 hu']
    congr 2; omega
  | k + 1, u, x9, hu, hk, h0, h1, m, hm => by
    obtain ⟨m, rfl⟩ : ∃ k, m = k + 1 := ⟨m - 1, by omega⟩
    rw [iter, f4_p2_eq]
    by_cases hu' : u < 10
    · have : decide ((u : Int) ≥ 10) = false := by simp; omega
      rw [this, cond_false, dl_1 hu']
      congr 2; omega
    · have : decide ((u : Int) ≥ 10) = true := by simp; omega
      have hsm : u < 100000000000000 := by
        have : 10 ^ (k + 1 + 1) ≤ 10 ^ 12 := Nat.pow_le_pow_right (by decide) (by omega)
        have e : (10 : Nat) ^ 12 = 1000000000000 := by decide
        omega
      have hd : IntKind.i64.wrap (Int.tdiv (u : Int) 10) = ((u / 10 : Nat) : Int) := by
        have : Int.tdiv (u : Int) 10 = ((u / 10 : Nat) : Int) := by rw [Int.tdiv_eq_ediv_of_nonneg (by omega)]; omega
        rw [this, wrap64 (by omega) (by omega)]
      rw [this, cond_true, hd, wrap64 (by omega) (by omega), digits s x1 x5 k (u / 10) (x9 + 1) (by rw [Nat.pow_succ] at hu; omega) (by omega) (by omega) (by omega) m (by omega), dl_s hu']
      congr 2; omega
end Go.Pe.Tryd
end
section
set_option linter.unusedSectionVars false
set_option linter.unusedVariables false
set_option linter.unusedSimpArgs false
namespace Go.Pe.Tryd
open Go.Proofs Go.RowKit
set_option maxRecDepth 100000
mutual
def same : V → V → Bool
  | .mk k n s items keys, w => k == w.kind && (n == w.n && (s == w.s && (keys == w.keys && sameL items w.items)))
def sameL : List V → List V → Bool
  | [], l => l.isEmpty
  | v :: l, l' => match l' with | [] => false | w :: l' => same v w && sameL l l'
end
mutual
theorem same_iff : ∀ v w : V, same v w = true ↔ v = w
  | .mk k n s items keys, .mk k' n' s' items' keys' => by
    have ih := sameL_iff items items'
    simp only [same, V.kind, V.n, V.s, V.keys, V.items, Bool.and_eq_true, beq_iff_eq, ih, V.mk.injEq]
    constructor
    · rintro ⟨h1, h2, h3, h4, h5⟩; exact ⟨h1, h2, h3, h5, h4⟩
    · rintro ⟨h1, h2, h3, h4, h5⟩; exact ⟨h1, h2, h3, h5, h4⟩
theorem sameL_iff : ∀ l l' : List V, sameL l l' = true ↔ l = l'
  | [], l' => by cases l' <;> simp [sameL]
  | v :: l, [] => by simp [sameL]
  | v :: l, w :: l' => by
    simp only [sameL, Bool.and_eq_true, same_iff v w, sameL_iff l l', List.cons.injEq]
end
theorem range_keys : ∀ (a b : List (List UInt8)), a.length = b.length → (List.range a.length).any (fun i => a.getD i [] != b.getD i []) = !(a == b) := by
  intro a b h
  rw [Bool.eq_iff_iff]
  simp only [List.any_eq_true, List.mem_range, bne_iff_ne, ne_eq, Bool.not_eq_true', beq_eq_false_iff_ne]
  constructor
  · rintro ⟨i, hi, hne⟩ e; exact hne (by rw [e])
  · intro hne
    refine Classical.byContradiction fun hall => hne (List.ext_getElem h fun i h1 h2 => ?_)
    have : ¬ ¬ a.getD i [] = b.getD i [] := fun hx => hall ⟨i, h1, hx⟩
    have := Classical.not_not.1 this
    rwa [getD_lt h1, getD_lt h2] at this
theorem range_items : ∀ (a b : List V), a.length = b.length → (List.range a.length).any (fun i => !same (a.getD i alV) (b.getD i alV)) = !sameL a b := by
  intro a b h
  rw [Bool.eq_iff_iff]
  simp only [List.any_eq_true, List.mem_range, Bool.not_eq_true']
  constructor
  · rintro ⟨i, hi, hne⟩
    cases hs : sameL a b with
    | false => rfl
    | true =>
      have e := (sameL_iff a b).1 hs
      rw [← e] at hne
      have : same (a.getD i alV) (a.getD i alV) = true := (same_iff _ _).2 rfl
      rw [this] at hne; cases hne
  · intro hne
    refine Classical.byContradiction fun hall => ?_
    have e : a = b := List.ext_getElem h fun i h1 h2 => by
      have h3 : same (a.getD i alV) (b.getD i alV) = true := by
        cases hx : same (a.getD i alV) (b.getD i alV) with
        | true => rfl
        | false => exact absurd ⟨i, h1, hx⟩ hall
      have := (same_iff _ _).1 h3
      rwa [getD_lt h1, getD_lt h2] at this
    rw [(sameL_iff a b).2 e] at hne; cases hne
theorem fuel_rec4 (r : List (Option (List SAV))) (k n : Int) (s : List UInt8) (items : List V) (keys : List (List UInt8)) (z : recsDen r) :
    keys.length ≤ fuelR (some [.hole (.int .i64), .hole (.int .i64), .hole .str, .hole (.list .value), .hole (.list .str)] :: r) ((k, (n, (s, (items, (keys, ()))))), z) := by
  simp only [fuelR, fuelL, SAV.fuel, Ty.fuel]; omega
theorem rsame_step (G : argsDen f24_ps → Option (argsDen f24_rs)) (hG : Sound Tryd.prog 24 (pfun G)) (k n : Int) (s : List UInt8) (items : List V) (keys : List (List UInt8)) (k' n' : Int) (s' : List UInt8) (items' : List V) (keys' : List (List UInt8))
    (hl : items.length ≤ 4000) (hk : keys.length ≤ reachBytes) (ih : ∀ i (h : i < items.length) (h' : i < items'.length), G (va items[i], (va items'[i], ())) = some (same items[i] items'[i], ())) :
    f24_b G hG (va (.mk k n s items keys), (va (.mk k' n' s' items' keys'), ())) = some (same (.mk k n s items keys) (.mk k' n' s' items' keys'), ()) := by
  unfold reachBytes at hk
  rw [va_mk, va_mk, f24_eq, f24_p2_eq]
  simp only [same, V.kind, V.n, V.s, V.items, V.keys]
  have b1 : (k != k') = !(k == k') := rfl
  have b2 : (n != n') = !(n == n') := rfl
  have b3 : (s != s') = !(s == s') := rfl
  rw [b1, b2, b3]
  cases k == k' with
  | false => simp only [Bool.not_false, cond_true, Option.bind_some, f24_p2_o0_x43_y, Bool.false_and]
  | true =>
    rw [Bool.not_true, cond_false, Bool.true_and]
    cases n == n' with
    | false => simp only [Bool.not_false, cond_true, Option.bind_some, f24_p2_o0_x43_y, Bool.false_and]
    | true =>
      rw [Bool.not_true, cond_false, Bool.true_and]
      cases s == s' with
      | false => simp only [Bool.not_false, cond_true, Option.bind_some, f24_p2_o0_x43_y, Bool.false_and]
      | true =>
        rw [Bool.not_true, cond_false, Bool.true_and]
        by_cases hli : items.length = items'.length
        · have e1 : ((items.length : Int) != (items'.length : Int)) = false := by simp [hli]
          rw [e1, cond_false, Option.bind_some, f24_p2_o0_x43_y, f24_p2_o0_r0_0_y, f24_p2_o0_r0_1_y, f24_p2_o0_r0_2_y, f24_p2_o0_r0_3_y, f24_p2_o0_r0_4_y, f24_p2_o0_r1_0_y, f24_p2_o0_r1_1_y, f24_p2_o0_r1_2_y, f24_p2_o0_r1_3_y, f24_p2_o0_r1_4_y]
          by_cases hlk : keys.length = keys'.length
          · have e2 : ((keys.length : Int) != (keys'.length : Int)) = false := by simp [hlk]
            rw [e2, cond_false]
            have hr : (List.range keys.length).length = keys.length := by simp
            have e := go_scan (step := f24_p1_st G hG) (l := List.range keys.length) (fun i => f24_p1_y (keys.length : Int) (i : Int) k n s items keys k' n' s' items' keys') (fun i => keys.getD i [] != keys'.getD i []) (fun i => some (.inr (f24_p1_o1_y false))) (some (.inl (f24_p1_o0_y k n s items keys k' n' s' items' keys'))) (fun i hi rec => by
              have hi' : i < keys.length := by simpa using hi
              have hi2 : i < keys'.length := by omega
              rw [f24_p1_eq, lt_t hi', cond_true, nth_lt hi', Option.bind_some, nth_lt hi2, Option.bind_some, List.getElem_range, getD_lt hi', getD_lt hi2, nxb (by omega)]) (fun rec => by rw [hr, f24_p1_eq]; simp only [Int.lt_irrefl, decide_false, cond_false]) (by
                rw [hr, fuel_def]
                have : keys.length ≤ fuelR f24_p1_sh.recs (f24_p1_y (keys.length : Int) ((0 : Nat) : Int) k n s items keys k' n' s' items' keys').2.1 := fuel_rec4 _ _ _ _ _ _ _
                omega)
            have e' : go (f24_p1_st G hG) (f24_p1_y (keys.length : Int) (0 : Int) k n s items keys k' n' s' items' keys') = _ := e
            have hk2 := findIdx_any (fun i => keys.getD i [] != keys'.getD i []) (List.range keys.length)
            rw [range_keys keys keys' hlk] at hk2
            rw [e']
            cases hf : (List.range keys.length).findIdx? (fun i => keys.getD i [] != keys'.getD i []) with
            | some j =>
              rw [hf] at hk2
              have : (keys == keys') = false := by simpa using hk2.symm
              rw [this]; simp only [Option.bind_some, f24_p1_o1_x4_y, Bool.false_and]
            | none =>
              rw [hf] at hk2
              have hkk : (keys == keys') = true := by simpa using hk2.symm
              rw [hkk, Bool.true_and]
              simp only [Option.bind_some, f24_p1_o0_r0_0_y, f24_p1_o0_r0_1_y, f24_p1_o0_r0_2_y, f24_p1_o0_r0_3_y, f24_p1_o0_r0_4_y, f24_p1_o0_r1_0_y, f24_p1_o0_r1_1_y, f24_p1_o0_r1_2_y, f24_p1_o0_r1_3_y, f24_p1_o0_r1_4_y]
              have hr2 : (List.range items.length).length = items.length := by simp
              have g := go_scan (step := f24_p0_st G hG) (l := List.range items.length) (fun i => f24_p0_y (items.length : Int) (i : Int) k n s items keys k' n' s' items' keys') (fun i => !same (items.getD i alV) (items'.getD i alV)) (fun i => some (.inr (f24_p0_o1_y false))) (some (.inl f24_p0_o0_y)) (fun i hi rec => by
                have hi' : i < items.length := by simpa using hi
                have hi2 : i < items'.length := by omega
                rw [f24_p0_eq, lt_t hi', cond_true, nth_lt hi', Option.bind_some, nth_lt hi2, Option.bind_some, va_eta, va_eta, ih i hi' hi2, Option.bind_some, List.getElem_range, getD_lt hi', getD_lt hi2]
                dsimp only
                rw [nx (by omega)]) (fun rec => by rw [hr2, f24_p0_eq]; simp only [Int.lt_irrefl, decide_false, cond_false]) (by rw [hr2, fuel_def]; omega)
              have g' : go (f24_p0_st G hG) (f24_p0_y (items.length : Int) (0 : Int) k n s items keys k' n' s' items' keys') = _ := g
              have hi3 := findIdx_any (fun i => !same (items.getD i alV) (items'.getD i alV)) (List.range items.length)
              rw [range_items items items' hli] at hi3
              rw [g']
              cases hf2 : (List.range items.length).findIdx? (fun i => !same (items.getD i alV) (items'.getD i alV)) with
              | some j =>
                rw [hf2] at hi3
                have : sameL items items' = false := by simpa using hi3.symm
                rw [this]; simp only [Option.bind_some, f24_p0_o1_x4_y]
              | none =>
                rw [hf2] at hi3
                have : sameL items items' = true := by simpa using hi3.symm
                rw [this]; rfl
          · have e2 : ((keys.length : Int) != (keys'.length : Int)) = true := by simp; omega
            have e3 : (keys == keys') = false := by simp; intro e; exact hlk (by rw [e])
            rw [e2, cond_true, e3, Bool.false_and]
        · have e1 : ((items.length : Int) != (items'.length : Int)) = true := by simp; omega
          have e3 : sameL items items' = false := by
            cases hs : sameL items items' with
            | false => rfl
            | true => exact absurd (by rw [(sameL_iff _ _).1 hs]) hli
          rw [e1, cond_true, Option.bind_some, f24_p2_o0_x43_y, cond_true, e3, Bool.and_false]
theorem f24_next (n : Nat) : (f24_S (n + 1)).1 = f24_b (f24_S n).1 (f24_S n).2 := by kernel_rfl
theorem wf_keys {v : V} (h : WfV reachBytes v) : v.keys.length ≤ reachBytes := by cases h; assumption
theorem rsame_ok : ∀ (n : Nat) (v w : V), dep v ≤ n → cnt v ≤ 3000 → WfV reachBytes v → (f24_S n).1 (va v, (va w, ())) = some (same v w, ())
  | 0, v, _, h, _, _ => by have := dep_pos v; omega
  | n + 1, .mk k a s items keys, .mk k' a' s' items' keys', hd, hc, hw => by
    have hwi := wf_items hw
    have hwk := wf_keys hw
    simp only [dep, cnt] at hd hc
    have hl := cntL_len items
    rw [f24_next]
    exact rsame_step _ _ k a s items keys k' a' s' items' keys' (by omega) hwk fun i h h' => rsame_ok n items[i] items'[i] (by have := dep_mem (List.getElem_mem h); omega) (by have := cnt_mem (List.getElem_mem h); omega) (hwi _ (List.getElem_mem h))
theorem f24_ok' (v w : V) (h : cnt v ≤ 3000) (hw : WfV reachBytes v) : f24_F (va v, (va w, ())) = some (same v w, ()) := by
  unfold f24_F
  exact rsame_ok recN v w (by have := dep_le v; rw [recN_eq]; omega) h hw
end Go.Pe.Tryd
end
section
set_option linter.unusedSectionVars false
set_option linter.unusedVariables false
set_option linter.unusedSimpArgs false
namespace Go.Pe.Tryd
open Go.Proofs Go.RowKit
set_option maxRecDepth 100000
def isnum (b : UInt8) : Bool := decide (b.toNat = 45) || (decide (48 ≤ b.toNat) && decide (b.toNat ≤ 57))
def Sep (r : List UInt8) : Prop := ∀ b, r.head? = some b → b = 44 ∨ b = 93 ∨ b = 125
theorem dig_toNat {d : Nat} (h : d < 10) : (UInt8.ofNat (48 + d)).toNat = 48 + d := by simp; omega
theorem dec_dig : ∀ (k u : Nat), u < 10 ^ (k + 1) → ∀ b ∈ Lib.decDigits u, 48 ≤ b.toNat ∧ b.toNat ≤ 57
  | 0, u, h, b, hb => by
    have hu : u < 10 := by simpa using h
    rw [Lib.decDigits, dif_pos hu, List.mem_singleton] at hb
    subst hb; rw [dig_toNat hu]; omega
  | k + 1, u, h, b, hb => by
    rw [Lib.decDigits] at hb
    split at hb
    · rename_i hu
      rw [List.mem_singleton] at hb
      subst hb; rw [dig_toNat hu]; omega
    · rcases List.mem_append.1 hb with hb | hb
      · exact dec_dig k (u / 10) (by rw [Nat.pow_succ] at h; omega) b hb
      · rw [List.mem_singleton] at hb
        subst hb; rw [dig_toNat (by omega)]; omega
def dval (l : List UInt8) : Nat := l.foldl (fun a b => a * 10 + (b.toNat - 48)) 0
theorem dec_val : ∀ (k u : Nat), u < 10 ^ (k + 1) → dval (Lib.decDigits u) = u
  | 0, u, h => by
    have hu : u < 10 := by simpa using h
    rw [Lib.decDigits, dif_pos hu]
    simp only [dval, List.foldl_cons, List.foldl_nil]
    rw [dig_toNat hu]; omega
  | k + 1, u, h => by
    rw [Lib.decDigits]
    split
    · rename_i hu
      simp only [dval, List.foldl_cons, List.foldl_nil]
      rw [dig_toNat hu]; omega
    · have ih := dec_val k (u / 10) (by rw [Nat.pow_succ] at h; omega)
      unfold dval at ih ⊢
      rw [List.foldl_append, ih]
      simp only [List.foldl_cons, List.foldl_nil]
      rw [dig_toNat (by omega)]; omega
theorem dec_ne (u : Nat) : Lib.decDigits u ≠ [] := by
  rw [Lib.decDigits]; split <;> simp
theorem pow13 : (10 : Nat) ^ 13 = 10000000000000 := by decide
theorem itoa_num {n : Int} (h1 : -1099511627776 ≤ n) (h2 : n ≤ 1099511627776) : ∀ b ∈ Lib.itoa n, isnum b = true := by
  intro b hb
  unfold Lib.itoa at hb
  split at hb
  · rcases List.mem_cons.1 hb with rfl | hb
    · rfl
    · have := dec_dig 12 n.natAbs (by rw [pow13]; omega) b hb
      unfold isnum; simp [this.1, this.2]
  · have := dec_dig 12 n.toNat (by rw [pow13]; omega) b hb
    unfold isnum; simp [this.1, this.2]
theorem itoa_ne (n : Int) : Lib.itoa n ≠ [] := by
  unfold Lib.itoa
  split
  · simp
  · exact dec_ne _
theorem noIt_nil {items : List V} {keys : List (List UInt8)} (h : noIt items keys = true) : items = [] ∧ keys = [] := by
  unfold noIt at h
  by_cases hi : items.length = 0
  · have : ((items.length : Int) == 0) = true := by simp [hi]
    rw [this, cond_true] at h
    have : keys.length = 0 := by have := beq_iff_eq.1 h; omega
    exact ⟨List.eq_nil_of_length_eq_zero hi, List.eq_nil_of_length_eq_zero this⟩
  · have : ((items.length : Int) == 0) = false := by simp; intro e; exact hi (by rw [e]; rfl)
    rw [this, cond_false] at h; cases h
inductive Form : V → Prop
  | num (n : Int) (h1 : -1099511627776 ≤ n) (h2 : n ≤ 1099511627776) : Form (.mk 1 n [] [] [])
  | str (s : List UInt8) : Form (.mk 2 0 s [] [])
  | lst (items : List V) : Form (.mk 3 0 [] items [])
  | map (items : List V) (keys : List (List UInt8)) (h : keys.length = items.length) : Form (.mk 4 0 [] items keys)
theorem form_of {k n : Int} {s : List UInt8} {items : List V} {keys : List (List UInt8)} (h : mayP k n s items keys = true) : Form (.mk k n s items keys) := by
  unfold mayP at h
  by_cases h1 : k = 1
  · subst h1
    have q : ((1 : Int) == 1) = true := rfl
    rw [q, cond_true] at h
    simp only [Bool.and_eq_true, beq_iff_eq, decide_eq_true_eq] at h
    obtain ⟨ha, hb, hc, hd⟩ := h
    obtain ⟨rfl, rfl⟩ := noIt_nil ha
    subst hb
    exact .num n hc hd
  · have q1 : (k == 1) = false := by simp [h1]
    rw [q1, cond_false] at h
    by_cases h2 : k = 2
    · subst h2
      have q : ((2 : Int) == 2) = true := rfl
      rw [q, cond_true] at h
      simp only [Bool.and_eq_true, beq_iff_eq] at h
      obtain ⟨ha, hb, _⟩ := h
      obtain ⟨rfl, rfl⟩ := noIt_nil ha
      subst hb
      exact .str s
    · have q2 : (k == 2) = false := by simp [h2]
      rw [q2, cond_false] at h
      by_cases h3 : k = 3
      · subst h3
        have q : ((3 : Int) == 3) = true := rfl
        rw [q, cond_true] at h
        simp only [Bool.and_eq_true, beq_iff_eq] at h
        obtain ⟨ha, hb, hc⟩ := h
        have hc' : keys = [] := List.eq_nil_of_length_eq_zero (by omega)
        subst ha; subst hb; subst hc'
        exact .lst items
      · have q3 : (k == 3) = false := by simp [h3]
        rw [q3, cond_false] at h
        simp only [Bool.and_eq_true, beq_iff_eq] at h
        obtain ⟨ha, hb, hc, hd, _⟩ := h
        subst ha; subst hb; subst hc
        exact .map items keys (by omega)
theorem txt_1 (n : Int) : txt (.mk 1 n [] [] []) = Lib.itoa n := by simp [txt]
theorem txt_2 (s : List UInt8) : txt (.mk 2 0 s [] []) = quo s := by simp [txt]
theorem txt_3 (items : List V) : txt (.mk 3 0 [] items []) = 91 :: (txtL false 0 [] items ++ [93]) := by simp [txt]
theorem txt_4 (items : List V) (keys : List (List UInt8)) : txt (.mk 4 0 [] items keys) = 123 :: (txtL true 0 keys items ++ [125]) := by simp [txt]
theorem each_form {v : V} (h : each v = true) : Form v ∧ ∀ w ∈ v.items, each w = true := by
  obtain ⟨k, n, s, items, keys⟩ := v
  have := each_items h
  exact ⟨form_of this.1, this.2⟩
/-- The first byte. -/
theorem txt_head {v : V} (h : Form v) : ∃ b t, txt v = b :: t ∧ b ≠ 93 ∧ b ≠ 125 ∧ b ≠ 44 ∧ ((v.kind = 1 ∧ isnum b = true) ∨ (v.kind = 2 ∧ b = 34) ∨ (v.kind = 3 ∧ b = 91) ∨ (v.kind = 4 ∧ b = 123)) := by
  cases h with
  | num n h1 h2 =>
    rw [txt_1]
    cases hi : Lib.itoa n with
    | nil => exact absurd hi (itoa_ne n)
    | cons b t =>
      have hb := itoa_num h1 h2 b (by rw [hi]; simp)
      refine ⟨b, t, rfl, ?_, ?_, ?_, .inl ⟨rfl, hb⟩⟩ <;> (rintro rfl; exact absurd hb (by decide))
  | str s => rw [txt_2]; exact ⟨34, _, rfl, by decide, by decide, by decide, .inr (.inl ⟨rfl, rfl⟩)⟩
  | lst items => rw [txt_3]; exact ⟨91, _, rfl, by decide, by decide, by decide, .inr (.inr (.inl ⟨rfl, rfl⟩))⟩
  | map items keys hk => rw [txt_4]; exact ⟨123, _, rfl, by decide, by decide, by decide, .inr (.inr (.inr ⟨rfl, rfl⟩))⟩
def Apart (v : V) : Prop := ∀ w r r', each w = true → Sep r → Sep r' → txt v ++ r = txt w ++ r' → v = w ∧ r = r'
/-- What begins a row's next item. -/
theorem items_hd (m : Bool) (i : Nat) (keys : List (List UInt8)) (w : V) (l : List V) (x : List UInt8) (hw : each w = true) : ∃ b t, txtL m i keys (w :: l) ++ x = b :: t ∧ b ≠ 93 ∧ b ≠ 125 ∧ (0 < i → b = 44) := by
  simp only [txtL]
  by_cases hi : 0 < i
  · rw [decide_eq_true hi, cond_true]
    exact ⟨44, _, rfl, by decide, by decide, fun _ => rfl⟩
  · rw [decide_eq_false hi, cond_false, List.nil_append]
    cases m with
    | true => exact ⟨34, _, rfl, by decide, by decide, fun h => absurd h hi⟩
    | false =>
      obtain ⟨b, t, e, h1, h2, _⟩ := txt_head (each_form hw).1
      rw [cond_false, List.nil_append, e]
      exact ⟨b, _, rfl, h1, h2, fun h => absurd h hi⟩
theorem sep_tail (m : Bool) (i : Nat) (keys : List (List UInt8)) (l : List V) (c : UInt8) (r : List UInt8) (hc : c = 93 ∨ c = 125) (hl : ∀ w ∈ l, each w = true) (hi : 0 < i) : Sep (txtL m i keys l ++ c :: r) := by
  intro b hb
  cases l with
  | nil =>
    simp only [txtL, List.nil_append, List.head?_cons, Option.some.injEq] at hb
    subst hb; exact .inr hc
  | cons w l =>
    obtain ⟨b', t, e, _, _, h⟩ := items_hd m i keys w l (c :: r) (hl w (by simp))
    rw [e, List.head?_cons, Option.some.injEq] at hb
    subst hb; exact .inl (h hi)
end Go.Pe.Tryd
end
section
namespace Go.Pe.Tryd
open Go.Proofs Go.RowKit
set_option maxRecDepth 100000
set_option linter.unusedSimpArgs false
set_option linter.unusedVariables false
theorem next_eq (t : List UInt8) (n : Int) : h81_F (h81_y t n) = match t with | [] => some (.inr (h81_z_y 3)) | c :: _ => some (.inl (h81_o_y (c.toNat : Int) t n)) := by
  cases t with
  | nil => simp [h81_eq, h81_p0_eq, h45_eq]
  | cons c r => simp [h81_eq, h81_p0_eq, nth]
def digitB (c : UInt8) : Bool := decide (48 ≤ c.toNat) && decide (c.toNat ≤ 57)
theorem digit_eq (c : UInt8) : f82_F ((c.toNat : Int), ()) = some (digitB c, ()) := by
  rw [f82_eq]
  have h1 : ((c.toNat : Int) ≥ 48) ↔ 48 ≤ c.toNat := by omega
  have h2 : ((c.toNat : Int) ≤ 57) ↔ c.toNat ≤ 57 := by omega
  simp only [h1, h2, digitB]
  by_cases h : 48 ≤ c.toNat <;> simp [h]
theorem cutLo_one {S : Type} (c : UInt8) (r : List UInt8) (K : List UInt8 → Option S) : cutLo (c :: r) (1 : Int) K = K r := by
  unfold cutLo; rw [if_pos (by simp only [List.length_cons]; omega)]; rfl
theorem index_eq (S : List UInt8) (hS : S.length ≤ 1000) (c : UInt8) : f86_F (bytesOf S, ((c.toNat : Int), ())) = some (decide (c ∈ S), ()) := by
  have hstep : ∀ i, i < S.length → ∀ rec, (∃ h : i < S.length, S[i] ≠ c) → f104_p0_st rec (f104_p0_y (bytesOf S) (c.toNat : Int) (S.length : Int) (i : Int)) = rec (f104_p0_y (bytesOf S) (c.toNat : Int) (S.length : Int) ((i + 1 : Nat) : Int)) := by
    intro i hi rec hne
    obtain ⟨_, hne⟩ := hne
    rw [f104_p0_eq]
    have hlt : ((i : Int) < (S.length : Int)) := by omega
    have hn : nth (bytesOf S) (i : Int) = some ((S[i].toNat : Int)) := by rw [nth_nat, bytesOf, List.getElem?_map, List.getElem?_eq_getElem hi]; rfl
    have hc : ¬ ((c.toNat : Int) = (S[i].toNat : Int)) := fun e => hne (UInt8.toNat_inj.1 (by omega))
    simp only [hlt, decide_true, cond_true, hn, Option.bind_some]
    rw [show ((c.toNat : Int) == (S[i].toNat : Int)) = false by simpa using hc, cond_false, wrap64 (by omega) (by omega)]
    rfl
  rw [f86_eq, f104_eq]
  have hlen : ((bytesOf S).length : Int) = (S.length : Int) := by simp [bytesOf]
  rw [hlen]
  rcases first_bad (fun x => x ≠ c) S with hall | ⟨k, hk, h1, h2⟩
  · rw [show ((0 : Int)) = ((0 : Nat) : Int) from rfl, go_seq (y := fun i => f104_p0_y (bytesOf S) (c.toNat : Int) (S.length : Int) (i : Int)) (n := S.length) (r := some (.inl f104_p0_o0_y)) (fun i hi rec => hstep i hi rec ⟨hi, hall _ (List.getElem_mem hi)⟩) (fun rec => by rw [f104_p0_eq]; simp) (by rw [fuel_def]; omega)]
    have hnm : c ∉ S := fun h => hall c h rfl
    simp [hnm]
  · have h1 : S[k] = c := by simpa using h1
    rw [show ((0 : Int)) = ((0 : Nat) : Int) from rfl, go_seq (y := fun i => f104_p0_y (bytesOf S) (c.toNat : Int) (S.length : Int) (i : Int)) (n := k) (r := some (.inr (f104_p0_o1_y (k : Int)))) (fun i hi rec => hstep i (by omega) rec ⟨by omega, h2 i hi⟩) (fun rec => by
      rw [f104_p0_eq]
      have hlt : ((k : Int) < (S.length : Int)) := by omega
      have hn : nth (bytesOf S) (k : Int) = some ((c.toNat : Int)) := by rw [nth_nat, bytesOf, List.getElem?_map, List.getElem?_eq_getElem hk, h1]; rfl
      simp [hlt, hn]) (by rw [fuel_def]; omega)]
    have hm : c ∈ S := h1 ▸ List.getElem_mem hk
    simp [hm]
theorem take_eq (S : List UInt8) (hS : S.length ≤ 1000) (t : List UInt8) (n : Int) : h63_F (h63_y S t n) = match t with | [] => some (.inr (h63_z_y 3)) | c :: r => if c ∈ S then some (.inl (h63_o_y (c.toNat : Int) r n)) else some (.inr (h63_z_y 20)) := by
  rw [h63_eq, next_eq]
  cases t with
  | nil => simp
  | cons c r =>
    simp only [Option.bind_some, h81_o_x0_y, h81_o_r0_0_y, h81_o_r0_1_y]
    rw [h63_p0_eq, index_eq S hS]
    by_cases h : c ∈ S <;> simp [h, h45_eq, cutLo_one]
def ptxt : List UInt8 → List UInt8 → Except Int (List UInt8 × List UInt8)
  | [], _ => .error 3
  | c :: r, acc => if c.toNat < 32 then .error 20 else if c = 34 then .ok (acc, r) else if c = 92 then
      match r with
      | [] => .error 3
      | c' :: r' => if c' = 34 ∨ c' = 92 then (if acc.length = 4000 then .error 2 else ptxt r' (acc ++ [c'])) else .error 20
    else if acc.length = 4000 then .error 2 else ptxt r (acc ++ [c])
/-- A text that begins here, its sign before it taken. -/
theorem txt_loop (n : Int) : ∀ (k : Nat) (t acc : List UInt8), acc.length ≤ 4000 → 4002 ≤ k + acc.length → iter h84_p3_st k (h84_p3_y t n (bytesOf acc)) = some (match ptxt t acc with
    | .error e => .inl (h84_p3_o0_y e)
    | .ok (s, r) => .inr (h84_p3_o1_y s r n)) := by
  intro k
  induction k with
  | zero => intro t acc h1 h2; omega
  | succ k ih =>
    intro t acc h1 h2
    have hlen : ((bytesOf acc).length : Int) = (acc.length : Int) := by simp [bytesOf]
    have hnx : ∀ c : UInt8, bytesOf acc ++ [(c.toNat : Int)] = bytesOf (acc ++ [c]) := fun c => by simp [bytesOf]
    have happ : ∀ c : UInt8, (bytesOf acc).length + [(c.toNat : Int)].length ≤ 4294967296 := fun c => by simp [bytesOf]; omega
    rw [iter, h84_p3_eq, next_eq]
    cases t with
    | nil => simp [ptxt]
    | cons c r =>
      simp only [Option.bind_some, h81_o_x0_y, h81_o_r0_0_y, h81_o_r0_1_y]
      rw [h84_p2_eq]
      unfold ptxt
      by_cases hc : c.toNat < 32
      · have : (c.toNat : Int) < 32 := by omega
        simp [this, hc, h45_eq]
      have hc' : ¬ ((c.toNat : Int) < 32) := by omega
      simp only [hc', decide_false, cond_false, Option.bind_some, hc, if_false, h84_p2_o0_x4_y, h84_p2_o0_r0_0_y, h84_p2_o0_r0_1_y, h84_p2_o0_l0_y]
      rw [cutLo_one, h84_p1_eq]
      have e34 : ((c.toNat : Int) == 34) = decide (c = 34) := by
        rw [Bool.eq_iff_iff]; simp only [beq_iff_eq, decide_eq_true_eq]; rw [← UInt8.toNat_inj]; simp only [UInt8.reduceToNat]; omega
      have e92 : ((c.toNat : Int) == 92) = decide (c = 92) := by
        rw [Bool.eq_iff_iff]; simp only [beq_iff_eq, decide_eq_true_eq]; rw [← UInt8.toNat_inj]; simp only [UInt8.reduceToNat]; omega
      rw [e34, e92]
      by_cases h34 : c = 34
      · simp [h34, strOf_bytesOf]
      by_cases h92 : c = 92
      · subst h92
        rw [take_eq _ (by simp)]
        cases r with
        | nil => simp
        | cons c' r' =>
          by_cases hm : c' = 34 ∨ c' = 92
          · have hm' : c' ∈ ([34, 92] : List UInt8) := by simpa using hm
            simp only [h34, decide_false, cond_false, decide_true, cond_true, hm', if_true, Option.bind_some, h63_o_x0_y, h63_o_r0_0_y, h63_o_r0_1_y, h84_p1_o1_x4_y, h84_p1_o1_r0_0_y, h84_p1_o1_r0_1_y, h84_p1_o1_l0_y, if_false, hm]
            rw [h84_p0_eq, hlen]
            by_cases h4 : acc.length = 4000
            · simp [h4, h45_eq]
            · have h4' : ((acc.length : Int) == 4000) = false := by simp; omega
              simp only [h4', cond_false, Option.bind_some, h4, if_false, h84_p0_o0_l0_y, h84_p0_o0_x4_y, h84_p0_o0_r0_0_y, h84_p0_o0_r0_1_y]
              rw [appOk_lt (happ c'), hnx, ih r' (acc ++ [c']) (by simp; omega) (by simp; omega)]
          · have hm' : c' ∉ ([34, 92] : List UInt8) := by simpa using hm
            simp [h34, hm', hm]
      · simp only [h34, h92, decide_false, cond_false, Option.bind_some, h84_p1_o1_x4_y, h84_p1_o1_r0_0_y, h84_p1_o1_r0_1_y, h84_p1_o1_l0_y, if_false]
        rw [h84_p0_eq, hlen]
        by_cases h4 : acc.length = 4000
        · simp [h4, h45_eq]
        · have h4' : ((acc.length : Int) == 4000) = false := by simp; omega
          simp only [h4', cond_false, Option.bind_some, h4, if_false, h84_p0_o0_l0_y, h84_p0_o0_x4_y, h84_p0_o0_r0_0_y, h84_p0_o0_r0_1_y]
          rw [appOk_lt (happ c), hnx, ih r (acc ++ [c]) (by simp; omega) (by simp; omega)]
theorem text_eq (t : List UInt8) (n : Int) : h84_F (h84_y t n) = some (match t with
    | [] => .inr (h84_z_y 3)
    | c :: r => if c = 34 then (match ptxt r [] with | .error e => .inr (h84_z_y e) | .ok (s, r) => .inl (h84_o_y s r n)) else .inr (h84_z_y 20)) := by
  rw [h84_eq, take_eq _ (by simp)]
  cases t with
  | nil => simp
  | cons c r =>
    by_cases h : c = 34
    · subst h
      simp only [List.mem_singleton, if_true, Option.bind_some, h63_o_r0_0_y, h63_o_r0_1_y]
      unfold go
      rw [show ([] : List Int) = bytesOf [] from rfl, txt_loop n _ r [] (by simp) (by rw [fuel_def]; simp; omega)]
      cases ptxt r [] with
      | error e => simp
      | ok p => simp
    · simp [h]
end Go.Pe.Tryd
end
section
namespace Go.Pe.Tryd
open Go.Proofs Go.RowKit
set_option maxRecDepth 100000
set_option linter.unusedSimpArgs false
set_option linter.unusedVariables false
def pval (l : List UInt8) : Nat := l.foldl (fun v c => 10 * v + (c.toNat - 48)) 0
theorem pval_snoc (l : List UInt8) (c : UInt8) : pval (l ++ [c]) = 10 * pval l + (c.toNat - 48) := by simp [pval, List.foldl_append]
def ofDigits (ds : List UInt8) : Prop := ∀ c ∈ ds, digitB c = true
theorem digitB_iff {c : UInt8} : digitB c = true ↔ 48 ≤ c.toNat ∧ c.toNat ≤ 57 := by simp [digitB]
theorem pval_lt : ∀ (n : Nat) (ds : List UInt8), ds.length = n → ofDigits ds → pval ds + 1 ≤ 10 ^ n
  | 0, ds, h, _ => by rw [List.eq_nil_of_length_eq_zero h]; simp [pval]
  | n + 1, ds, h, hd => by
    obtain ⟨l, c, rfl⟩ : ∃ l c, ds = l ++ [c] := by
      rcases List.eq_nil_or_concat ds with rfl | ⟨l, c, rfl⟩
      · simp at h
      · exact ⟨l, c, by simp⟩
    have := pval_lt n l (by simpa using h) fun c hc => hd c (by simp [hc])
    have hc := digitB_iff.1 (hd c (by simp))
    rw [pval_snoc, Nat.pow_succ]; omega
def badNum (neg : Bool) (ds : List UInt8) : Bool := ds.length == 0 || (decide (1 < ds.length) && ds.head? == some 48) || (ds == [48] && neg)
def numS (neg : Bool) (t : List UInt8) : Except Int (Int × List UInt8) :=
  if badNum neg (t.takeWhile digitB) = true then .error 20
  else if 13 < (t.takeWhile digitB).length ∨ 1099511627776 < pval (t.takeWhile digitB) then .error 2
  else .ok (if neg = true then -(pval (t.takeWhile digitB) : Int) else (pval (t.takeWhile digitB) : Int), t.dropWhile digitB)
def num (t : List UInt8) : Except Int (Int × List UInt8) := match t with
  | [] => .error 3
  | c :: r => if c = 45 then numS true r else numS false (c :: r)
def sgn (neg : Bool) : Int := if neg = true then -1 else 1
theorem tw_digits (t : List UInt8) : ofDigits (t.takeWhile digitB) := fun c hc => by
  induction t with
  | nil => simp at hc
  | cons x t ih =>
    simp only [List.takeWhile_cons] at hc
    split at hc
    · rename_i h
      rcases List.mem_cons.1 hc with rfl | hc
      · exact h
      · exact ih hc
    · simp at hc
theorem tw_dw (t : List UInt8) : t.takeWhile digitB ++ t.dropWhile digitB = t := List.takeWhile_append_dropWhile
theorem tw_take (t : List UInt8) : t.take (t.takeWhile digitB).length = t.takeWhile digitB := by
  conv => lhs; arg 2; rw [← tw_dw t]
  rw [List.take_left']; rfl
theorem tw_drop (t : List UInt8) : t.drop (t.takeWhile digitB).length = t.dropWhile digitB := by
  conv => lhs; arg 2; rw [← tw_dw t]
  rw [List.drop_left']; rfl
theorem tw_len (t : List UInt8) : (t.takeWhile digitB).length ≤ t.length := by
  have := congrArg List.length (tw_dw t); rw [List.length_append] at this; omega
theorem tw_get (t : List UInt8) (i : Nat) (h : i < (t.takeWhile digitB).length) : t[i]'(Nat.lt_of_lt_of_le h (tw_len t)) = (t.takeWhile digitB)[i] := by
  have : t[i]? = (t.takeWhile digitB)[i]? := by
    conv => lhs; arg 1; rw [← tw_dw t]
    rw [List.getElem?_append_left h]
  rw [List.getElem?_eq_getElem (Nat.lt_of_lt_of_le h (tw_len t)), List.getElem?_eq_getElem h] at this
  exact Option.some.inj this
theorem dw_head (t : List UInt8) (c : UInt8) (r : List UInt8) (h : t.dropWhile digitB = c :: r) : digitB c = false := by
  induction t with
  | nil => simp at h
  | cons x t ih =>
    simp only [List.dropWhile_cons] at h
    split at h
    · exact ih h
    · rename_i hx
      simp only [List.cons.injEq] at h
      rw [← h.1]; simpa using hx
/-- How many digits there are. -/
theorem count_eq (t : List UInt8) (ht : t.length ≤ 70000) (x n : Int) : go h83_p5_st (h83_p5_y x 0 t n 0 0 []) = some (h83_p5_o0_y x ((t.takeWhile digitB).length : Int) t n 0 0 []) := by
  refine go_seq (y := fun i => h83_p5_y x (i : Int) t n 0 0 []) (n := (t.takeWhile digitB).length) (fun i hi rec => ?_) (fun rec => ?_) (by have := tw_len t; rw [fuel_def]; omega)
  · have hlt := Nat.lt_of_lt_of_le hi (tw_len t)
    rw [h83_p5_eq, nth_lt hlt, tw_get t i hi]
    have hd := tw_digits t _ (List.getElem_mem hi)
    have : (i : Int) < (t.length : Int) := by omega
    simp only [this, decide_true, cond_true, Option.bind_some]
    rw [digit_eq, hd, wrap64 (by omega) (by omega)]
    rfl
  · rw [h83_p5_eq]
    by_cases h : (t.takeWhile digitB).length < t.length
    · have : ((t.takeWhile digitB).length : Int) < (t.length : Int) := by omega
      rw [nth_lt h]
      simp only [this, decide_true, cond_true, Option.bind_some]
      rw [digit_eq]
      have hdr := tw_drop t
      rw [List.drop_eq_getElem_cons h] at hdr
      rw [dw_head t _ _ hdr.symm]
      rfl
    · have : ¬ ((t.takeWhile digitB).length : Int) < (t.length : Int) := by omega
      simp [this]
theorem bad_eq (neg : Bool) (ds r : List UInt8) (n : Int) : h83_p2_F (h83_p2_y (sgn neg) (ds.length : Int) ds r n 0 0 []) = some (h83_p2_o0_y (sgn neg) (ds.length : Int) ds (badNum neg ds) r n 0 0 []) := by
  have hs : decide (sgn neg < 0) = neg := by cases neg <;> decide
  rw [h83_p2_eq, hs]
  match ds with
  | [] => simp [badNum]
  | [x] =>
    by_cases hx : x = 48
    · subst hx; cases neg <;> simp [badNum]
    · have : (x == 48) = false := by simpa using hx
      simp [badNum, this]
  | x :: y :: l =>
    have h1 : ¬ ((((x :: y :: l).length : Int)) = 0) := by simp only [List.length_cons]; omega
    have h2 : (((x :: y :: l).length : Int)) > 1 := by simp only [List.length_cons]; omega
    have hx : ((x.toNat : Int) == 48) = decide (x = 48) := by
      rw [Bool.eq_iff_iff]; simp only [beq_iff_eq, decide_eq_true_eq]; rw [← UInt8.toNat_inj]; simp only [UInt8.reduceToNat]; omega
    have h3 : nth (x :: y :: l) (0 : Int) = some x := by simp [nth]
    rw [h3, Option.bind_some, hx]
    have hb : badNum neg (x :: y :: l) = decide (x = 48) := by
      simp only [badNum, List.length_cons, List.head?_cons]
      by_cases h48 : x = 48
      · simp [h48]
      · simp [h48]
    rw [hb]
    have hl0 : (x :: y :: l == ([48] : List UInt8)) = false := by simp
    generalize ((x :: y :: l).length : Int) = m at *
    have h1b : (m == 0) = false := by simpa using h1
    by_cases h48 : x = 48
    · simp [h1b, h2, h48]
    · simp [h1b, h2, h48]
theorem value_eq (x n : Int) (ds r : List UInt8) (hd : ofDigits ds) (hl : ds.length ≤ 13) : go h83_p0_st (h83_p0_y x ds 0 (ds.length : Int) 0 r n 0 0 []) = some (h83_p0_o0_y x (pval ds : Int) r n 0 0 []) := by
  have hb : ∀ i, i ≤ ds.length → pval (ds.take i) + 1 ≤ 10 ^ 13 := fun i hi =>
    Nat.le_trans (pval_lt i _ (by simp; omega) fun c hc => hd c (List.mem_of_mem_take hc)) (Nat.pow_le_pow_right (by omega) (by omega))
  refine go_seq (y := fun i => h83_p0_y x ds (pval (ds.take i) : Int) (ds.length : Int) (i : Int) r n 0 0 []) (n := ds.length) (fun i hi rec => ?_) (fun rec => ?_) (by rw [fuel_def]; omega)
  · rw [h83_p0_eq, nth_lt hi]
    have hc := digitB_iff.1 (hd _ (List.getElem_mem hi))
    have h1 := hb i (by omega)
    have : (i : Int) < (ds.length : Int) := by omega
    simp only [this, decide_true, cond_true, Option.bind_some]
    rw [wrapU8 (by omega) (by omega), wrap64 (x := (10 : Int) * _) (by omega) (by omega), wrap64 (x := (_ : Int) - 48) (by omega) (by omega), wrap64 (x := _ + _) (by omega) (by omega), wrap64 (by omega) (by omega)]
    have e : ds.take (i + 1) = ds.take i ++ [ds[i]] := by rw [List.take_append_getElem hi]
    have e2 : (10 : Int) * (pval (ds.take i) : Int) + ((ds[i].toNat : Int) - 48) = (pval (ds.take (i + 1)) : Int) := by rw [e, pval_snoc]; omega
    rw [e2]; rfl
  · rw [h83_p0_eq]
    simp [List.take_length]
theorem number_of (neg : Bool) (t0 t : List UInt8) (ht : t.length ≤ 70000) (n : Int) (hp : h83_p6_F (h83_p6_y 1 t0 n 0 0 []) = some (h83_p6_o0_y (sgn neg) t n 0 0 [])) : h83_F (h83_y t0 n) = some (match numS neg t with
    | .error e => .inr (h83_z_y e)
    | .ok (v, r) => .inl (h83_o_y 1 v [] [] [] r n)) := by
  have hl := tw_len t
  rw [h83_eq, hp]
  simp only [Option.bind_some, h83_p6_o0_x3_y, h83_p6_o0_r0_0_y, h83_p6_o0_r0_1_y, h83_p6_o0_r1_0_y, h83_p6_o0_r1_1_y, h83_p6_o0_r1_2_y]
  rw [count_eq t ht]
  simp only [Option.bind_some, h83_p5_o0_r0_0_y, h83_p5_o0_x4_y, h83_p5_o0_x3_y, h83_p5_o0_r0_1_y, h83_p5_o0_r1_0_y, h83_p5_o0_r1_1_y, h83_p5_o0_r1_2_y]
  rw [cutHi_nat' _ _ _ hl, tw_take, h83_p4_eq, cutLo_nat' _ _ _ hl, tw_drop, bad_eq]
  unfold numS
  cases hb : badNum neg (t.takeWhile digitB) with
  | true => simp [h45_eq]
  | false =>
    simp only [Option.bind_some, h83_p2_o0_x73_y, cond_false, h83_p2_o0_x3_y, h83_p2_o0_x4_y, h83_p2_o0_x5_y, h83_p2_o0_r0_0_y, h83_p2_o0_r0_1_y, h83_p2_o0_r1_0_y, h83_p2_o0_r1_1_y, h83_p2_o0_r1_2_y, h83_p4_o0_x3_y, h83_p4_o0_x4_y, h83_p4_o0_x5_y, h83_p4_o0_r0_0_y, h83_p4_o0_r0_1_y, h83_p4_o0_r1_0_y, h83_p4_o0_r1_1_y, h83_p4_o0_r1_2_y, Bool.false_eq_true, if_false]
    rw [h83_p3_eq]
    by_cases h13 : 13 < (t.takeWhile digitB).length
    · have : ((t.takeWhile digitB).length : Int) > 13 := by omega
      simp [this, h13, h45_eq]
    · have : ¬ ((t.takeWhile digitB).length : Int) > 13 := by omega
      simp only [this, decide_false, cond_false, Option.bind_some, h83_p3_o0_x3_y, h83_p3_o0_x4_y, h83_p3_o0_x5_y, h83_p3_o0_x6_y, h83_p3_o0_r0_0_y, h83_p3_o0_r0_1_y, h83_p3_o0_r1_0_y, h83_p3_o0_r1_1_y, h83_p3_o0_r1_2_y]
      rw [value_eq _ _ _ _ (tw_digits t) (by omega)]
      simp only [Option.bind_some, h83_p0_o0_x3_y, h83_p0_o0_x6_y, h83_p0_o0_r0_0_y, h83_p0_o0_r0_1_y, h83_p0_o0_r1_0_y, h83_p0_o0_r1_1_y, h83_p0_o0_r1_2_y]
      rw [h83_p1_eq]
      by_cases h40 : 1099511627776 < pval (t.takeWhile digitB)
      · have : (pval (t.takeWhile digitB) : Int) > 1099511627776 := by omega
        simp [this, h40, h45_eq]
      · have : ¬ (pval (t.takeWhile digitB) : Int) > 1099511627776 := by omega
        simp only [this, decide_false, cond_false, Option.bind_some, h83_p1_o0_x3_y, h83_p1_o0_x6_y, h83_p1_o0_r0_0_y, h83_p1_o0_r0_1_y, h83_p1_o0_r1_0_y, h83_p1_o0_r1_1_y, h83_p1_o0_r1_2_y, h13, h40, or_self, if_false]
        rw [f23_eq]
        have hv : IntKind.i64.wrap (sgn neg * (pval (t.takeWhile digitB) : Int)) = if neg = true then -(pval (t.takeWhile digitB) : Int) else (pval (t.takeWhile digitB) : Int) := by
          cases neg with
          | true => simp only [sgn, if_true]; rw [wrap64 (by omega) (by omega)]; omega
          | false => simp only [sgn, Bool.false_eq_true, if_false]; rw [wrap64 (by omega) (by omega)]; omega
        rw [hv]
        rfl
theorem number_eq (t : List UInt8) (ht : t.length ≤ 70000) (n : Int) (h0 : t ≠ []) : h83_F (h83_y t n) = some (match num t with
    | .error e => .inr (h83_z_y e)
    | .ok (v, r) => .inl (h83_o_y 1 v [] [] [] r n)) := by
  cases t with
  | nil => exact absurd rfl h0
  | cons c r =>
    have e45 : ((c.toNat : Int) == 45) = decide (c = 45) := by
      rw [Bool.eq_iff_iff]; simp only [beq_iff_eq, decide_eq_true_eq]; rw [← UInt8.toNat_inj]; simp only [UInt8.reduceToNat]; omega
    have hn : nth (c :: r) (0 : Int) = some c := by simp [nth]
    have hr : r.length ≤ 70000 := by simp only [List.length_cons] at ht; omega
    unfold num
    by_cases h : c = 45
    · rw [number_of true (c :: r) r hr n (by rw [h83_p6_eq, hn, Option.bind_some, e45, h]; simp only [decide_true, cond_true, cutLo_one]; rfl)]
      simp only [h, if_true]
    · rw [number_of false (c :: r) (c :: r) ht n (by rw [h83_p6_eq, hn, Option.bind_some, e45]; simp only [h, decide_false, cond_false]; rfl)]
      simp only [h, if_false]
end Go.Pe.Tryd
end
section
namespace Go.Pe.Tryd
open Go.Proofs Go.RowKit
set_option maxRecDepth 100000
set_option linter.unusedSimpArgs false
set_option linter.unusedVariables false
def late (keys : List (List UInt8)) (s : List UInt8) : Bool := match keys.getLast? with | some k => !Op.bytesLess k s | none => false
def keyS (keys : List (List UInt8)) : List UInt8 → Except Int (List (List UInt8) × List UInt8)
  | [] => .error 3
  | c :: r => if c = 34 then (match ptxt r [] with
      | .error e => .error e
      | .ok (s, r) => if late keys s = true then .error 23 else (match r with
          | [] => .error 3
          | d :: r' => if d = 58 then .ok (keys ++ [s], r') else .error 20)) else .error 20
def clo (k : Int) : UInt8 := if k = 4 then 125 else 93
def addV (f v : V) : V := ⟨f.kind, f.n, f.s, f.items ++ [v], f.keys⟩
def withK (f : V) (ks : List (List UInt8)) : V := ⟨f.kind, f.n, f.s, f.items, ks⟩
theorem end_eq (k n : Int) (s : List UInt8) (is : List V) (ks : List (List UInt8)) : f64_F ((k, (n, (s, (is, (ks, ()))))), ()) = some (((clo k).toNat : Int), ()) := by
  rw [f64_eq]; unfold clo
  by_cases h : k = 4
  · subst h; rfl
  · have : (k == 4) = false := by simpa using h
    simp [this, h]
theorem key_eq (t : List UInt8) (n : Int) (l : List V) (f : V) (hl : l.length ≤ 100000) (hk : f.keys.length ≤ 100000) : h66_F (h66_y t n (l ++ [f])) = some (match keyS f.keys t with
    | .error e => .inr (h66_z_y e)
    | .ok (ks, r) => .inl (h66_o_y r n (l ++ [withK f ks]))) := by
  rw [h66_eq, text_eq]
  cases t with
  | nil => simp [keyS]
  | cons c r =>
    by_cases hc : c = 34
    · subst hc
      simp only [if_true, keyS]
      cases htx : ptxt r [] with
      | error e => simp
      | ok p =>
        obtain ⟨s, r⟩ := p
        clear htx
        simp only [Option.bind_some, h84_o_x0_y, h84_o_r0_0_y, h84_o_r0_1_y, lastOf_app]
        rw [appOk_lt (by omega), take_eq _ (by simp)]
        have happ : appOk (f.keys.length + [s].length) = fun (K : Option (h66_O.den ⊕ h66_Z.den)) => K := by
          funext K; exact appOk_lt (by simp; omega) K
        have htail : ((match r with | [] => some (Sum.inr (h63_z_y 3)) | c :: r => if c ∈ ([58] : List UInt8) then some (Sum.inl (h63_o_y (c.toNat : Int) r n)) else some (Sum.inr (h63_z_y 20)) : Option (h63_O.den ⊕ h63_Z.den)).bind fun o => (match o with | .inl z => some (Sum.inl (h66_o_y (h63_o_r0_0 z) (h63_o_r0_1 z) (l ++ [V.mk f.kind f.n f.s f.items (f.keys ++ [s])]))) | .inr z => some (Sum.inr (h66_z_y (h63_z_x0_0_0 z))))) =
            some (match (match r with | [] => Except.error 3 | d :: r' => if d = 58 then Except.ok (f.keys ++ [s], r') else Except.error 20 : Except Int (List (List UInt8) × List UInt8)) with
              | .error e => .inr (h66_z_y e)
              | .ok (ks, r) => .inl (h66_o_y r n (l ++ [withK f ks]))) := by
          cases r with
          | nil => simp
          | cons d r' =>
            by_cases hd : d = 58
            · simp [hd, withK]
            · simp [hd]
        rw [happ]
        unfold late
        rcases List.eq_nil_or_concat f.keys with hk0 | ⟨ks, k, hks⟩
        · have h0 : ¬ ((f.keys.length : Int) > 0) := by rw [hk0]; simp
          have hgl : f.keys.getLast? = none := by rw [hk0]; rfl
          simp only [h0, decide_false, cond_false, hgl, Bool.false_eq_true, if_false]
          exact htail
        · have hlen : f.keys.length = ks.length + 1 := by rw [hks]; simp
          have h0 : ((f.keys.length : Int) > 0) := by omega
          have hgl : f.keys.getLast? = some k := by rw [hks]; simp
          have hw : IntKind.i64.wrap ((f.keys.length : Int) - 1) = (ks.length : Int) := by rw [wrap64 (by omega) (by omega)]; omega
          have hgk : f.keys[Int.toNat (ks.length : Int)]? = some k := by rw [hks]; simp
          simp only [h0, decide_true, cond_true, hgl]
          rw [hw, within_lt (by omega), hgk, Option.bind_some]
          cases Op.bytesLess k s with
          | false => simp [h45_eq]
          | true =>
            simp only [Bool.not_true, cond_false, Bool.false_eq_true, if_false]
            exact htail
    · simp [keyS, hc]
def openS (k : Int) (r : List UInt8) : Except Int ((V × List UInt8) ⊕ (V × List UInt8)) :=
  if k = 4 then (match keyS [] r with | .error e => .error e | .ok (ks, r) => .ok (.inr (⟨4, 0, [], [], ks⟩, r))) else .ok (.inr (⟨k, 0, [], [], []⟩, r))
def beginS (depth : Nat) (n : Nat) (t : List UInt8) : Except Int ((V × List UInt8) ⊕ (V × List UInt8)) :=
  if depth = 12 then .error 21 else if n = 2000 then .error 22 else match t with
    | [] => .error 3
    | c :: r => if (c == 45 || digitB c) = true then (match num (c :: r) with | .error e => .error e | .ok (v, r) => .ok (.inl (⟨1, v, [], [], []⟩, r)))
      else if c = 34 then (match ptxt r [] with | .error e => .error e | .ok (s, r) => .ok (.inl (⟨2, 0, s, [], []⟩, r)))
      else if c = 91 ∨ c = 123 then (match r with
        | [] => openS (if c = 123 then 4 else 3) []
        | d :: r' => if d = clo (if c = 123 then 4 else 3) then .ok (.inl (⟨if c = 123 then 4 else 3, 0, [], [], []⟩, r')) else openS (if c = 123 then 4 else 3) (d :: r'))
      else .error 20
theorem push_eq (k : Int) (t : List UInt8) (n : Int) (fs : List V) (h : fs.length ≤ 100000) : h85_F (h85_y k 0 [] t n fs) = some (h85_o_y t n (fs ++ [⟨k, 0, [], [], []⟩])) := by
  rw [h85_eq, appOk_lt (by omega)]; simp [sameInt]
theorem begin_eq (t : List UInt8) (ht : t.length ≤ 70000) (n : Nat) (hn : n ≤ 2000) (fs : List V) (hf : fs.length ≤ 100000) : h61_F (h61_y t (n : Int) fs) = some (match beginS fs.length n t with
    | .error e => .inr (h61_z_y e)
    | .ok (.inl (v, r)) => .inl (h61_o_y v.kind v.n v.s v.items v.keys true r ((n + 1 : Nat) : Int) fs)
    | .ok (.inr (f, r)) => .inl (h61_o_y 0 0 [] [] [] false r ((n + 1 : Nat) : Int) (fs ++ [f]))) := by
  rw [h61_eq, h61_p4_eq]
  unfold beginS
  by_cases h12 : fs.length = 12
  · simp [h12, h45_eq]
  have h12' : ((fs.length : Int) == 12) = false := by simp; omega
  rw [h12']
  by_cases h20 : n = 2000
  · simp [h12, h20, h45_eq]
  have h20' : ((n : Int) == 2000) = false := by simp; omega
  have hw : IntKind.i64.wrap ((n : Int) + 1) = ((n + 1 : Nat) : Int) := by rw [wrap64 (by omega) (by omega)]; omega
  simp only [h20', cond_false, Option.bind_some, h12, h20, if_false, h61_p4_o0_r0_0_y, h61_p4_o0_r0_1_y, h61_p4_o0_r0_2_y, h61_p4_o0_r1_0_y, h61_p4_o0_r1_1_y, h61_p4_o0_r1_2_y, hw]
  rw [next_eq]
  cases t with
  | nil => simp
  | cons c r =>
    simp only [Option.bind_some, h81_o_x0_y, h81_o_r0_0_y, h81_o_r0_1_y]
    rw [h61_p2_eq]
    have e45 : ((c.toNat : Int) == 45) = (c == 45) := by
      rw [Bool.eq_iff_iff]; simp only [beq_iff_eq]; rw [← UInt8.toNat_inj]; simp only [UInt8.reduceToNat]; omega
    have e34 : ((c.toNat : Int) == 34) = decide (c = 34) := by
      rw [Bool.eq_iff_iff]; simp only [beq_iff_eq, decide_eq_true_eq]; rw [← UInt8.toNat_inj]; simp only [UInt8.reduceToNat]; omega
    have e123 : ((c.toNat : Int) == 123) = decide (c = 123) := by
      rw [Bool.eq_iff_iff]; simp only [beq_iff_eq, decide_eq_true_eq]; rw [← UInt8.toNat_inj]; simp only [UInt8.reduceToNat]; omega
    have hp2 : (bif (c.toNat : Int) == 45 then some (h61_p2_o0_y (c.toNat : Int) true (c :: r) ((n + 1 : Nat) : Int) fs 0 0 []) else (f82_F ((c.toNat : Int), ())).bind fun r108 => some (h61_p2_o0_y (c.toNat : Int) r108.1 (c :: r) ((n + 1 : Nat) : Int) fs 0 0 [])) = some (h61_p2_o0_y (c.toNat : Int) (c == 45 || digitB c) (c :: r) ((n + 1 : Nat) : Int) fs 0 0 []) := by
      rw [digit_eq, e45]
      cases c == 45 <;> simp
    rw [hp2]
    simp only [Option.bind_some, h61_p2_o0_x31_y, h61_p2_o0_x4_y, h61_p2_o0_r0_0_y, h61_p2_o0_r0_1_y, h61_p2_o0_r0_2_y, h61_p2_o0_r1_0_y, h61_p2_o0_r1_1_y, h61_p2_o0_r1_2_y, e34]
    cases hdig : (c == 45 || digitB c) with
    | true =>
      rw [number_eq (c :: r) ht _ (by simp)]
      cases num (c :: r) with
      | error e => rfl
      | ok p => rfl
    | false =>
      simp only [cond_false, Bool.false_eq_true, if_false]
      by_cases h34 : c = 34
      · subst h34
        simp only [decide_true, cond_true, if_true]
        rw [text_eq]
        simp only [if_true]
        cases ptxt r [] with
        | error e => rfl
        | ok p =>
          simp only [Option.bind_some]
          rw [f22_eq]; rfl
      · simp only [h34, decide_false, cond_false, if_false]
        rw [h61_p3_eq, take_eq _ (by simp)]
        by_cases hb : c = 91 ∨ c = 123
        · have hm : c ∈ ([91, 123] : List UInt8) := by simpa using hb
          simp only [hm, if_true, Option.bind_some, h63_o_x0_y, h63_o_r0_0_y, h63_o_r0_1_y, e123, hb]
          have hk : (bif decide (c = 123) then some (Sum.inr (h61_p3_o1_y r ((n + 1 : Nat) : Int) fs 0 0 [] 4 0 [])) else some (Sum.inr (h61_p3_o1_y r ((n + 1 : Nat) : Int) fs 0 0 [] 3 0 [])) : Option (OutDen h61_p3_outs)) = some (Sum.inr (h61_p3_o1_y r ((n + 1 : Nat) : Int) fs 0 0 [] (if c = 123 then 4 else 3) 0 [])) := by
            by_cases h : c = 123 <;> simp [h]
          rw [hk]
          generalize hkk : (if c = 123 then (4 : Int) else 3) = k
          simp only [Option.bind_some, h61_p3_o1_r0_0_y, h61_p3_o1_r0_1_y, h61_p3_o1_r0_2_y, h61_p3_o1_r1_0_y, h61_p3_o1_r1_1_y, h61_p3_o1_r1_2_y, h61_p3_o1_r2_0_y, h61_p3_o1_r2_1_y, h61_p3_o1_r2_2_y]
          have hopen : ((h61_p1_F (h61_p1_y r ((n + 1 : Nat) : Int) fs 0 0 [] k 0 [])).bind fun o137 => (match o137 with | .inl z138 => some (Sum.inl (h61_o_y 0 0 [] [] [] false (h61_p1_o0_r0_0 z138) (h61_p1_o0_r0_1 z138) (h61_p1_o0_r0_2 z138))) | .inr o139 => some (Sum.inr (h61_z_y (h61_p1_o1_x0_0_0 o139))))) = some (match openS k r with
              | .error e => .inr (h61_z_y e)
              | .ok (.inl (v, r)) => .inl (h61_o_y v.kind v.n v.s v.items v.keys true r ((n + 1 : Nat) : Int) fs)
              | .ok (.inr (f, r)) => .inl (h61_o_y 0 0 [] [] [] false r ((n + 1 : Nat) : Int) (fs ++ [f]))) := by
            rw [h61_p1_eq, push_eq _ _ _ _ hf]
            unfold openS
            by_cases h4 : k = 4
            · subst h4
              simp only [Option.bind_some, h85_o_r0_0_y, h85_o_r0_1_y, h85_o_r0_2_y, BEq.rfl, cond_true, if_true]
              rw [key_eq _ _ _ _ hf (by simp [V.keys])]
              simp only [V.keys]
              cases keyS [] r with
              | error e => simp
              | ok p => simp [withK, V.kind, V.n, V.s, V.items]
            · have : (k == 4) = false := by simpa using h4
              simp [this, h4]
          cases r with
          | nil =>
            have hz : h61_p0_F (h61_p0_y [] ((n + 1 : Nat) : Int) fs 0 0 [] k 0 []) = some (h61_p0_o0_y false [] ((n + 1 : Nat) : Int) fs 0 0 [] k 0 []) := by rw [h61_p0_eq]; simp
            rw [hz]
            simp only [Option.bind_some, h61_p0_o0_x65_y, cond_false, h61_p0_o0_r0_0_y, h61_p0_o0_r0_1_y, h61_p0_o0_r0_2_y, h61_p0_o0_r1_0_y, h61_p0_o0_r1_1_y, h61_p0_o0_r1_2_y, h61_p0_o0_r2_0_y, h61_p0_o0_r2_1_y, h61_p0_o0_r2_2_y]
            exact hopen
          | cons d r' =>
            have hz : h61_p0_F (h61_p0_y (d :: r') ((n + 1 : Nat) : Int) fs 0 0 [] k 0 []) = some (h61_p0_o0_y (decide (d = clo k)) (d :: r') ((n + 1 : Nat) : Int) fs 0 0 [] k 0 []) := by
              have hnth : nth (d :: r') (0 : Int) = some d := by simp [nth]
              have ed : ((d.toNat : Int) == ((clo k).toNat : Int)) = decide (d = clo k) := by
                rw [Bool.eq_iff_iff]; simp only [beq_iff_eq, decide_eq_true_eq]; rw [← UInt8.toNat_inj]; omega
              have hne : ((d :: r') != ([] : List UInt8)) = true := by simp
              rw [h61_p0_eq, hne, cond_true, hnth, Option.bind_some, end_eq, Option.bind_some]
              simp only [ed]
            rw [hz]
            simp only [Option.bind_some, h61_p0_o0_x65_y, h61_p0_o0_r0_0_y, h61_p0_o0_r0_1_y, h61_p0_o0_r0_2_y, h61_p0_o0_r1_0_y, h61_p0_o0_r1_1_y, h61_p0_o0_r1_2_y, h61_p0_o0_r2_0_y, h61_p0_o0_r2_1_y, h61_p0_o0_r2_2_y]
            by_cases hcl : d = clo k
            · simp only [hcl, decide_true, cond_true, if_true, cutLo_one]; rfl
            · simp only [hcl, decide_false, cond_false, if_false]
              exact hopen
        · have hm : c ∉ ([91, 123] : List UInt8) := by simpa using hb
          simp [hm, hb]
end Go.Pe.Tryd
end
section
namespace Go.Pe.Tryd
open Go.Proofs Go.RowKit
set_option maxRecDepth 100000
set_option linter.unusedSimpArgs false
set_option linter.unusedVariables false
def closeM (v : V) (t : List UInt8) : List V → Except Int ((V × List UInt8) ⊕ (List UInt8 × List V))
  | [] => .ok (.inl (v, t))
  | f :: rs => match t with
    | [] => .error 3
    | c :: r => if c = 44 then (if f.kind = 4 then (match keyS f.keys r with | .error e => .error e | .ok (ks, r) => .ok (.inr (r, withK (addV f v) ks :: rs))) else .ok (.inr (r, addV f v :: rs)))
      else if c = clo f.kind then closeM (addV f v) r rs else .error 20
theorem pop_eq (t : List UInt8) (n : Int) (l : List V) (f : V) (h : l.length ≤ 100000) : h65_F (h65_y t n (l ++ [f])) = some (h65_o_y f.kind f.n f.s t n l f.items f.keys) := by
  have hw : IntKind.i64.wrap (((l.length : Int) + 1) - 1) = (l.length : Int) := by rw [wrap64 (by omega) (by omega)]; omega
  rw [h65_eq, lastOf_app, Option.bind_some, appOk_lt (by simp only; omega), hw]
  simp [sameInt]
theorem clo_ne (k : Int) : clo k ≠ 44 := by unfold clo; split <;> decide
theorem set_last {α : Type} (l : List α) (a b : α) : (l ++ [a]).set l.length b = l ++ [b] := by
  induction l with
  | nil => rfl
  | cons x l ih => simp [ih]
/-- The closing of lists, from the inside out. -/
theorem inner_eq (n : Int) (q0 q1 : Int) (q2 : List UInt8) : ∀ (rs : List V) (v : V) (t : List UInt8) (k : Nat), rs.length ≤ 100 → (∀ f ∈ rs, f.items.length ≤ 100000 ∧ f.keys.length ≤ 100000) → rs.length + 2 ≤ k →
    iter h44_p0_st k (h44_p0_y true t n rs.reverse q0 q1 q2 v.kind v.n v.s v.items v.keys) = some (match closeM v t rs with
      | .error e => .inr (.inr (h44_p0_o2_y e))
      | .ok (.inl (v, t)) => .inr (.inl (h44_p0_o1_y t n [] v.kind v.n v.s v.items v.keys))
      | .ok (.inr (t, rs)) => .inl (h44_p0_o0_y t n rs.reverse q0 q1 q2))
  | [], v, t, k, hl, hb, hk => by
    obtain ⟨k, rfl⟩ : ∃ j, k = j + 1 := ⟨k - 1, by omega⟩
    rw [iter, h44_p0_eq]
    simp [closeM]
  | f :: rs, v, t, k, hl, hb, hk => by
    obtain ⟨k, rfl⟩ : ∃ j, k = j + 2 := ⟨k - 2, by simp only [List.length_cons] at hk; omega⟩
    simp only [List.length_cons] at hl hk
    obtain ⟨hfi, hfk⟩ := hb f (by simp)
    have hlr : rs.reverse.length = rs.length := by simp
    have hrev : (f :: rs).reverse = rs.reverse ++ [f] := by simp
    have h0 : (((rs.reverse ++ [f]).length : Int) == 0) = false := by simp; omega
    have hfalse : ∀ (t : List UInt8) (l : List V) (k : Nat) (a b : Int) (c : List UInt8) (d : List V) (e : List (List UInt8)), iter h44_p0_st (k + 1) (h44_p0_y false t n l q0 q1 q2 a b c d e) = some (.inl (h44_p0_o0_y t n l q0 q1 q2)) := by
      intro t l k a b c d e
      rw [iter, h44_p0_eq]; simp
    rw [hrev, iter, h44_p0_eq, h0, cond_true, cond_false, lastOf_app, Option.bind_some]
    simp only
    rw [appOk_lt (by omega), appOk_lt (by simp; omega), within_lt (by simp), show Int.toNat (f.items.length : Int) = f.items.length by simp, List.getElem?_append_right (Nat.le_refl _), Nat.sub_self]
    simp only [List.getElem?_cons_zero, Option.bind_some, set_last]
    rw [end_eq, Option.bind_some]
    simp only
    have hst : strOf [((clo f.kind).toNat : Int)] = [clo f.kind] := by
      rw [show [((clo f.kind).toNat : Int)] = bytesOf [clo f.kind] from rfl, strOf_bytesOf]
    rw [hst, if_pos (by simp), take_eq _ (by simp)]
    have hadd : V.mk f.kind f.n f.s (f.items ++ [V.mk v.kind v.n v.s v.items v.keys]) f.keys = addV f v := by cases v; rfl
    rw [hadd]
    unfold closeM
    cases t with
    | nil => simp
    | cons c r =>
      simp only
      by_cases h44 : c = 44
      · subst h44
        have hm : (44 : UInt8) ∈ ([44] ++ [clo f.kind] : List UInt8) := by simp
        simp only [hm, if_true, Option.bind_some, h63_o_x0_y, h63_o_r0_0_y, h63_o_r0_1_y]
        have hb44 : ((((44 : UInt8).toNat : Int)) != 44) = false := by decide
        rw [hb44, cond_false]
        by_cases h4 : f.kind = 4
        · have : (f.kind == 4) = true := by simpa using h4
          rw [this, cond_true, key_eq _ _ _ _ (by omega) (by simpa [addV, V.keys] using hfk)]
          simp only [h4, if_true]
          rw [show (addV f v).keys = f.keys from rfl]
          cases keyS f.keys r with
          | error e => simp
          | ok p =>
            simp only [Option.bind_some, h66_o_r0_0_y, h66_o_r0_1_y, h66_o_r0_2_y]
            rw [hfalse]; simp
        · have : (f.kind == 4) = false := by simpa using h4
          rw [this, cond_false]
          simp only [h4, if_false]
          rw [hfalse]; simp
      · by_cases hc : c = clo f.kind
        · have hm : c ∈ ([44] ++ [clo f.kind] : List UInt8) := by simp [hc]
          have hn44 : (((c.toNat : Int)) != 44) = true := by
            rw [bne_iff]; intro e; apply h44; rw [← UInt8.toNat_inj]; simp only [UInt8.reduceToNat]; omega
          simp only [hm, if_true, Option.bind_some, h63_o_x0_y, h63_o_r0_0_y, h63_o_r0_1_y, hn44, cond_true, h44, if_false]
          rw [if_pos hc, pop_eq _ _ _ _ (by omega), Option.bind_some]
          simp only [h65_o_r0_0_y, h65_o_r0_1_y, h65_o_r0_2_y, h65_o_x0_0_y, h65_o_x0_1_y, h65_o_x0_2_y, h65_o_l0_y, h65_o_l1_y]
          exact inner_eq n q0 q1 q2 rs (addV f v) r (k + 1) (by omega) (fun g hg => hb g (by simp [hg])) (by omega)
        · have hm : c ∉ ([44] ++ [clo f.kind] : List UInt8) := by simp [h44, hc]
          simp [hm, h44, hc]
def itemsS (G : List UInt8 → Nat → Except Int (V × List UInt8 × Nat)) : Nat → V → List UInt8 → Nat → Except Int (V × List UInt8 × Nat)
  | 0, _, _, _ => .error 99
  | k + 1, f, t, n => match G t n with
    | .error e => .error e
    | .ok (v, t', n') => match t' with
      | [] => .error 3
      | c :: r => if c = 44 then (if f.kind = 4 then (match keyS f.keys r with | .error e => .error e | .ok (ks, r) => itemsS G k (withK (addV f v) ks) r n') else itemsS G k (addV f v) r n')
        else if c = clo f.kind then .ok (addV f v, r, n') else .error 20
def value : Nat → List UInt8 → Nat → Except Int (V × List UInt8 × Nat)
  | 0, t, n => .error 21
  | d + 1, t, n => match beginS (11 - d) n t with
    | .error e => .error e
    | .ok (.inl (v, r)) => .ok (v, r, n + 1)
    | .ok (.inr (f, r)) => itemsS (value d) 2001 f r (n + 1)
theorem numS_len {neg : Bool} {t : List UInt8} {v : Int} {r : List UInt8} (h : numS neg t = .ok (v, r)) : r.length ≤ t.length := by
  unfold numS at h
  split at h
  · cases h
  · split at h
    · cases h
    · cases h
      have := congrArg List.length (tw_dw t); rw [List.length_append] at this; omega
theorem num_len {t : List UInt8} {v : Int} {r : List UInt8} (h : num t = .ok (v, r)) : r.length ≤ t.length := by
  cases t with
  | nil => cases h
  | cons c s =>
    simp only [num] at h
    split at h
    · have := numS_len h; simp only [List.length_cons]; omega
    · exact numS_len h
theorem ptxt_len : ∀ (k : Nat) {t acc s r : List UInt8}, t.length ≤ k → ptxt t acc = .ok (s, r) → r.length ≤ t.length
  | k, [], _, _, _, _, h => by simp [ptxt] at h
  | 0, c :: r', _, _, _, hk, h => by simp at hk
  | k + 1, c :: r', acc, s, r, hk, h => by
    simp only [List.length_cons] at hk ⊢
    unfold ptxt at h
    split at h
    · cases h
    · split at h
      · cases h; omega
      · split at h
        · split at h
          · cases h
          · rename_i c' r''
            simp only [List.length_cons] at hk ⊢
            split at h
            · split at h
              · cases h
              · have := ptxt_len k (by omega) h; omega
            · cases h
        · split at h
          · cases h
          · have := ptxt_len k (by omega) h; omega
theorem keyS_len {keys ks : List (List UInt8)} {t r : List UInt8} (h : keyS keys t = .ok (ks, r)) : r.length ≤ t.length ∧ ks.length = keys.length + 1 := by
  cases t with
  | nil => cases h
  | cons c s =>
    simp only [keyS] at h
    split at h
    · split at h
      · cases h
      · rename_i s' r' htx
        have := ptxt_len _ (Nat.le_refl _) htx
        split at h
        · cases h
        · split at h
          · cases h
          · split at h
            · cases h; simp only [List.length_cons] at this ⊢; exact ⟨by omega, by simp⟩
            · cases h
    · cases h
end Go.Pe.Tryd
end
section
namespace Go.Pe.Tryd
open Go.Proofs Go.RowKit
set_option maxRecDepth 100000
set_option linter.unusedSimpArgs false
set_option linter.unusedVariables false
theorem openS_ok {k : Int} {r : List UInt8} {x : (V × List UInt8) ⊕ (V × List UInt8)} (h : openS k r = .ok x) : ∃ f r', x = .inr (f, r') ∧ r'.length ≤ r.length ∧ f.items = [] ∧ f.keys.length ≤ 1 := by
  unfold openS at h
  split at h
  · split at h
    · cases h
    · rename_i ks r' hk
      cases h
      have := keyS_len hk
      exact ⟨_, _, rfl, this.1, rfl, by simp only [V.keys]; simp at this; omega⟩
  · cases h; exact ⟨_, _, rfl, Nat.le_refl _, rfl, by simp [V.keys]⟩
theorem beginS_ok {d n : Nat} {t : List UInt8} {x : (V × List UInt8) ⊕ (V × List UInt8)} (h : beginS d n t = .ok x) : n ≠ 2000 ∧ match x with
    | .inl (v, r) => r.length ≤ t.length
    | .inr (f, r) => r.length ≤ t.length ∧ f.items = [] ∧ f.keys.length ≤ 1 := by
  unfold beginS at h
  split at h
  · cases h
  · split at h
    · cases h
    · rename_i hn
      refine ⟨hn, ?_⟩
      cases t with
      | nil => cases h
      | cons c r =>
        simp only at h
        generalize (if c = 123 then (4 : Int) else 3) = k at h
        split at h
        · split at h
          · cases h
          · rename_i v r' hnum
            cases h; exact num_len hnum
        · split at h
          · split at h
            · cases h
            · rename_i s r' htx
              cases h; have := ptxt_len _ (Nat.le_refl _) htx; simp only [List.length_cons]; omega
          · split at h
            · cases r with
              | nil =>
                obtain ⟨f, r', rfl, h1, h2, h3⟩ := openS_ok h
                exact ⟨by simp only [List.length_cons, List.length_nil] at h1 ⊢; omega, h2, h3⟩
              | cons d r' =>
                simp only at h
                split at h
                · cases h; simp only [List.length_cons]; omega
                · obtain ⟨f, r', rfl, h1, h2, h3⟩ := openS_ok h
                  exact ⟨by simp only [List.length_cons] at h1 ⊢; omega, h2, h3⟩
            · cases h
theorem round_eq (t : List UInt8) (ht : t.length ≤ 70000) (n : Nat) (hn : n ≤ 2000) (rs : List V) (hl : rs.length ≤ 12) (hb : ∀ f ∈ rs, f.items.length ≤ 100000 ∧ f.keys.length ≤ 100000) (rec : h44_p1_sh.den → Option (OutDen h44_p1_outs)) :
    h44_p1_st rec (h44_p1_y t (n : Int) rs.reverse 0 0 []) = match beginS rs.length n t with
      | .error e => some (.inl (h44_p1_o0_y e))
      | .ok (.inl (v, r)) => (match closeM v r rs with
          | .error e => some (.inl (h44_p1_o0_y e))
          | .ok (.inl (v, t)) => some (.inr (h44_p1_o1_y t ((n + 1 : Nat) : Int) [] v.kind v.n v.s v.items v.keys))
          | .ok (.inr (t, rs)) => rec (h44_p1_y t ((n + 1 : Nat) : Int) rs.reverse 0 0 []))
      | .ok (.inr (f, r)) => rec (h44_p1_y r ((n + 1 : Nat) : Int) (f :: rs).reverse 0 0 []) := by
  rw [h44_p1_eq, begin_eq t ht n hn rs.reverse (by simp; omega), List.length_reverse]
  cases hbg : beginS rs.length n t with
  | error e => simp
  | ok x =>
    cases x with
    | inl p =>
      obtain ⟨v, r⟩ := p
      simp only [Option.bind_some, h61_o_x1_y, h61_o_r0_0_y, h61_o_r0_1_y, h61_o_r0_2_y, h61_o_x0_0_y, h61_o_x0_1_y, h61_o_x0_2_y, h61_o_x0_3_y, h61_o_x0_4_y]
      unfold go
      rw [inner_eq _ 0 0 [] rs v r _ (by omega) hb (by rw [fuel_def]; omega)]
      cases closeM v r rs with
      | error e => simp
      | ok y =>
        cases y with
        | inl p => simp
        | inr p => simp
    | inr p =>
      obtain ⟨f, r⟩ := p
      simp only [Option.bind_some, h61_o_x1_y, h61_o_r0_0_y, h61_o_r0_1_y, h61_o_r0_2_y, h61_o_x0_0_y, h61_o_x0_1_y, h61_o_x0_2_y, h61_o_x0_3_y, h61_o_x0_4_y]
      have hf : ∀ y : h44_p0_sh.den, ∃ m, fuelOf h44_p0_sh y = m + 1 := fun y => ⟨fuelOf h44_p0_sh y - 1, by rw [fuel_def]; omega⟩
      unfold go
      obtain ⟨m, hm⟩ := hf (h44_p0_y false r ((n + 1 : Nat) : Int) (rs.reverse ++ [f]) 0 0 [] 0 0 [] [] [])
      rw [hm, iter, h44_p0_eq]
      simp
noncomputable def cont (K : Nat) (v : V) (t : List UInt8) (n : Nat) (rs : List V) : Option (OutDen h44_p1_outs) := match closeM v t rs with
  | .error e => some (.inl (h44_p1_o0_y e))
  | .ok (.inl (v, t)) => some (.inr (h44_p1_o1_y t (n : Int) [] v.kind v.n v.s v.items v.keys))
  | .ok (.inr (t, rs)) => iter h44_p1_st K (h44_p1_y t (n : Int) rs.reverse 0 0 [])
def okS (n : Nat) (rs : List V) : Prop := ∀ f ∈ rs, f.items.length ≤ n ∧ f.keys.length ≤ n + 1
theorem okS.mono {n m : Nat} {rs : List V} (h : okS n rs) (hm : n ≤ m) : okS m rs := fun f hf => ⟨Nat.le_trans (h f hf).1 hm, by have := (h f hf).2; omega⟩
def Run (K : Nat) (t : List UInt8) (n : Nat) (rs rs0 : List V) (x : Except Int (V × List UInt8 × Nat)) : Prop := match x with
  | .error e => iter h44_p1_st K (h44_p1_y t (n : Int) rs.reverse 0 0 []) = some (.inl (h44_p1_o0_y e))
  | .ok (v, t', n') => t'.length ≤ t.length ∧ n < n' ∧ n' ≤ 2000 ∧ iter h44_p1_st K (h44_p1_y t (n : Int) rs.reverse 0 0 []) = cont (K - (n' - n)) v t' n' rs0
theorem items_run (G : List UInt8 → Nat → Except Int (V × List UInt8 × Nat)) (rs : List V)
    (hG : ∀ f t n K, n ≤ 2000 → okS n (f :: rs) → t.length ≤ 70000 → 2002 ≤ K + n → Run K t n (f :: rs) (f :: rs) (G t n)) :
    ∀ (k : Nat) (f : V) (t : List UInt8) (n K : Nat), n ≤ 2000 → okS n (f :: rs) → t.length ≤ 70000 → 2002 ≤ K + n → 2001 ≤ k + n → Run K t n (f :: rs) rs (itemsS G k f t n) := by
  intro k
  induction k with
  | zero => intro f t n K h1 _ _ _ h5; omega
  | succ k ih =>
    intro f t n K h1 h2 h3 h4 h5
    have hg := hG f t n K h1 h2 h3 h4
    unfold itemsS
    cases hGt : G t n with
    | error e => rw [hGt] at hg; exact hg
    | ok p =>
      obtain ⟨v, t', n'⟩ := p
      rw [hGt] at hg
      obtain ⟨g1, g2, g3, g4⟩ := hg
      have hf := h2 f (by simp)
      have hfa : (addV f v).items.length ≤ n' ∧ (addV f v).keys.length ≤ n' + 1 := ⟨by show (f.items ++ [v]).length ≤ n'; simp only [List.length_append, List.length_singleton]; omega, by show f.keys.length ≤ n' + 1; omega⟩
      simp only
      cases t' with
      | nil =>
        simp only [Run]; rw [g4]; unfold cont closeM; rfl
      | cons c r =>
        simp only [List.length_cons] at g1
        simp only
        by_cases h44 : c = 44
        · simp only [h44, if_true]
          by_cases hk4 : f.kind = 4
          · simp only [hk4, if_true]
            cases hks : keyS f.keys r with
            | error e => simp only [Run]; rw [g4]; unfold cont closeM; simp [h44, hk4, hks]
            | ok p =>
              obtain ⟨ks, r'⟩ := p
              simp only
              have hkl := keyS_len hks
              have hok : okS n' (withK (addV f v) ks :: rs) := fun g hg' => by
                rcases List.mem_cons.1 hg' with rfl | hg'
                · exact ⟨show (addV f v).items.length ≤ n' from hfa.1, by show ks.length ≤ n' + 1; omega⟩
                · exact (h2.mono (by omega)) g (by simp [hg'])
              have hr := ih (withK (addV f v) ks) r' n' (K - (n' - n)) g3 hok (by omega) (by omega) (by omega)
              have hstep : iter h44_p1_st K (h44_p1_y t (n : Int) (f :: rs).reverse 0 0 []) = iter h44_p1_st (K - (n' - n)) (h44_p1_y r' (n' : Int) (withK (addV f v) ks :: rs).reverse 0 0 []) := by
                rw [g4]; unfold cont closeM; simp only [h44, if_true, hk4, hks]
              cases hi : itemsS G k (withK (addV f v) ks) r' n' with
              | error e => rw [hi] at hr; simp only [Run] at hr ⊢; rw [hstep]; exact hr
              | ok q =>
                obtain ⟨v2, t2, n2⟩ := q
                rw [hi] at hr
                obtain ⟨q1, q2, q3, q4⟩ := hr
                refine ⟨by omega, by omega, q3, ?_⟩
                rw [hstep, q4, show K - (n' - n) - (n2 - n') = K - (n2 - n) by omega]
          · simp only [hk4, if_false]
            have hok : okS n' (addV f v :: rs) := fun g hg' => by
              rcases List.mem_cons.1 hg' with rfl | hg'
              · exact hfa
              · exact (h2.mono (by omega)) g (by simp [hg'])
            have hr := ih (addV f v) r n' (K - (n' - n)) g3 hok (by omega) (by omega) (by omega)
            have hstep : iter h44_p1_st K (h44_p1_y t (n : Int) (f :: rs).reverse 0 0 []) = iter h44_p1_st (K - (n' - n)) (h44_p1_y r (n' : Int) (addV f v :: rs).reverse 0 0 []) := by
              rw [g4]; unfold cont closeM; simp only [h44, if_true, hk4, if_false]
            cases hi : itemsS G k (addV f v) r n' with
            | error e => rw [hi] at hr; simp only [Run] at hr ⊢; rw [hstep]; exact hr
            | ok q =>
              obtain ⟨v2, t2, n2⟩ := q
              rw [hi] at hr
              obtain ⟨q1, q2, q3, q4⟩ := hr
              refine ⟨by omega, by omega, q3, ?_⟩
              rw [hstep, q4, show K - (n' - n) - (n2 - n') = K - (n2 - n) by omega]
        · simp only [h44, if_false]
          by_cases hc : c = clo f.kind
          · rw [if_pos hc]
            refine ⟨by omega, g2, g3, ?_⟩
            rw [g4]; unfold cont; rw [closeM]; simp only [h44, if_false]; rw [if_pos hc]
          · rw [if_neg hc]
            simp only [Run]; rw [g4]; unfold cont closeM; simp [h44, hc]
theorem value_run : ∀ (d : Nat) (t : List UInt8) (n : Nat) (rs : List V) (K : Nat), rs.length + d = 12 → n ≤ 2000 → okS n rs → t.length ≤ 70000 → 2002 ≤ K + n → Run K t n rs rs (value d t n) := by
  intro d
  induction d with
  | zero =>
    intro t n rs K hl hn hok ht hK
    obtain ⟨K, rfl⟩ : ∃ j, K = j + 1 := ⟨K - 1, by omega⟩
    have hb : ∀ f ∈ rs, f.items.length ≤ 100000 ∧ f.keys.length ≤ 100000 := fun f hf => by have := hok f hf; omega
    simp only [value, Run]
    rw [iter, round_eq t ht n hn rs (by omega) hb]
    have : beginS rs.length n t = .error 21 := by unfold beginS; rw [if_pos (by omega)]
    rw [this]
  | succ d ih =>
    intro t n rs K hl hn hok ht hK
    obtain ⟨K, rfl⟩ : ∃ j, K = j + 1 := ⟨K - 1, by omega⟩
    have hb : ∀ f ∈ rs, f.items.length ≤ 100000 ∧ f.keys.length ≤ 100000 := fun f hf => by have := hok f hf; omega
    have hstep := round_eq t ht n hn rs (by omega) hb (iter h44_p1_st K)
    have hit : iter h44_p1_st (K + 1) (h44_p1_y t (n : Int) rs.reverse 0 0 []) = h44_p1_st (iter h44_p1_st K) (h44_p1_y t (n : Int) rs.reverse 0 0 []) := by rw [iter]
    have hd : 11 - d = rs.length := by omega
    unfold value
    rw [hd]
    cases hbg : beginS rs.length n t with
    | error e => rw [hbg] at hstep; simp only [Run]; rw [hit, hstep]
    | ok x =>
      rw [hbg] at hstep
      have hbo := beginS_ok hbg
      cases x with
      | inl p =>
        obtain ⟨v, r⟩ := p
        simp only at hbo hstep
        refine ⟨hbo.2, by omega, by omega, ?_⟩
        rw [hit, hstep]
        have : K + 1 - (n + 1 - n) = K := by omega
        rw [this]; rfl
      | inr p =>
        obtain ⟨f, r⟩ := p
        simp only at hbo hstep
        obtain ⟨hn2, hrl, hfi, hfk⟩ := hbo
        have hok' : okS (n + 1) (f :: rs) := fun g hg => by
          rcases List.mem_cons.1 hg with rfl | hg
          · exact ⟨by rw [hfi]; simp, by omega⟩
          · exact (hok.mono (by omega)) g hg
        have hr := items_run (value d) rs (fun f t n K h1 h2 h3 h4 => ih t n (f :: rs) K (by simp only [List.length_cons]; omega) h1 h2 h3 h4) 2001 f r (n + 1) K (by omega) hok' (by omega) (by omega) (by omega)
        simp only
        cases hi : itemsS (value d) 2001 f r (n + 1) with
        | error e => rw [hi] at hr; simp only [Run] at hr ⊢; rw [hit, hstep]; exact hr
        | ok q =>
          obtain ⟨v2, t2, n2⟩ := q
          rw [hi] at hr
          obtain ⟨q1, q2, q3, q4⟩ := hr
          refine ⟨by omega, by omega, q3, ?_⟩
          rw [hit, hstep, q4, show K + 1 - (n2 - n) = K - (n2 - (n + 1)) by omega]
/-- The parser's value. -/
theorem read_eq (t : List UInt8) (ht : t.length ≤ 70000) : h44_F (h44_y t 0 []) = some (match value 12 t 0 with
    | .error e => .inr (h44_z_y e)
    | .ok (v, t', n) => .inl (h44_o_y v.kind v.n v.s v.items v.keys t' (n : Int) [])) := by
  have h := value_run 12 t 0 [] (fuelOf h44_p1_sh (h44_p1_y t ((0 : Nat) : Int) ([] : List V).reverse 0 0 [])) rfl (by omega) (fun f hf => by simp at hf) ht (by rw [fuel_def]; omega)
  rw [h44_eq]
  unfold go
  cases hv : value 12 t 0 with
  | error e =>
    rw [hv] at h
    simp only [Run] at h
    have h' : iter h44_p1_st (fuelOf h44_p1_sh (h44_p1_y t 0 [] 0 0 [])) (h44_p1_y t 0 [] 0 0 []) = _ := h
    rw [h']; simp
  | ok p =>
    obtain ⟨v, t', n'⟩ := p
    rw [hv] at h
    obtain ⟨_, _, _, h⟩ := h
    have h' : iter h44_p1_st (fuelOf h44_p1_sh (h44_p1_y t 0 [] 0 0 [])) (h44_p1_y t 0 [] 0 0 []) = _ := h
    rw [h']; simp [cont, closeM]
end Go.Pe.Tryd
end
section
namespace Go.Pe.Tryd
open Go.Proofs Go.RowKit
set_option maxRecDepth 100000
set_option linter.unusedSimpArgs false
set_option linter.unusedVariables false
def v0 : V := ⟨0, 0, [], [], []⟩
def parseS (s : List UInt8) : V × Int := if 65536 < s.length then (v0, 2) else match value 12 s 0 with
  | .error e => (v0, e)
  | .ok (v, t', _) => if t' = [] then (v, 0) else (v0, 20)
theorem parse_eq (s : List UInt8) : f27_F (s, ()) = some (va (parseS s).1, ((parseS s).2, ())) := by
  unfold f27_F parseS
  by_cases h : 65536 < s.length
  · simp only [h, if_true]; rfl
  · simp only [h, if_false]
    rw [read_eq s (by omega)]
    cases value 12 s 0 with
    | error e => rfl
    | ok p =>
      obtain ⟨v, t', n⟩ := p
      simp only [Option.bind_some, h44_o_r0_0_y]
      by_cases ht : t' = []
      · simp only [ht, if_true]; rfl
      · simp only [ht, if_false]; rfl
end Go.Pe.Tryd
end
section
namespace Go.Pe.Tryd
open Go.Proofs Go.RowKit
set_option maxRecDepth 100000
set_option linter.unusedSimpArgs false
set_option linter.unusedVariables false
set_option linter.unusedSectionVars false
theorem kok_at {ks : List (List UInt8)} (h : kok ks = true) {i : Nat} (hi : i < ks.length) : tok (ks.getD i []) = true ∧ (0 < i → Op.bytesLess (ks.getD (i - 1) []) (ks.getD i []) = true) := by
  unfold kok at h
  rw [Bool.not_eq_true', List.any_eq_false] at h
  have := h i (List.mem_range.2 hi)
  unfold kbad at this
  simp only [Bool.or_eq_true, Bool.not_eq_true', Bool.and_eq_true, decide_eq_true_eq, not_or, not_and, Bool.not_eq_false] at this
  exact ⟨this.1, this.2⟩
theorem tok_iff {s : List UInt8} : tok s = true ↔ s.length ≤ 4000 ∧ ∀ b ∈ s, ¬ b.toNat < 32 := by
  unfold tok ctl
  simp only [Bool.and_eq_true, decide_eq_true_eq, Bool.not_eq_true', List.any_eq_false]
  constructor
  · rintro ⟨h1, h2⟩
    exact ⟨h1, fun b hb h => h2 b hb (by omega)⟩
  · rintro ⟨h1, h2⟩
    exact ⟨h1, fun b hb h => h2 b hb (by omega)⟩
theorem esc_cons (b : UInt8) (s : List UInt8) : esc (b :: s) = (if b = 34 ∨ b = 92 then [92, b] else [b]) ++ esc s := by simp [esc]
theorem ptxt_esc : ∀ (s acc r : List UInt8), (∀ b ∈ s, ¬ b.toNat < 32) → acc.length + s.length ≤ 4000 → ptxt (esc s ++ 34 :: r) acc = .ok (acc ++ s, r)
  | [], acc, r, _, _ => by
    show ptxt (34 :: r) acc = .ok (acc ++ [], r)
    unfold ptxt
    rw [if_neg (by decide), if_pos rfl, List.append_nil]
  | b :: s, acc, r, hb, hl => by
    have hb0 := hb b (by simp)
    simp only [List.length_cons] at hl
    have ih := ptxt_esc s (acc ++ [b]) r (fun x hx => hb x (by simp [hx])) (by simp; omega)
    have h4 : ¬ acc.length = 4000 := by omega
    rw [esc_cons]
    by_cases h : b = 34 ∨ b = 92
    · rw [if_pos h]
      simp only [List.cons_append, List.nil_append]
      unfold ptxt
      have e1 : ¬ ((92 : UInt8).toNat < 32) := by decide
      have e2 : ¬ ((92 : UInt8) = 34) := by decide
      rw [if_neg e1, if_neg e2, if_pos rfl]
      simp only
      rw [if_pos h, if_neg h4, ih]; simp
    · rw [if_neg h]
      simp only [List.cons_append, List.nil_append]
      unfold ptxt
      rw [if_neg hb0, if_neg (fun e => h (.inl e)), if_neg (fun e => h (.inr e)), if_neg h4, ih]; simp
theorem ptxt_tok {s : List UInt8} (h : tok s = true) (r : List UInt8) : ptxt (esc s ++ 34 :: r) [] = .ok (s, r) := by
  obtain ⟨h1, h2⟩ := tok_iff.1 h
  have := ptxt_esc s [] r h2 (by simpa using h1)
  rw [this]; simp
theorem tw_app {p : UInt8 → Bool} : ∀ {l r : List UInt8}, (∀ b ∈ l, p b = true) → (∀ b, r.head? = some b → p b = false) → (l ++ r).takeWhile p = l ∧ (l ++ r).dropWhile p = r
  | [], r, _, hr => by
    cases r with
    | nil => exact ⟨rfl, rfl⟩
    | cons b r => have := hr b rfl; simp [List.takeWhile_cons, List.dropWhile_cons, this]
  | b :: l, r, hl, hr => by
    have h := tw_app (p := p) (l := l) (r := r) (fun x hx => hl x (by simp [hx])) hr
    have hb := hl b (by simp)
    simp only [List.cons_append, List.takeWhile_cons, List.dropWhile_cons, hb, if_true, h.1, h.2, and_self]
theorem pval_dval (l : List UInt8) : pval l = dval l := by
  unfold pval dval
  congr 1
  funext a b
  omega
theorem dec_head : ∀ (k u : Nat), u < 10 ^ (k + 1) → 1 ≤ u → (Lib.decDigits u).head? ≠ some 48
  | 0, u, h, h1 => by
    have hu : u < 10 := by simpa using h
    rw [Lib.decDigits, dif_pos hu]
    simp only [List.head?_cons, ne_eq, Option.some.injEq]
    intro e
    have := dig_toNat hu
    rw [e] at this; simp at this; omega
  | k + 1, u, h, h1 => by
    rw [Lib.decDigits]
    split
    · rename_i hu
      simp only [List.head?_cons, ne_eq, Option.some.injEq]
      intro e
      have := dig_toNat hu
      rw [e] at this; simp at this; omega
    · have ih := dec_head k (u / 10) (by rw [Nat.pow_succ] at h; omega) (by omega)
      have hne := dec_ne (u / 10)
      cases hd : Lib.decDigits (u / 10) with
      | nil => exact absurd hd hne
      | cons c s => rw [hd] at ih; simpa using ih
theorem digitB_dec {u : Nat} (hu : u ≤ 1099511627776) : ∀ b ∈ Lib.decDigits u, digitB b = true := fun b hb => by
  have := dec_dig 12 u (by rw [pow13]; omega) b hb
  exact digitB_iff.2 this
theorem numS_dec (neg : Bool) (u : Nat) (r : List UInt8) (hu : u ≤ 1099511627776) (hneg : neg = true → 1 ≤ u) (hr : ∀ b, r.head? = some b → digitB b = false) : numS neg (Lib.decDigits u ++ r) = .ok (if neg = true then -(u : Int) else (u : Int), r) := by
  obtain ⟨h1, h2⟩ := tw_app (p := digitB) (l := Lib.decDigits u) (r := r) (digitB_dec hu) hr
  have hp : pval (Lib.decDigits u) = u := by rw [pval_dval]; exact dec_val 12 u (by rw [pow13]; omega)
  have hlen : (Lib.decDigits u).length ≤ 13 := dec_len 12 u (by rw [pow13]; omega)
  have hb : badNum neg (Lib.decDigits u) = false := by
    have h0 : (Lib.decDigits u).length ≠ 0 := fun e => dec_ne u (List.eq_nil_of_length_eq_zero e)
    unfold badNum
    rcases Nat.eq_zero_or_pos u with h | h
    · subst h
      have : Lib.decDigits 0 = [48] := by rw [Lib.decDigits]; rfl
      rw [this]
      cases neg with
      | false => rfl
      | true => exact absurd (hneg rfl) (by omega)
    · have hh := dec_head 12 u (by rw [pow13]; omega) h
      have e1 : ((Lib.decDigits u).length == 0) = false := by simpa using h0
      have e2 : ((Lib.decDigits u).head? == some 48) = false := by rw [beq_eq_false_iff_ne]; exact hh
      have e3 : (Lib.decDigits u == [48]) = false := by
        rw [beq_eq_false_iff_ne]; intro e; rw [e] at hh; exact hh rfl
      rw [e1, e2, e3]; simp
  unfold numS
  rw [h1, h2, hb, hp]
  have e : ¬ (13 < (Lib.decDigits u).length ∨ 1099511627776 < u) := by omega
  rw [if_neg (by simp), if_neg e]
theorem num_itoa {v : Int} (h1 : -1099511627776 ≤ v) (h2 : v ≤ 1099511627776) (r : List UInt8) (hr : ∀ b, r.head? = some b → digitB b = false) : num (Lib.itoa v ++ r) = .ok (v, r) := by
  unfold Lib.itoa
  by_cases h : v < 0
  · rw [if_pos h, List.cons_append]
    unfold num
    dsimp only
    rw [if_pos rfl, numS_dec true v.natAbs r (by omega) (fun _ => by omega) hr, if_pos rfl]
    congr 2; omega
  · rw [if_neg h]
    have hns := numS_dec false v.toNat r (by omega) (fun e => by cases e) hr
    have hd := digitB_dec (u := v.toNat) (by omega)
    have hne := dec_ne v.toNat
    cases hc : Lib.decDigits v.toNat with
    | nil => exact absurd hc hne
    | cons c s =>
      rw [hc] at hd hns
      have := digitB_iff.1 (hd c (by simp))
      simp only [List.cons_append] at hns ⊢
      unfold num
      dsimp only
      rw [if_neg (fun e => by rw [e] at this; simp at this), hns]
      simp only [Bool.false_eq_true, if_false]
      congr 2; omega
theorem keyS_quo {ks : List (List UInt8)} {s r : List UInt8} (h : tok s = true) (hl : late ks s = false) : keyS ks (quo s ++ 58 :: r) = .ok (ks ++ [s], r) := by
  unfold quo
  simp only [List.cons_append, List.append_assoc, List.nil_append]
  unfold keyS
  dsimp only
  rw [if_pos rfl, ptxt_tok h]
  simp only [hl, Bool.false_eq_true, if_false, if_true]
theorem late_take {keys : List (List UInt8)} {i : Nat} (h : kok keys = true) (hi : i < keys.length) : late (keys.take i) (keys.getD i []) = false := by
  have hk := (kok_at h hi).2
  unfold late
  rcases Nat.eq_zero_or_pos i with h0 | h0
  · subst h0; rfl
  · have : (keys.take i).getLast? = some (keys.getD (i - 1) []) := by
      rw [List.getLast?_eq_getElem?, List.length_take, List.getElem?_take]
      have e : min i keys.length - 1 = i - 1 := by omega
      rw [e, if_pos (by omega), List.getElem?_eq_getElem (by omega), getD_lt (by omega)]
    rw [this]
    simp only [hk h0, Bool.not_true]
theorem begin_num {depth n : Nat} (hd : depth ≠ 12) (hn : n ≠ 2000) {v : Int} (h1 : -1099511627776 ≤ v) (h2 : v ≤ 1099511627776) (r : List UInt8) (hr : ∀ b, r.head? = some b → digitB b = false) : beginS depth n (Lib.itoa v ++ r) = .ok (.inl (⟨1, v, [], [], []⟩, r)) := by
  have hnum := num_itoa h1 h2 r hr
  unfold beginS
  rw [if_neg hd, if_neg hn]
  cases hc : Lib.itoa v with
  | nil => exact absurd hc (itoa_ne v)
  | cons c s =>
    have hb := itoa_num h1 h2 c (by rw [hc]; simp)
    have hb' : (c == 45 || digitB c) = true := by
      unfold isnum at hb
      simp only [Bool.or_eq_true, Bool.and_eq_true, decide_eq_true_eq] at hb
      rw [Bool.or_eq_true, beq_iff_eq, digitB_iff]
      rcases hb with h | h
      · left; rw [← UInt8.toNat_inj]; simpa using h
      · right; exact h
    rw [hc] at hnum
    simp only [List.cons_append] at hnum ⊢
    rw [if_pos hb', hnum]
theorem begin_str {depth n : Nat} (hd : depth ≠ 12) (hn : n ≠ 2000) {s : List UInt8} (h : tok s = true) (r : List UInt8) : beginS depth n (quo s ++ r) = .ok (.inl (⟨2, 0, s, [], []⟩, r)) := by
  unfold beginS quo
  rw [if_neg hd, if_neg hn]
  simp only [List.cons_append, List.append_assoc, List.nil_append]
  have e : ((34 : UInt8) == 45 || digitB 34) = false := by decide
  rw [e, ptxt_tok h]
  simp
theorem begin_open {depth n : Nat} (hd : depth ≠ 12) (hn : n ≠ 2000) (kd : Int) (hk : kd = 3 ∨ kd = 4) (c : UInt8) (hc : c = if kd = 4 then 123 else 91) (b : UInt8) (x : List UInt8) :
    beginS depth n (c :: b :: x) = if b = clo kd then .ok (.inl (⟨kd, 0, [], [], []⟩, x)) else openS kd (b :: x) := by
  unfold beginS
  rw [if_neg hd, if_neg hn]
  rcases hk with rfl | rfl
  · have : c = 91 := by rw [hc]; rfl
    subst this
    have e : ((91 : UInt8) == 45 || digitB 91) = false := by decide
    have e2 : (91 : UInt8) ≠ 123 := by decide
    have e3 : (91 : UInt8) ≠ 34 := by decide
    simp only [e, Bool.false_eq_true, if_false, e2, e3, true_or, if_true]
  · have : c = 123 := by rw [hc]; rfl
    subst this
    have e : ((123 : UInt8) == 45 || digitB 123) = false := by decide
    have e3 : (123 : UInt8) ≠ 34 := by decide
    simp only [e, Bool.false_eq_true, if_false, e3, or_true, if_true]
def Reads (d : Nat) (v : V) : Prop := ∀ n r, n + cnt v ≤ 2000 → (v.kind = 1 → Sep r) → value d (txt v ++ r) n = .ok (v, r, n + cnt v)
theorem take_next {α : Type} {l : List α} {d : α} {i : Nat} (h : i < l.length) : l.take i ++ [l.getD i d] = l.take (i + 1) := by
  rw [List.take_succ_eq_append_getElem h, getD_lt h]
theorem clo_or (kd : Int) : clo kd = 93 ∨ clo kd = 125 := by unfold clo; split <;> simp
theorem items_read (d : Nat) (kd : Int) (hkd : kd = 3 ∨ kd = 4) (keys : List (List UInt8)) (r : List UInt8) : ∀ (l : List V) (v : V) (done : List V) (n k : Nat),
    (∀ w, w = v ∨ w ∈ l → each w = true ∧ Reads d w) → n + cnt v + cntL l ≤ 2000 → l.length + 1 ≤ k →
    (kd = 3 → keys = []) → (kd = 4 → keys.length = done.length + 1 + l.length ∧ kok keys = true) →
    itemsS (value d) k ⟨kd, 0, [], done, keys.take (done.length + 1)⟩ (txt v ++ (txtL (kd == 4) (done.length + 1) keys l ++ clo kd :: r)) n = .ok (⟨kd, 0, [], done ++ v :: l, keys⟩, r, n + cnt v + cntL l)
  | [], v, done, n, k, hv, hn, hk, h3, h4 => by
    obtain ⟨k, rfl⟩ : ∃ j, k = j + 1 := ⟨k - 1, by omega⟩
    simp only [cntL] at hn
    have h := (hv v (.inl rfl)).2 n (txtL (kd == 4) (done.length + 1) keys [] ++ clo kd :: r) (by omega) (fun _ => sep_tail _ _ _ _ _ _ (clo_or kd) (fun w hw => by simp at hw) (by omega))
    unfold itemsS
    rw [h]
    simp only [txtL, List.nil_append]
    rw [if_neg (clo_ne kd)]
    have ht : keys.take (done.length + 1) = keys := by
      rcases hkd with h | h
      · rw [h3 h]; rfl
      · have := (h4 h).1; simp only [List.length_nil] at this; exact List.take_of_length_le (by omega)
    rw [ht]
    simp only [V.kind, if_true, addV, V.n, V.s, V.items, V.keys, cntL, Nat.add_zero]
  | w :: l, v, done, n, k, hv, hn, hk, h3, h4 => by
    obtain ⟨k, rfl⟩ : ∃ j, k = j + 1 := ⟨k - 1, by omega⟩
    simp only [cntL] at hn
    simp only [List.length_cons] at hk h4
    have h := (hv v (.inl rfl)).2 n (txtL (kd == 4) (done.length + 1) keys (w :: l) ++ clo kd :: r) (by omega) (fun _ => sep_tail _ _ _ _ _ _ (clo_or kd) (fun x hx => (hv x (.inr hx)).1) (by omega))
    unfold itemsS
    rw [h]
    have ih := items_read d kd hkd keys r l w (done ++ [v]) (n + cnt v) k (fun x hx => hv x (by rcases hx with rfl | hx <;> simp [*])) (by omega) (by omega) h3 (fun e => by have := h4 e; simp only [List.length_append, List.length_singleton]; exact ⟨by omega, this.2⟩)
    have e1 : (done ++ [v]).length + 1 = done.length + 1 + 1 := by simp
    have e2 : done ++ [v] ++ w :: l = done ++ v :: w :: l := by simp
    rw [e1, e2] at ih
    have e0 : decide (0 < done.length + 1) = true := by simp
    have ecnt : n + cnt v + cntL (w :: l) = n + cnt v + cnt w + cntL l := by simp only [cntL]; omega
    rw [ecnt]
    simp only [txtL, e0, cond_true, List.cons_append, List.nil_append, List.append_assoc, if_true, V.kind]
    rcases hkd with rfl | rfl
    · have q : ((3 : Int) == 4) = false := rfl
      have q3 : ¬ ((3 : Int) = 4) := by decide
      simp only [q, cond_false, List.nil_append] at ih ⊢
      rw [if_neg q3]
      have hk0 := h3 rfl
      subst hk0
      simp only [List.take_nil] at ih ⊢
      exact ih
    · have q : ((4 : Int) == 4) = true := rfl
      obtain ⟨hlen, hok⟩ := h4 rfl
      have hi : done.length + 1 < keys.length := by omega
      simp only [q, cond_true, List.append_assoc] at ih ⊢
      rw [if_pos True.intro]
      have hkey := keyS_quo (r := txt w ++ (txtL true (done.length + 1 + 1) keys l ++ clo 4 :: r)) (kok_at hok hi).1 (late_take hok hi)
      rw [take_next hi] at hkey
      simp only [V.keys, List.cons_append, List.nil_append]
      rw [hkey]
      simp only [withK, addV, V.kind, V.n, V.s, V.items]
      exact ih
theorem sep_digit {r : List UInt8} (h : Sep r) : ∀ b, r.head? = some b → digitB b = false := fun b hb => by
  rcases h b hb with rfl | rfl | rfl <;> decide
theorem value_read : ∀ (d : Nat), d ≤ 12 → ∀ (v : V), each v = true → dep v ≤ d → Reads d v := by
  intro d
  induction d with
  | zero => intro _ v _ h; have := dep_pos v; omega
  | succ d ih =>
    intro hd v he hdv n r hn hr
    obtain ⟨hf, hit⟩ := each_form he
    have hd11 : 11 - d ≠ 12 := by omega
    have hn20 : n ≠ 2000 := by have := cnt_pos v; omega
    cases hf with
    | num x h1 h2 =>
      rw [txt_1]
      unfold value
      rw [begin_num hd11 hn20 h1 h2 r (sep_digit (hr rfl))]
      simp [cnt, cntL]
    | str s =>
      rw [txt_2]
      have hm := (each_items he).1
      have htok : tok s = true := by
        unfold mayP at hm
        simpa [noIt] using hm
      unfold value
      rw [begin_str hd11 hn20 htok r]
      simp [cnt, cntL]
    | lst items =>
      rw [txt_3]
      unfold value
      simp only [dep, cnt] at hdv hn
      cases items with
      | nil =>
        simp only [txtL, List.nil_append, List.cons_append]
        rw [begin_open hd11 hn20 3 (.inl rfl) 91 rfl 93 r, if_pos (show (93 : UInt8) = clo 3 from rfl)]
        simp [cnt, cntL]
      | cons w l =>
        simp only [V.items] at hit
        have hw := hit w (by simp)
        obtain ⟨b, t, e, hb1, _, _⟩ := txt_head (each_form hw).1
        have hrd := items_read d 3 (.inl rfl) [] r l w [] (n + 1) 2001 (fun x hx => by
          have hxm : x ∈ w :: l := by rcases hx with rfl | hx <;> simp [*]
          refine ⟨hit x hxm, ih (by omega) x (hit x hxm) ?_⟩
          have := dep_mem hxm; omega) (by simp only [cntL] at hn; omega) (by have := cntL_len (w :: l); simp only [List.length_cons] at this; omega) (fun _ => rfl) (fun h => by cases h)
        have q : ((3 : Int) == 4) = false := rfl
        simp only [q, List.length_nil, List.nil_append, List.take_nil] at hrd
        have etx : txtL false 0 [] (w :: l) = txt w ++ txtL false (0 + 1) [] l := by simp [txtL]
        rw [etx]
        simp only [List.cons_append, List.append_assoc, List.nil_append]
        have hx : txt w ++ (txtL false (0 + 1) [] l ++ 93 :: r) = b :: (t ++ (txtL false (0 + 1) [] l ++ 93 :: r)) := by rw [e]; rfl
        have hrd' : itemsS (value d) 2001 ⟨3, 0, [], [], []⟩ (txt w ++ (txtL false (0 + 1) [] l ++ 93 :: r)) (n + 1) = _ := hrd
        rw [hx] at hrd' ⊢
        rw [begin_open hd11 hn20 3 (.inl rfl) 91 rfl b _, if_neg (by show ¬ b = 93; exact hb1)]
        unfold openS
        rw [if_neg (by decide)]
        simp only
        rw [hrd']
        simp only [cnt, cntL]
        congr 3; omega
    | map items keys hkl =>
      rw [txt_4]
      unfold value
      simp only [dep, cnt] at hdv hn
      have hok := (mayP_4 (each_items he).1).2
      cases items with
      | nil =>
        have : keys = [] := List.eq_nil_of_length_eq_zero hkl
        subst this
        simp only [txtL, List.nil_append, List.cons_append]
        rw [begin_open hd11 hn20 4 (.inr rfl) 123 rfl 125 r, if_pos (show (125 : UInt8) = clo 4 from rfl)]
        simp [cnt, cntL]
      | cons w l =>
        simp only [V.items] at hit
        simp only [List.length_cons] at hkl
        have hrd := items_read d 4 (.inr rfl) keys r l w [] (n + 1) 2001 (fun x hx => by
          have hxm : x ∈ w :: l := by rcases hx with rfl | hx <;> simp [*]
          refine ⟨hit x hxm, ih (by omega) x (hit x hxm) ?_⟩
          have := dep_mem hxm; omega) (by simp only [cntL] at hn; omega) (by have := cntL_len (w :: l); simp only [List.length_cons] at this; omega) (fun h => by cases h) (fun _ => ⟨by simp; omega, hok⟩)
        have q : ((4 : Int) == 4) = true := rfl
        simp only [q, List.length_nil, List.nil_append] at hrd
        have etx : txtL true 0 keys (w :: l) = quo (keys.getD 0 []) ++ (58 :: (txt w ++ txtL true (0 + 1) keys l)) := by simp [txtL]
        rw [etx]
        simp only [List.cons_append, List.append_assoc, List.nil_append]
        have hi : 0 < keys.length := by omega
        have hkey := keyS_quo (r := txt w ++ (txtL true (0 + 1) keys l ++ 125 :: r)) (kok_at hok hi).1 (late_take hok hi)
        rw [take_next hi] at hkey
        simp only [List.take_zero] at hkey
        have hq : quo (keys.getD 0 []) ++ 58 :: (txt w ++ (txtL true (0 + 1) keys l ++ 125 :: r)) = 34 :: (esc (keys.getD 0 []) ++ (34 :: 58 :: (txt w ++ (txtL true (0 + 1) keys l ++ 125 :: r)))) := by
          unfold quo; simp
        rw [hq] at hkey ⊢
        rw [begin_open hd11 hn20 4 (.inr rfl) 123 rfl 34 _, if_neg (by decide)]
        unfold openS
        rw [if_pos rfl, hkey]
        simp only
        have hrd' : itemsS (value d) 2001 ⟨4, 0, [], [], keys.take (0 + 1)⟩ (txt w ++ (txtL true (0 + 1) keys l ++ 125 :: r)) (n + 1) = _ := hrd
        rw [hrd']
        simp only [cnt, cntL]
        congr 3; omega
/-- What is written is read. -/
theorem parse_txt {v : V} (h : right v = true) (hl : (txt v).length ≤ 65536) : parseS (txt v) = (v, 0) := by
  unfold right at h
  simp only [Bool.and_eq_true, decide_eq_true_eq] at h
  have hv := value_read 12 (by omega) v h.2.2 h.1 0 [] (by omega) (fun _ b hb => by simp at hb)
  rw [List.append_nil] at hv
  unfold parseS
  rw [if_neg (by omega), hv]
  simp
end Go.Pe.Tryd
end
section
namespace Go.Pe.Tryd
open Go.Proofs Go.RowKit
set_option maxRecDepth 100000
set_option linter.unusedSimpArgs false
set_option linter.unusedVariables false
set_option linter.unusedSectionVars false
theorem itemsS_eq (G : List UInt8 → Nat → Except Int (V × List UInt8 × Nat)) (k : Nat) (kd : Int) (done : List V) (ks : List (List UInt8)) (t : List UInt8) (n : Nat) : itemsS G (k + 1) ⟨kd, 0, [], done, ks⟩ t n = match G t n with
    | .error e => .error e
    | .ok (v, t', n') => match t' with
      | [] => .error 3
      | c :: r => if c = 44 then (if kd = 4 then (match keyS ks r with | .error e => .error e | .ok (ks', r) => itemsS G k ⟨kd, 0, [], done ++ [v], ks'⟩ r n') else itemsS G k ⟨kd, 0, [], done ++ [v], ks⟩ r n')
        else if c = clo kd then .ok (⟨kd, 0, [], done ++ [v], ks⟩, r, n') else .error 20 := rfl
end Go.Pe.Tryd
end
section
set_option linter.unusedSectionVars false
set_option linter.unusedVariables false
set_option linter.unusedSimpArgs false
namespace Go.Pe.Tryd
open Go.Proofs Go.RowKit Go.Lib Go.Sort
noncomputable def indexByteF (y : argsDen [.one .str, .one (.int .u8)]) : Option (argsDen [.one (.int .i64)]) := some (Lib.indexByte y.1 y.2.1.toNat.toUInt8, ())
theorem indexByte_ok : Sound Tryd.prog 29 (pfun indexByteF) := by
  refine ⟨⟨_, Tryd.func29, by kernel_rfl, by kernel_rfl⟩, ?_⟩
  intro S args K r hG A w vs hA hgi hcl hrep
  simp only [pfun, Option.bind_eq_some_iff] at hG
  obtain ⟨⟨s, c, _⟩, hy, z, hz, hK⟩ := hG
  refine ⟨_, hK, encRes_closed _ z, ?_⟩
  have hargs := decArgs_rep hy hrep
  simp only [encArgs, KD.enc] at hargs
  obtain ⟨v1, _, rfl, r1, hargs⟩ := hargs.cons'
  obtain ⟨v2, _, rfl, r2, hargs⟩ := hargs.cons'
  obtain rfl := hargs.nil
  simp only [RepAV, Rep, List.cons.injEq, and_true] at r1 r2
  subst r1; subst r2
  unfold indexByteF at hz
  cases hz
  refine (Tryd.strings_IndexByte ⟨s.toArray⟩ c w).mono fun e w' ⟨he, hw⟩ => ⟨_, he, by rw [hw]; exact Below.refl _ w, ?_⟩
  simp [encRes, encArgs, resVal, KD.enc, RepAV, Rep]
end Go.Pe.Tryd
end
section
namespace Go.Pe.Tryd
open Go.Proofs Go.RowKit
set_option maxRecDepth 100000
noncomputable section
@[reducible] noncomputable def f26_c : Code := codeOf Tryd.f26
@[reducible] noncomputable def f26_E : Env := envOfT Tryd.prog 25 [rowOf false f27_ok] [] [] 62
theorem f26_E_okE : EnvOk Tryd.prog f26_E := envOfT_ok _ _ _ _ top_ok mixed
@[reducible] noncomputable def f26_ps : List KD := []
@[reducible] noncomputable def f26_rs : List KD := [.one .bool]
@[reducible] noncomputable def f26_a : Ann Tryd.prog 0 true f26_c := (.leaf _)
noncomputable def f26_F0 (y : argsDen f26_ps) : Option (argsDen f26_rs) := evFunA f26_E Tryd.f26 f26_a (encArgs f26_ps y) (decRes f26_rs)
noncomputable def f26_F : argsDen f26_ps → Option (argsDen f26_rs) := Classical.choose (⟨f26_F0, rfl⟩ : ∃ f : argsDen f26_ps → Option (argsDen f26_rs), f = f26_F0)
theorem f26_Fe : f26_F = f26_F0 := Classical.choose_spec (⟨f26_F0, rfl⟩ : ∃ f : argsDen f26_ps → Option (argsDen f26_rs), f = f26_F0)
theorem f26_ok0 : Sound Tryd.prog 26 (pfun f26_F0) := sound_of (c := f26_c) (f26_E_okE) (by kernel_rfl) (by kernel_rfl) (by kernel_rfl) f26_a (fun _ => rfl)
theorem f26_ok : Sound Tryd.prog 26 (pfun f26_F) := by rw [f26_Fe]; exact f26_ok0
@[reducible] noncomputable def f7_c : Code := codeOf Tryd.f7
@[reducible] noncomputable def f7_E : Env := envOfT Tryd.prog 25 [rowOf true f26_ok, rowOf false f23_ok, rowOf false f22_ok, rowOf false f28_ok, rowOf true f14_ok, rowOf false f27_ok, rowOf true f24_ok, rowOf true indexByte_ok] [] [] 62
theorem f7_E_okE : EnvOk Tryd.prog f7_E := envOfT_ok _ _ _ _ top_ok mixed
@[reducible] noncomputable def f7_p0_sh : Shape := ⟨[.dead, .dead, .dead, .dead, .dead, .dead, .ptr 0 0, .hole .str, .hole (.int .i64), .ptr 1 0, .hole (.int .i64), .dead, .dead, .dead, .dead, .dead, .dead, .dead, .dead, .dead, .dead, .dead, .dead, .dead, .dead, .dead, .dead, .dead, .dead, .dead, .dead, .dead, .dead, .dead, .dead, .dead, .dead, .dead, .dead, .dead, .dead, .dead, .dead, .dead, .dead, .dead, .dead, .dead, .dead, .dead, .dead, .dead, .dead, .dead, .dead, .dead, .dead, .dead, .dead, .dead, .dead, .dead, .dead, .dead, .dead, .dead, .dead, .dead, .dead, .dead, .dead, .dead, .dead, .dead, .dead, .dead, .dead, .dead, .dead, .dead, .dead, .dead, .dead, .dead, .dead, .dead, .dead, .dead, .dead, .dead, .dead, .dead, .dead, .dead, .dead, .dead, .dead, .dead, .dead, .dead, .dead, .dead, .dead, .dead, .dead, .dead], [some [.hole (.int .i64), .hole (.int .i64), .hole .str, .hole (.list .value), .hole (.list .str)], some [.hole (.int .i64), .hole (.int .i64), .hole .str, .hole (.list .value), .hole (.list .str)]], []⟩
@[reducible] noncomputable def f7_p0_o0 : Shape := ⟨[.dead, .dead, .dead, .dead, .dead, .dead, .dead, .hole .str, .dead, .dead, .dead, .dead, .dead, .dead, .dead, .dead, .dead, .dead, .dead, .dead, .dead, .dead, .dead, .dead, .dead, .dead, .dead, .dead, .dead, .dead, .dead, .dead, .dead, .dead, .dead, .dead, .dead, .dead, .dead, .dead, .dead, .dead, .dead, .dead, .dead, .dead, .dead, .dead, .dead, .dead, .dead, .dead, .dead, .dead, .dead, .dead, .dead, .dead, .dead, .dead, .dead, .dead, .dead, .dead, .dead, .dead, .dead, .hole .bool, .dead, .dead, .dead, .dead, .dead, .dead, .dead, .dead, .dead, .dead, .dead, .dead, .dead, .dead, .dead, .dead, .dead, .dead, .dead, .dead, .dead, .dead, .dead, .dead, .dead, .dead, .dead, .dead, .dead, .dead, .dead, .dead, .dead, .dead, .dead, .dead, .dead, .dead], [], []⟩
@[reducible] noncomputable def f7_p0_outs : List (Ex × Shape) := [(.normal, f7_p0_o0)]
@[reducible] noncomputable def f7_p0_a : Ann Tryd.prog 0 true (f7_c.cr.cr.cr.cr.cr.cr.cl.cl) := (.leaf _)
noncomputable def f7_p0_F (y : f7_p0_sh.den) : Option (OutDen f7_p0_outs) := evA f7_E f7_p0_a (fill f7_p0_sh y) (packOut f7_p0_outs)
theorem f7_p0_ok : PieceSound Tryd.prog 0 true (f7_c.cr.cr.cr.cr.cr.cr.cl.cl) f7_p0_sh f7_p0_outs f7_p0_F := piece_of (f7_E_okE) f7_p0_a rfl rfl fun _ => rfl
@[reducible] noncomputable def f7_p1_sh : Shape := ⟨[.hole (.int .i64), .hole .str, .dead, .dead, .dead, .dead, .dead, .dead, .dead, .dead, .dead, .dead, .dead, .dead, .dead, .dead, .dead, .dead, .dead, .dead, .dead, .dead, .dead, .dead, .dead, .dead, .hole (.int .i64), .hole (.int .i64), .dead, .dead, .dead, .dead, .dead, .dead, .dead, .dead, .dead, .dead, .dead, .dead, .dead, .dead, .dead, .dead, .dead, .dead, .dead, .dead, .dead, .dead, .dead, .dead, .dead, .dead, .dead, .dead, .dead, .dead, .dead, .dead, .dead, .dead, .dead, .dead, .dead, .dead, .dead, .dead, .dead, .dead, .dead, .dead, .dead, .dead, .dead, .dead, .dead, .dead, .dead, .dead, .dead, .dead, .dead, .dead, .dead, .dead, .dead, .dead, .dead, .dead, .dead, .dead, .dead, .dead, .dead, .dead, .dead, .dead, .dead, .dead, .dead, .dead, .dead, .dead, .dead, .dead], [], []⟩
@[reducible] noncomputable def f7_p1_o0 : Shape := ⟨[.hole (.int .i64), .hole .str, .dead, .dead, .dead, .dead, .dead, .dead, .dead, .dead, .dead, .dead, .dead, .dead, .dead, .dead, .dead, .dead, .dead, .dead, .dead, .dead, .dead, .dead, .dead, .dead, .dead, .dead, .dead, .dead, .dead, .dead, .dead, .dead, .dead, .dead, .dead, .dead, .dead, .dead, .dead, .dead, .dead, .dead, .dead, .dead, .dead, .dead, .dead, .dead, .dead, .dead, .dead, .dead, .dead, .dead, .dead, .dead, .dead, .dead, .dead, .dead, .dead, .dead, .dead, .dead, .dead, .dead, .dead, .dead, .dead, .dead, .dead, .dead, .dead, .dead, .dead, .dead, .dead, .dead, .dead, .dead, .dead, .dead, .dead, .dead, .dead, .dead, .dead, .dead, .dead, .dead, .dead, .dead, .dead, .dead, .dead, .dead, .dead, .dead, .dead, .dead, .dead, .dead, .dead, .dead], [], []⟩
@[reducible] noncomputable def f7_p1_o1 : Shape := ⟨[.dead, .dead, .dead, .dead, .hole .bool, .dead, .dead, .dead, .dead, .dead, .dead, .dead, .dead, .dead, .dead, .dead, .dead, .dead, .dead, .dead, .dead, .dead, .dead, .dead, .dead, .dead, .dead, .dead, .dead, .dead, .dead, .dead, .dead, .dead, .dead, .dead, .dead, .dead, .dead, .dead, .dead, .dead, .dead, .dead, .dead, .dead, .dead, .dead, .dead, .dead, .dead, .dead, .dead, .dead, .dead, .dead, .dead, .dead, .dead, .dead, .dead, .dead, .dead, .dead, .dead, .dead, .dead, .dead, .dead, .dead, .dead, .dead, .dead, .dead, .dead, .dead, .dead, .dead, .dead, .dead, .dead, .dead, .dead, .dead, .dead, .dead, .dead, .dead, .dead, .dead, .dead, .dead, .dead, .dead, .dead, .dead, .dead, .dead, .dead, .dead, .dead, .dead, .dead, .dead, .dead, .dead], [], []⟩
@[reducible] noncomputable def f7_p1_outs : List (Ex × Shape) := [(.exit 0, f7_p1_o0), (.ret, f7_p1_o1)]
@[reducible] noncomputable def f7_p1_a : Ann Tryd.prog 0 true (f7_c.cr.cr.cl.cr.cb.cb) := (.leaf _)
noncomputable def f7_p1_st (rec : f7_p1_sh.den → Option (OutDen f7_p1_outs)) (y : f7_p1_sh.den) : Option (OutDen f7_p1_outs) := evA f7_E f7_p1_a (fill f7_p1_sh y) fun ex st => match ex with | .normal => (abs f7_p1_sh st).bind rec | e => packOut f7_p1_outs e st
theorem f7_p1_ok : PieceSound Tryd.prog 0 true (.loop (f7_c.cr.cr.cl.cr.cb.cb)) f7_p1_sh f7_p1_outs (go f7_p1_st) := go_of (f7_E_okE) f7_p1_a rfl rfl fun _ _ => rfl
@[reducible] noncomputable def f7_ps : List KD := [.one (.int .i64), .one .str]
@[reducible] noncomputable def f7_rs : List KD := [.one .bool]
@[reducible] noncomputable def f7_a : Ann Tryd.prog 0 true f7_c := (.seq (.leaf _) (.seq (.leaf _) (.seq (.seq (.leaf _) (.block (.piece _ _ _ f7_p1_ok))) (.seq (.leaf _) (.seq (.leaf _) (.seq (.leaf _) (.seq (.seq (.piece _ _ _ f7_p0_ok) (.leaf _)) (.leaf _))))))))
noncomputable def f7_F (y : argsDen f7_ps) : Option (argsDen f7_rs) := evFunA f7_E Tryd.f7 f7_a (encArgs f7_ps y) (decRes f7_rs)
theorem f7_ok : Sound Tryd.prog 7 (pfun f7_F) := sound_of (c := f7_c) (f7_E_okE) (by kernel_rfl) (by kernel_rfl) (by kernel_rfl) f7_a (fun _ => rfl)
end
end Go.Pe.Tryd
end
section
namespace Go.Pe.Tryd
open Go.Proofs Go.RowKit
set_option maxRecDepth 100000
set_option linter.unusedVariables false
theorem f26_eq : f26_F () = ((f27_F (([91, 49, 44, 34, 97, 34, 93] : List UInt8), ())).bind fun r1 => bif (r1.2.1 == (0 : Int)) then (bif (r1.1.1 == (3 : Int)) then (bif ((r1.1.2.2.2.1.length : Int) == (2 : Int)) then ((nth r1.1.2.2.2.1 (1 : Int)).bind fun y2 => some ((y2.s == ([97] : List UInt8)), ())) else (some (false, ()))) else (some (false, ()))) else (some (false, ()))) := by rw [f26_Fe]; kernel_rfl
def f7_p0_y (x7 : List UInt8) (x8 : Int) (x10 : Int) (r0_0 : Int) (r0_1 : Int) (r0_2 : List UInt8) (r0_3 : List V) (r0_4 : List (List UInt8)) (r1_0 : Int) (r1_1 : Int) (r1_2 : List UInt8) (r1_3 : List V) (r1_4 : List (List UInt8)) : f7_p0_sh.den := (((), ((), ((), ((), ((), ((), ((), (x7, (x8, ((), (x10, ((), ((), ((), ((), ((), ((), ((), ((), ((), ((), ((), ((), ((), ((), ((), ((), ((), ((), ((), ((), ((), ((), ((), ((), ((), ((), ((), ((), ((), ((), ((), ((), ((), ((), ((), ((), ((), ((), ((), ((), ((), ((), ((), ((), ((), ((), ((), ((), ((), ((), ((), ((), ((), ((), ((), ((), ((), ((), ((), ((), ((), ((), ((), ((), ((), ((), ((), ((), ((), ((), ((), ((), ((), ((), ((), ((), ((), ((), ((), ((), ((), ((), ((), ((), ((), ((), ((), ((), ((), ((), ((), ((), ((), ((), ((), ())))))))))))))))))))))))))))))))))))))))))))))))))))))))))))))))))))))))))))))))))))))))))))))))))))))))))), ((r0_0, (r0_1, (r0_2, (r0_3, (r0_4, ()))))), ((r1_0, (r1_1, (r1_2, (r1_3, (r1_4, ()))))), ())), ())
def f7_p0_o0_y (x7 : List UInt8) (x67 : Bool) : f7_p0_o0.den := (((), ((), ((), ((), ((), ((), ((), (x7, ((), ((), ((), ((), ((), ((), ((), ((), ((), ((), ((), ((), ((), ((), ((), ((), ((), ((), ((), ((), ((), ((), ((), ((), ((), ((), ((), ((), ((), ((), ((), ((), ((), ((), ((), ((), ((), ((), ((), ((), ((), ((), ((), ((), ((), ((), ((), ((), ((), ((), ((), ((), ((), ((), ((), ((), ((), ((), ((), (x67, ((), ((), ((), ((), ((), ((), ((), ((), ((), ((), ((), ((), ((), ((), ((), ((), ((), ((), ((), ((), ((), ((), ((), ((), ((), ((), ((), ((), ((), ((), ((), ((), ((), ((), ((), ((), ((), ((), ())))))))))))))))))))))))))))))))))))))))))))))))))))))))))))))))))))))))))))))))))))))))))))))))))))))))))), (), ())
def f7_p0_o0_x7 (z : f7_p0_o0.den) : List UInt8 := z.1.2.2.2.2.2.2.2.1
def f7_p0_o0_x67 (z : f7_p0_o0.den) : Bool := z.1.2.2.2.2.2.2.2.2.2.2.2.2.2.2.2.2.2.2.2.2.2.2.2.2.2.2.2.2.2.2.2.2.2.2.2.2.2.2.2.2.2.2.2.2.2.2.2.2.2.2.2.2.2.2.2.2.2.2.2.2.2.2.2.2.2.2.2.1
@[simp] theorem f7_p0_o0_x7_y (x7 : List UInt8) (x67 : Bool) : f7_p0_o0_x7 (f7_p0_o0_y x7 x67) = x7 := id rfl
@[simp] theorem f7_p0_o0_x67_y (x7 : List UInt8) (x67 : Bool) : f7_p0_o0_x67 (f7_p0_o0_y x7 x67) = x67 := id rfl
theorem f7_p0_eq (x7 : List UInt8) (x8 : Int) (x10 : Int) (r0_0 : Int) (r0_1 : Int) (r0_2 : List UInt8) (r0_3 : List V) (r0_4 : List (List UInt8)) (r1_0 : Int) (r1_1 : Int) (r1_2 : List UInt8) (r1_3 : List V) (r1_4 : List (List UInt8)) : f7_p0_F (f7_p0_y x7 x8 x10 r0_0 r0_1 r0_2 r0_3 r0_4 r1_0 r1_1 r1_2 r1_3 r1_4) = (bif (x8 != (0 : Int)) then (some ((f7_p0_o0_y x7 true))) else (bif (x10 != (0 : Int)) then (some ((f7_p0_o0_y x7 true))) else ((f24_F ((r0_0, (r0_1, (r0_2, (r0_3, (r0_4, ()))))), ((r1_0, (r1_1, (r1_2, (r1_3, (r1_4, ()))))), ()))).bind fun r3 => bif (!r3.1) then (some ((f7_p0_o0_y x7 true))) else ((f26_F ()).bind fun r4 => some ((f7_p0_o0_y x7 (!r4.1))))))) := by kernel_rfl
def f7_p1_y (x0 : Int) (x1 : List UInt8) (x26 : Int) (x27 : Int) : f7_p1_sh.den := ((x0, (x1, ((), ((), ((), ((), ((), ((), ((), ((), ((), ((), ((), ((), ((), ((), ((), ((), ((), ((), ((), ((), ((), ((), ((), ((), (x26, (x27, ((), ((), ((), ((), ((), ((), ((), ((), ((), ((), ((), ((), ((), ((), ((), ((), ((), ((), ((), ((), ((), ((), ((), ((), ((), ((), ((), ((), ((), ((), ((), ((), ((), ((), ((), ((), ((), ((), ((), ((), ((), ((), ((), ((), ((), ((), ((), ((), ((), ((), ((), ((), ((), ((), ((), ((), ((), ((), ((), ((), ((), ((), ((), ((), ((), ((), ((), ((), ((), ((), ((), ((), ((), ((), ((), ((), ((), ((), ())))))))))))))))))))))))))))))))))))))))))))))))))))))))))))))))))))))))))))))))))))))))))))))))))))))))))), (), ())
def f7_p1_o0_y (x0 : Int) (x1 : List UInt8) : f7_p1_o0.den := ((x0, (x1, ((), ((), ((), ((), ((), ((), ((), ((), ((), ((), ((), ((), ((), ((), ((), ((), ((), ((), ((), ((), ((), ((), ((), ((), ((), ((), ((), ((), ((), ((), ((), ((), ((), ((), ((), ((), ((), ((), ((), ((), ((), ((), ((), ((), ((), ((), ((), ((), ((), ((), ((), ((), ((), ((), ((), ((), ((), ((), ((), ((), ((), ((), ((), ((), ((), ((), ((), ((), ((), ((), ((), ((), ((), ((), ((), ((), ((), ((), ((), ((), ((), ((), ((), ((), ((), ((), ((), ((), ((), ((), ((), ((), ((), ((), ((), ((), ((), ((), ((), ((), ((), ((), ((), ((), ())))))))))))))))))))))))))))))))))))))))))))))))))))))))))))))))))))))))))))))))))))))))))))))))))))))))))), (), ())
def f7_p1_o0_x0 (z : f7_p1_o0.den) : Int := z.1.1
def f7_p1_o0_x1 (z : f7_p1_o0.den) : List UInt8 := z.1.2.1
@[simp] theorem f7_p1_o0_x0_y (x0 : Int) (x1 : List UInt8) : f7_p1_o0_x0 (f7_p1_o0_y x0 x1) = x0 := id rfl
@[simp] theorem f7_p1_o0_x1_y (x0 : Int) (x1 : List UInt8) : f7_p1_o0_x1 (f7_p1_o0_y x0 x1) = x1 := id rfl
def f7_p1_o1_y (x4 : Bool) : f7_p1_o1.den := (((), ((), ((), ((), (x4, ((), ((), ((), ((), ((), ((), ((), ((), ((), ((), ((), ((), ((), ((), ((), ((), ((), ((), ((), ((), ((), ((), ((), ((), ((), ((), ((), ((), ((), ((), ((), ((), ((), ((), ((), ((), ((), ((), ((), ((), ((), ((), ((), ((), ((), ((), ((), ((), ((), ((), ((), ((), ((), ((), ((), ((), ((), ((), ((), ((), ((), ((), ((), ((), ((), ((), ((), ((), ((), ((), ((), ((), ((), ((), ((), ((), ((), ((), ((), ((), ((), ((), ((), ((), ((), ((), ((), ((), ((), ((), ((), ((), ((), ((), ((), ((), ((), ((), ((), ((), ((), ())))))))))))))))))))))))))))))))))))))))))))))))))))))))))))))))))))))))))))))))))))))))))))))))))))))))))), (), ())
def f7_p1_o1_x4 (z : f7_p1_o1.den) : Bool := z.1.2.2.2.2.1
@[simp] theorem f7_p1_o1_x4_y (x4 : Bool) : f7_p1_o1_x4 (f7_p1_o1_y x4) = x4 := id rfl
theorem f7_p1_eq (rec : f7_p1_sh.den → Option (OutDen f7_p1_outs)) (x0 : Int) (x1 : List UInt8) (x26 : Int) (x27 : Int) : f7_p1_st rec (f7_p1_y x0 x1 x26 x27) = (bif (decide (x27 < x26)) then ((nth x1 x27).bind fun c5 => bif (decide ((c5.toNat : Int) < (32 : Int))) then ((f26_F ()).bind fun r6 => some (.inr ((f7_p1_o1_y r6.1)))) else (rec (f7_p1_y x0 x1 x26 (IntKind.i64.wrap (x27 + (1 : Int)))))) else (some (.inl (f7_p1_o0_y x0 x1)))) := by kernel_rfl
theorem f7_eq (a0 : Int) (a1 : List UInt8) : f7_F (a0, (a1, ())) = (cutHi a1 (minI (a1.length : Int) (100 : Int)) fun s7 => (go f7_p1_st (f7_p1_y (Int.tmod a0 (1000000 : Int)) s7 (s7.length : Int) (0 : Int))).bind fun o8 => (match o8 with | .inl z9 => (f23_F ((f7_p1_o0_x0 z9), ())).bind fun r11 => (f22_F ((f7_p1_o0_x1 z9), ())).bind fun r12 => (f28_F ([(V.mk r11.1.1 r11.1.2.1 r11.1.2.2.1 r11.1.2.2.2.1 r11.1.2.2.2.2.1), (V.mk r12.1.1 r12.1.2.1 r12.1.2.2.1 r12.1.2.2.2.1 r12.1.2.2.2.2.1)], ())).bind fun r13 => (f14_F ((r13.1.1, (r13.1.2.1, (r13.1.2.2.1, (r13.1.2.2.2.1, (r13.1.2.2.2.2.1, ()))))), ())).bind fun r14 => (f27_F (r14.1, ())).bind fun r15 => (f7_p0_F (f7_p0_y r14.1 r14.2.1 r15.2.1 r13.1.1 r13.1.2.1 r13.1.2.2.1 r13.1.2.2.2.1 r13.1.2.2.2.2.1 r15.1.1 r15.1.2.1 r15.1.2.2.1 r15.1.2.2.2.1 r15.1.2.2.2.2.1)).bind fun o16 => bif (f7_p0_o0_x67 o16) then (some (false, ())) else ((indexByteF ((f7_p0_o0_x7 o16), ((44 : Int), ()))).bind fun r17 => cutHi (f7_p0_o0_x7 o16) (IntKind.i64.wrap (r17.1 + (1 : Int))) fun s18 => if s18.length + ([32] : List UInt8).length ≤ 4611686018427387904 then (cutLo (f7_p0_o0_x7 o16) (IntKind.i64.wrap (r17.1 + (1 : Int))) fun s19 => if (s18 ++ ([32] : List UInt8)).length + s19.length ≤ 4611686018427387904 then ((f27_F (((s18 ++ ([32] : List UInt8)) ++ s19), ())).bind fun r20 => if ([32] : List UInt8).length + (f7_p0_o0_x7 o16).length ≤ 4611686018427387904 then ((f27_F ((([32] : List UInt8) ++ (f7_p0_o0_x7 o16)), ())).bind fun r21 => if (f7_p0_o0_x7 o16).length + ([32] : List UInt8).length ≤ 4611686018427387904 then ((f27_F (((f7_p0_o0_x7 o16) ++ ([32] : List UInt8)), ())).bind fun r22 => bif (r20.2.1 == (20 : Int)) then (bif (r21.2.1 == (20 : Int)) then (some ((r22.2.1 == (20 : Int)), ())) else (some (false, ()))) else (some (false, ()))) else none) else none) else none) else none) | .inr o10 => some ((f7_p1_o1_x4 o10), ()))) := by kernel_rfl
end Go.Pe.Tryd
end
section
namespace Go.Pe.Tryd
open Go.Proofs Go.RowKit
set_option maxRecDepth 100000
set_option linter.unusedSimpArgs false
set_option linter.unusedVariables false
set_option linter.unusedSectionVars false
theorem f26_ok' : f26_F () = some (true, ()) := by
  rw [f26_eq, parse_eq]
  have : parseS [91, 49, 44, 34, 97, 34, 93] = (⟨3, 0, [], [⟨1, 1, [], [], []⟩, ⟨2, 0, [97], [], []⟩], []⟩, 0) := by kernel_rfl
  rw [this]
  rfl
theorem begin_blank {depth n : Nat} (hd : depth ≠ 12) (hn : n ≠ 2000) (x : List UInt8) : beginS depth n (32 :: x) = .error 20 := by
  unfold beginS
  rw [if_neg hd, if_neg hn]
  have e : ((32 : UInt8) == 45 || digitB 32) = false := by decide
  have e3 : (32 : UInt8) ≠ 34 := by decide
  have e4 : ¬ ((32 : UInt8) = 91 ∨ (32 : UInt8) = 123) := by decide
  simp only [e, Bool.false_eq_true, if_false, e3, e4]
theorem value_blank {d n : Nat} (hn : n ≠ 2000) (x : List UInt8) : value (d + 1) (32 :: x) n = .error 20 := by
  unfold value
  rw [begin_blank (by omega) hn]
theorem parse_lead (x : List UInt8) (h : x.length < 65536) : parseS (32 :: x) = (v0, 20) := by
  unfold parseS
  rw [if_neg (by simp only [List.length_cons]; omega), value_blank (by omega)]
/-- A value that is no number, and more behind it. -/
theorem parse_more {v : V} (hk : v.kind ≠ 1) (h : right v = true) (c : UInt8) (x : List UInt8) (hl : (txt v ++ c :: x).length ≤ 65536) : parseS (txt v ++ c :: x) = (v0, 20) := by
  unfold right at h
  simp only [Bool.and_eq_true, decide_eq_true_eq] at h
  have hv := value_read 12 (by omega) v h.2.2 h.1 0 (c :: x) (by omega) (fun e => absurd e hk)
  unfold parseS
  rw [if_neg (by omega), hv]
  simp
def pv (n : Int) (s : List UInt8) : V := .mk 3 0 [] [nv n, tv s] []
theorem pv_txt (n : Int) (s : List UInt8) : txt (pv n s) = 91 :: (Lib.itoa n ++ 44 :: (quo s ++ [93])) := by
  simp [pv, txt_3, txtL, nv, tv, txt_1, txt_2]
theorem pv_right {n : Int} {s : List UInt8} (h1 : -1099511627776 ≤ n) (h2 : n ≤ 1099511627776) (hs : tok s = true) : right (pv n s) = true := by
  simp [right, pv, nv, tv, dep, depL, cnt, cntL, each, eachL, mayP, noIt, hs]; omega
theorem pv_len {n : Int} {s : List UInt8} (h1 : -1099511627776 ≤ n) (h2 : n ≤ 1099511627776) (hs : s.length ≤ 100) : (txt (pv n s)).length ≤ 300 := by
  have a := itoa_len h1 h2
  have b := quo_len s
  rw [pv_txt]; simp; omega
theorem parse_inner {n : Int} (h1 : -1099511627776 ≤ n) (h2 : n ≤ 1099511627776) (x : List UInt8) (hx : x.length ≤ 1000) : parseS (91 :: (Lib.itoa n ++ 44 :: 32 :: x)) = (v0, 20) := by
  have hl := itoa_len h1 h2
  unfold parseS
  rw [if_neg (by simp; omega)]
  have hv : value 12 (91 :: (Lib.itoa n ++ 44 :: 32 :: x)) 0 = .error 20 := by
    unfold value
    cases hc : Lib.itoa n with
    | nil => exact absurd hc (itoa_ne n)
    | cons b t =>
      have hb := itoa_num h1 h2 b (by rw [hc]; simp)
      have hb93 : b ≠ 93 := by rintro rfl; exact absurd hb (by decide)
      simp only [List.cons_append]
      rw [begin_open (by omega) (by omega) 3 (.inl rfl) 91 rfl b _, if_neg (by show ¬ b = 93; exact hb93)]
      unfold openS
      rw [if_neg (by decide)]
      simp only
      rw [itemsS_eq]
      have hn : value 11 (b :: (t ++ 44 :: 32 :: x)) 1 = .ok (nv n, 44 :: 32 :: x, 2) := by
        have := value_read 11 (by omega) (nv n) (by simp [nv, each, eachL, mayP, noIt]; omega) (by simp [nv, dep, depL]) 1 (44 :: 32 :: x) (by simp [nv, cnt, cntL]) (fun _ b hb => by simp at hb; exact .inl hb.symm)
        have e : txt (nv n) = b :: t := by simp only [nv, txt_1]; exact hc
        rw [e] at this
        rw [List.cons_append] at this
        rw [this]; simp [nv, cnt, cntL]
      rw [hn]
      simp only
      rw [if_pos True.intro, if_neg (by decide), itemsS_eq, value_blank (by omega)]
  rw [hv]
theorem index_at {c : UInt8} : ∀ {a : List UInt8} (x : List UInt8), (∀ b ∈ a, b ≠ c) → Lib.indexByte (a ++ c :: x) c = (a.length : Int)
  | [], x, _ => by simp [Lib.indexByte]
  | b :: a, x, h => by
    have ih := index_at (a := a) x fun y hy => h y (by simp [hy])
    have hb := h b (by simp)
    simp only [List.cons_append, Lib.indexByte, ih, List.length_cons]
    simp [hb] <;> omega
theorem scan_bytes (x0 : Int) (s : List UInt8) (h : s.length ≤ 100) : go f7_p1_st (f7_p1_y x0 s (s.length : Int) (0 : Int)) = match s.findIdx? ctl with | some k => some (.inr (f7_p1_o1_y true)) | none => some (.inl (f7_p1_o0_y x0 s)) := by
  exact go_scan (step := f7_p1_st) (l := s) (fun i => f7_p1_y x0 s (s.length : Int) (i : Int)) ctl (fun i => some (.inr (f7_p1_o1_y true))) (some (.inl (f7_p1_o0_y x0 s))) (fun i hi rec => by
    rw [f7_p1_eq, lt_t hi, cond_true, nth_lt hi, Option.bind_some, f26_ok', Option.bind_some, nxb (by omega)]; rfl) (fun rec => by rw [f7_p1_eq]; simp only [Int.lt_irrefl, decide_false, cond_false]) (by rw [fuel_def]; omega)
theorem wf64 {n : Int} (h1 : -9223372036854775808 ≤ n) (h2 : n ≤ 9223372036854775807) : (Lit.int .i64 n).wf = true := by
  have a : IntKind.i64.min = -9223372036854775808 := by decide
  have b : IntKind.i64.max = 9223372036854775807 := by decide
  simp only [Lit.wf, a, b, Bool.and_eq_true, decide_eq_true_eq]
  exact ⟨h1, h2⟩
theorem wf_nv {n : Int} (h1 : -1099511627776 ≤ n) (h2 : n ≤ 1099511627776) : WfV reachBytes (nv n) := by
  refine .mk _ _ _ _ _ (wf64 (by decide) (by decide)) (wf64 (by omega) (by omega)) (by simp [reachBytes]) (by simp [reachBytes]) (by simp [reachBytes]) (fun i h => by simp at h) (fun k h => by simp at h)
theorem wf_tv {s : List UInt8} (h : s.length ≤ reachBytes) : WfV reachBytes (tv s) := by
  refine .mk _ _ _ _ _ (wf64 (by decide) (by decide)) (wf64 (by decide) (by decide)) h (by simp [reachBytes]) (by simp [reachBytes]) (fun i h => by simp at h) (fun k h => by simp at h)
theorem wf_pv {n : Int} {s : List UInt8} (h1 : -1099511627776 ≤ n) (h2 : n ≤ 1099511627776) (hs : s.length ≤ reachBytes) : WfV reachBytes (pv n s) := by
  refine .mk _ _ _ _ _ (wf64 (by decide) (by decide)) (wf64 (by decide) (by decide)) (by simp [reachBytes]) (by simp [reachBytes]) (by simp [reachBytes]) (fun i h => ?_) (fun k h => by simp at h)
  match i, h with
  | 0, _ => exact wf_nv h1 h2
  | 1, _ => exact wf_tv hs
theorem lawOne' (a0 : Int) (a1 : List UInt8) : f7_F (a0, (a1, ())) = some (true, ()) := by
  rw [f7_eq]
  have e3 : (100 : Int) = ((100 : Nat) : Int) := rfl
  rw [e3, cut_min]
  have hl : (a1.take 100).length ≤ 100 := by simp; omega
  generalize a1.take 100 = s at *
  have hr : -1099511627776 ≤ Int.tmod a0 1000000 ∧ Int.tmod a0 1000000 ≤ 1099511627776 := by
    have h1 := Int.tmod_lt_of_pos a0 (show (0 : Int) < 1000000 by decide)
    have h2 : -1000000 < Int.tmod a0 1000000 := by
      have := Int.lt_tmod_of_pos a0 (show (0 : Int) < 1000000 by decide)
      omega
    omega
  generalize Int.tmod a0 1000000 = n at *
  obtain ⟨h1, h2⟩ := hr
  rw [scan_bytes n s hl]
  have hfi := findIdx_any ctl s
  cases hf : s.findIdx? ctl with
  | some k => simp only [Option.bind_some, f7_p1_o1_x4_y]
  | none =>
    rw [hf] at hfi
    have hc : s.any ctl = false := hfi.symm
    have ht : tok s = true := by unfold tok; rw [hc]; simp; omega
    have hR := pv_right h1 h2 ht
    have hL := pv_len h1 h2 hl
    have h14 := f14_ok' (pv n s) (by simp [pv, nv, tv, cnt, cntL])
    unfold prn at h14
    rw [if_pos hR] at h14
    have h24 := f24_ok' (pv n s) (pv n s) (by simp [pv, nv, tv, cnt, cntL]) (wf_pv h1 h2 (by unfold reachBytes; omega))
    have hs : same (pv n s) (pv n s) = true := (same_iff _ _).2 rfl
    rw [hs] at h24
    have hP := parse_txt hR (by omega)
    rw [Option.bind_some]
    dsimp only
    rw [f7_p1_o0_x0_y, f7_p1_o0_x1_y, f23_eq, Option.bind_some, f22_eq, Option.bind_some, f28_eq, Option.bind_some]
    dsimp only
    have h14' : f14_F (((3 : Int), ((0 : Int), (([] : List UInt8), (([V.mk 1 n [] [] [], V.mk 2 0 s [] []] : List V), (([] : List (List UInt8)), ()))))), ()) = _ := h14
    rw [h14', Option.bind_some]
    dsimp only
    rw [parse_eq, hP, Option.bind_some]
    have hp0 : f7_p0_F (f7_p0_y (txt (pv n s)) 0 0 3 0 [] [V.mk 1 n [] [] [], V.mk 2 0 s [] []] [] 3 0 [] [V.mk 1 n [] [] [], V.mk 2 0 s [] []] []) = some (f7_p0_o0_y (txt (pv n s)) false) := by
      rw [f7_p0_eq]
      have q : ((0 : Int) != 0) = false := rfl
      have h24' : f24_F (((3 : Int), ((0 : Int), (([] : List UInt8), (([V.mk 1 n [] [] [], V.mk 2 0 s [] []] : List V), (([] : List (List UInt8)), ()))))), (((3 : Int), ((0 : Int), (([] : List UInt8), (([V.mk 1 n [] [] [], V.mk 2 0 s [] []] : List V), (([] : List (List UInt8)), ()))))), ())) = _ := h24
      rw [q, cond_false, cond_false, h24', Option.bind_some, Bool.not_true, cond_false, f26_ok']; rfl
    have hp0' : f7_p0_F (f7_p0_y (txt (pv n s)) 0 0 3 0 [] [V.mk 1 n [] [] [], V.mk 2 0 s [] []] [] (va (pv n s)).1 (va (pv n s)).2.1 (va (pv n s)).2.2.1 (va (pv n s)).2.2.2.1 (va (pv n s)).2.2.2.2.1) = _ := hp0
    rw [hp0', Option.bind_some]
    rw [f7_p0_o0_x67_y, cond_false, f7_p0_o0_x7_y]
    have hidx : indexByteF (txt (pv n s), ((44 : Int), ())) = some ((((Lib.itoa n).length + 1 : Nat) : Int), ()) := by
      unfold indexByteF
      simp only
      have e44 : (44 : Int).toNat.toUInt8 = 44 := by decide
      rw [e44, pv_txt]
      have := index_at (c := 44) (a := 91 :: Lib.itoa n) (quo s ++ [93]) (fun b hb => by
        rcases List.mem_cons.1 hb with rfl | hb
        · decide
        · have := itoa_num h1 h2 b hb
          rintro rfl; exact absurd this (by decide))
      rw [List.cons_append] at this
      rw [this]; simp
    have hil := itoa_len h1 h2
    have hql := quo_len s
    have hk : (Lib.itoa n).length + 2 ≤ (txt (pv n s)).length := by rw [pv_txt]; simp
    have hw : IntKind.i64.wrap ((((Lib.itoa n).length + 1 : Nat) : Int) + 1) = (((Lib.itoa n).length + 2 : Nat) : Int) := by rw [wrap64 (by omega) (by omega)]; rfl
    rw [hidx, Option.bind_some]
    dsimp only
    rw [hw, cutHi_nat' _ _ _ hk, cutLo_nat' _ _ _ hk]
    have et : (txt (pv n s)).take ((Lib.itoa n).length + 2) = 91 :: (Lib.itoa n ++ [44]) := by
      rw [pv_txt, show 91 :: (Lib.itoa n ++ 44 :: (quo s ++ [93])) = (91 :: (Lib.itoa n ++ [44])) ++ (quo s ++ [93]) by simp, List.take_left' (by simp)]
    have ed : (txt (pv n s)).drop ((Lib.itoa n).length + 2) = quo s ++ [93] := by
      rw [pv_txt, show 91 :: (Lib.itoa n ++ 44 :: (quo s ++ [93])) = (91 :: (Lib.itoa n ++ [44])) ++ (quo s ++ [93]) by simp, List.drop_left' (by simp)]
    rw [et, ed]
    rw [if_pos (by simp; omega), if_pos (by simp; omega)]
    have em : 91 :: (Lib.itoa n ++ [44]) ++ [32] ++ (quo s ++ [93]) = 91 :: (Lib.itoa n ++ 44 :: 32 :: (quo s ++ [93])) := by simp
    rw [em, parse_eq, parse_inner h1 h2 _ (by simp; omega), Option.bind_some, if_pos (by simp; omega)]
    have el : [32] ++ txt (pv n s) = 32 :: txt (pv n s) := rfl
    rw [el, parse_eq, parse_lead _ (by omega), Option.bind_some, if_pos (by simp; omega), parse_eq, parse_more (v := pv n s) (show (3 : Int) ≠ 1 by decide) hR 32 [] (by simp; omega)]
    rfl
theorem lawParseOne (a0 : Int) (a1 : List UInt8) (_ : Wf reachBytes (.int .i64) a0) (_ : Wf reachBytes .str a1) : f7_F (a0, (a1, ())) = some (true, ()) := lawOne' a0 a1
end Go.Pe.Tryd
end
section
set_option linter.unusedSectionVars false
set_option linter.unusedVariables false
set_option linter.unusedSimpArgs false
namespace Go.Pe.Tryd
open Go.Proofs Go.RowKit
variable {H : Type} {enc : TypeId × Value → H}
/-- A row's contract is handed both: what its condition says, and the world's shape. -/
theorem returns_both {a : Assume} {C : Checked} {os : Os} {f : FuncId} {fn : Func} {s : ChangeSpec} {conds : List PathCond} {apart fresh handsOn again : Bool} {X : World → Array Value → Prop}
    (hX : ∀ (w w' : World) (args : Array Value), w.heap = w'.heap → X w args → X w' args)
    (own : ownKnob C.prog.godebug = none) (started : os.Started) (noInit : C.prog.inits.idxOf? f = none) (hfn : C.prog.funcs[f]? = some fn)
    (witness : ∃ (w : World) (tape : Tape) (i : Input), w.os = os ∧ (w.forCall tape i).Shaped C.prog ∧ i.vars = [] ∧ Input.okWide C.prog (w.forCall tape i) .any w.heap.size f i ∧
      ((s.pre enc C.prog fn conds apart (w.forCall tape i).memory i.args ∧ X (w.forCall tape i).memory i.args) ∧ sizedMet enc C.prog fn (OpenSpec.ofChange s) apart (w.forCall tape i).memory i.args) ∧ a.holds C.prog (lone (Frame.enter C.prog f i.args .normal) [] (w.forCall tape i)))
    (contract : ∀ (W : World) (base : Nat) (args : Array Value) (ds gs : List (DataW H)) (before : List MemPlace),
      (∀ (j : Nat) t v, fn.params[j]? = some t → args[j]? = some v → Value.okWide C.prog W .any base t v) →
      DataW.Whole enc C.prog fn.params.toList s.vars apart W args.toList ds gs before →
      conds.all (PathCond.test C.prog ⟨fn.params.toList, ds, s.plain.varTypes C.prog, gs⟩) = true →
      (DataW.weightsEach C.prog (fn.params.toList ++ s.plain.varTypes C.prog) (ds ++ gs)).all (· ≤ reachBytes) = true → X W args → W.ShapedOpen C.prog →
      a.holds C.prog (lone (Frame.enter C.prog f args .normal) [] W) →
      Calls C.prog f args W fun e W' => ∃ v, e = .returned v ∧ s.post enc C.prog fn apart fresh handsOn again W args v W') :
    ReturnsInHanded a C os f .any (fun w args => (s.pre enc C.prog fn conds apart w args ∧ X w args) ∧ sizedMet enc C.prog fn (OpenSpec.ofChange s) apart w args) (s.post enc C.prog fn apart fresh handsOn again) := by
  refine returnsInHanded_of_calls own started noInit witness ?_
  intro w tape i _ hsh _ hok hpre hholds
  obtain ⟨_, _, _, fn', hfn', _, _, _, _, hval⟩ := hok
  have e : fn' = fn := Option.some.inj (hfn'.symm.trans hfn)
  subst e
  obtain ⟨⟨⟨ds, gs, before, hw, hc⟩, hx⟩, hz⟩ := hpre
  have hw' := DataW.Whole.of_heap (w' := w.forCall tape i) (by rfl) hw
  refine (contract (w.forCall tape i) w.heap.size i.args ds gs before hval hw' hc (hz.weights hw) (hX _ _ _ (by rfl) hx) hsh hholds).mono fun e W' ⟨v, he, hp⟩ => ?_
  subst he
  exact ChangeSpec.post_blind hp
theorem tab_of_reads {w : World} (h : Lib.VarReads Tryd.prog w "internal/strconv.uint64pow10" (Lib.tabData .u64 Lib.pow10Tab)) : Lib.TabIs Tryd.prog w "internal/strconv.uint64pow10" .u64 Lib.pow10Tab := by
  obtain ⟨g', t', cs, fuel, p, hg', ht', hvar, hd⟩ := h
  obtain rfl := Option.some.inj ((show Tryd.prog.globalNamed "internal/strconv.uint64pow10" = some 1 by kernel_rfl).symm.trans hg')
  obtain rfl := Option.some.inj ((show (Tryd.prog.globals[1]?).map (·.type) = some 129 by kernel_rfl).symm.trans ht')
  unfold Lib.TabIs
  rw [hvar, ← Lib.cells_of_tab (n := 20) (e := 104) (show Tryd.prog.underlying 129 = some (.array 20 104) by kernel_rfl) (show Tryd.prog.underlying 104 = some (.int .u64) by kernel_rfl) (by kernel_rfl) (by kernel_rfl) hd]
theorem inv_of {w : World} {l : List (String × DataW Unit)} (hn : (l.all fun x => x.2.handleName?.isNone) = true) (hL : laidMetH Tryd.prog l w) (hm : ("internal/strconv.uint64pow10", (Lib.tabData .u64 Lib.pow10Tab : DataW Unit)) ∈ l) (hs : w.ShapedOpen Tryd.prog) : Inv w := by
  rw [MakeChecks.laidMetH_plain _ _ _ hn] at hL
  exact ⟨cell_of_shapedOpen_int (P := Tryd.prog) (g := 0) (t := 3) (zero := #[.int .i64 0]) hs (of_decide_eq_true (by kernel_rfl)) (by kernel_rfl) rfl (by kernel_rfl) (by kernel_rfl) (by kernel_rfl), tab_of_reads (Lib.laidMet.reads hL hm)⟩
end Go.Pe.Tryd
end
