/- Texts of the proof, what is used of them: PK1, PK2, CardTryd. -/
import Derived.Lib.LaidU8
import Derived.Lib.LaidTab
import Derived.Shelf.Vars
import Derived.HandedShaped
import Derived.Handed
import Derived.Lay
import Derived.MakeChecks
import Derived.Test.YtgghmllnhaahgaaDoorPeZPKeys6
section
namespace Go.Pe.Tryd
open Go.Proofs Go.RowKit
set_option maxRecDepth 100000
set_option linter.unusedSimpArgs false
set_option linter.unusedVariables false
set_option linter.unusedSectionVars false
theorem bl_irrefl : ∀ a : List UInt8, Op.bytesLess a a = false
  | [] => rfl
  | a :: x => by simp [Op.bytesLess, bl_irrefl x]
theorem bl_trans : ∀ {a b c : List UInt8}, Op.bytesLess a b = true → Op.bytesLess b c = true → Op.bytesLess a c = true
  | a, [], _, h, _ => by cases a <;> simp [Op.bytesLess] at h
  | [], _ :: _, [], _, h => by simp [Op.bytesLess] at h
  | [], _ :: _, _ :: _, _, _ => rfl
  | _ :: _, _ :: _, [], _, h => by simp [Op.bytesLess] at h
  | a :: x, b :: y, c :: z, h1, h2 => by
    simp only [Op.bytesLess, Bool.or_eq_true, Bool.and_eq_true, decide_eq_true_eq, beq_iff_eq] at h1 h2 ⊢
    rcases h1 with h1 | ⟨h1, h1'⟩ <;> rcases h2 with h2 | ⟨h2, h2'⟩
    · exact .inl (UInt8.lt_trans h1 h2)
    · subst h2; exact .inl h1
    · subst h1; exact .inl h2
    · subst h1; subst h2; exact .inr ⟨rfl, bl_trans h1' h2'⟩
def lessAt (ks : List (List UInt8)) (i : Nat) : Bool := Op.bytesLess (ks.getD (i - 1) []) (ks.getD i [])
/-- A key that stands in no order is refused. -/
theorem keyS_late {ks : List (List UInt8)} {s r : List UInt8} (h : tok s = true) (hl : late ks s = true) : keyS ks (quo s ++ 58 :: r) = .error 23 := by
  unfold quo
  simp only [List.cons_append, List.append_assoc, List.nil_append]
  unfold keyS
  dsimp only
  rw [if_pos rfl, ptxt_tok h]
  simp only [hl, if_true]
theorem late_is {keys : List (List UInt8)} {i : Nat} (h0 : 0 < i) (hi : i < keys.length) : late (keys.take i) (keys.getD i []) = !lessAt keys i := by
  unfold late lessAt
  have : (keys.take i).getLast? = some (keys.getD (i - 1) []) := by
    rw [List.getLast?_eq_getElem?, List.length_take, List.getElem?_take]
    have e : min i keys.length - 1 = i - 1 := by omega
    rw [e, if_pos (by omega), List.getElem?_eq_getElem (by omega), getD_lt (by omega)]
  rw [this]
theorem items_late (d : Nat) (keys : List (List UInt8)) (htok : ∀ i, i < keys.length → tok (keys.getD i []) = true) (r : List UInt8) : ∀ (l : List V) (v : V) (done : List V) (n k : Nat),
    (∀ w, w = v ∨ w ∈ l → each w = true ∧ Reads d w) → n + cnt v + cntL l ≤ 2000 → l.length + 1 ≤ k →
    keys.length = done.length + 1 + l.length → (∃ i, done.length + 1 ≤ i ∧ i < keys.length ∧ lessAt keys i = false) →
    itemsS (value d) k ⟨4, 0, [], done, keys.take (done.length + 1)⟩ (txt v ++ (txtL true (done.length + 1) keys l ++ 125 :: r)) n = .error 23
  | [], v, done, n, k, hv, hn, hk, h4, hb => by
    obtain ⟨i, h1, h2, _⟩ := hb
    simp only [List.length_nil] at h4
    omega
  | w :: l, v, done, n, k, hv, hn, hk, h4, hb => by
    obtain ⟨k, rfl⟩ : ∃ j, k = j + 1 := ⟨k - 1, by omega⟩
    simp only [cntL] at hn
    simp only [List.length_cons] at hk h4
    have h := (hv v (.inl rfl)).2 n (txtL true (done.length + 1) keys (w :: l) ++ 125 :: r) (by omega) (fun _ => sep_tail _ _ _ _ _ _ (.inr rfl) (fun x hx => (hv x (.inr hx)).1) (by omega))
    rw [itemsS_eq, h]
    have e0 : decide (0 < done.length + 1) = true := by simp
    have hi : done.length + 1 < keys.length := by omega
    simp only [txtL, e0, cond_true, List.cons_append, List.nil_append, List.append_assoc, if_true]
    cases hls : lessAt keys (done.length + 1) with
    | false =>
      have hkey := keyS_late (r := txt w ++ (txtL true (done.length + 1 + 1) keys l ++ 125 :: r)) (htok _ hi) (by rw [late_is (by omega) hi, hls]; rfl)
      rw [hkey]
    | true =>
      have hkey := keyS_quo (r := txt w ++ (txtL true (done.length + 1 + 1) keys l ++ 125 :: r)) (htok _ hi) (by rw [late_is (by omega) hi, hls]; rfl)
      rw [take_next hi] at hkey
      rw [hkey]
      simp only
      have ih := items_late d keys htok r l w (done ++ [v]) (n + cnt v) k (fun x hx => hv x (by rcases hx with rfl | hx <;> simp [*])) (by omega) (by omega) (by simp; omega) (by
        obtain ⟨i, q1, q2, q3⟩ := hb
        refine ⟨i, ?_, q2, q3⟩
        rcases Nat.lt_or_ge (done.length + 1) i with h | h
        · simp; omega
        · have : i = done.length + 1 := by omega
          subst this; rw [hls] at q3; cases q3)
      have e1 : (done ++ [v]).length + 1 = done.length + 1 + 1 := by simp
      rw [e1] at ih
      exact ih
/-- The text of such a one. -/
theorem parse_late (items : List V) (keys : List (List UInt8)) (hl : keys.length = items.length) (htok : ∀ i, i < keys.length → tok (keys.getD i []) = true) (hit : ∀ w ∈ items, each w = true ∧ dep w ≤ 11) (hc : cntL items ≤ 1999)
    (hb : ∃ i, 1 ≤ i ∧ i < keys.length ∧ lessAt keys i = false) (hlen : (123 :: (txtL true 0 keys items ++ [125])).length ≤ 65536) : parseS (123 :: (txtL true 0 keys items ++ [125])) = (v0, 23) := by
  unfold parseS
  rw [if_neg (by omega)]
  have hv : value 12 (123 :: (txtL true 0 keys items ++ [125])) 0 = .error 23 := by
    unfold value
    cases items with
    | nil =>
      obtain ⟨i, q1, q2, q3⟩ := hb
      simp only [List.length_nil] at hl
      omega
    | cons w l =>
      simp only [List.length_cons] at hl
      have hrd := items_late 11 keys htok [] l w [] 1 2001 (fun x hx => by
        have hxm : x ∈ w :: l := by rcases hx with rfl | hx <;> simp [*]
        exact ⟨(hit x hxm).1, value_read 11 (by omega) x (hit x hxm).1 (hit x hxm).2⟩) (by simp only [cntL] at hc; omega) (by have := cntL_len (w :: l); simp only [List.length_cons] at this; omega) (by simp; omega) hb
      have etx : txtL true 0 keys (w :: l) = quo (keys.getD 0 []) ++ (58 :: (txt w ++ txtL true (0 + 1) keys l)) := by simp [txtL]
      rw [etx]
      simp only [List.cons_append, List.append_assoc, List.nil_append]
      have hi : 0 < keys.length := by omega
      have hkey := keyS_quo (ks := []) (r := txt w ++ (txtL true (0 + 1) keys l ++ [125])) (htok 0 hi) rfl
      have e0 : ([] : List (List UInt8)) ++ [keys.getD 0 []] = keys.take (0 + 1) := by rw [← take_next hi]; rfl
      rw [e0] at hkey
      have hq : quo (keys.getD 0 []) ++ 58 :: (txt w ++ (txtL true (0 + 1) keys l ++ [125])) = 34 :: (esc (keys.getD 0 []) ++ (34 :: 58 :: (txt w ++ (txtL true (0 + 1) keys l ++ [125])))) := by
        unfold quo; simp
      rw [hq] at hkey ⊢
      rw [begin_open (by omega) (by omega) 4 (.inr rfl) 123 rfl 34 _, if_neg (by decide)]
      unfold openS
      rw [if_pos rfl, hkey]
      simp only
      have hrd' : itemsS (value 11) 2001 ⟨4, 0, [], [], keys.take (0 + 1)⟩ (txt w ++ (txtL true (0 + 1) keys l ++ [125])) (0 + 1) = _ := hrd
      rw [hrd']
  rw [hv]
theorem kok_of {ks : List (List UInt8)} (h1 : ∀ i, i < ks.length → tok (ks.getD i []) = true) (h2 : ∀ i, 1 ≤ i → i < ks.length → lessAt ks i = true) : kok ks = true := by
  unfold kok
  rw [Bool.not_eq_true', List.any_eq_false]
  intro i hi
  rw [List.mem_range] at hi
  unfold kbad
  rw [h1 i hi]
  rcases Nat.eq_zero_or_pos i with h0 | h0
  · subst h0; simp
  · have := h2 i h0 hi
    unfold lessAt at this
    rw [this]; simp
theorem less_all {ks : List (List UInt8)} (h2 : ∀ i, 1 ≤ i → i < ks.length → lessAt ks i = true) : ∀ (d j : Nat), j + d + 1 < ks.length → Op.bytesLess (ks.getD j []) (ks.getD (j + d + 1) []) = true
  | 0, j, h => by
    have := h2 (j + 1) (by omega) (by omega)
    unfold lessAt at this
    simpa using this
  | d + 1, j, h => by
    have h1 := less_all h2 d j (by omega)
    have := h2 (j + d + 1 + 1) (by omega) (by omega)
    unfold lessAt at this
    rw [Nat.add_sub_cancel] at this
    exact bl_trans h1 this
theorem keys_ne {ks : List (List UInt8)} (h2 : ∀ i, 1 ≤ i → i < ks.length → lessAt ks i = true) {j i : Nat} (hj : j < i) (hi : i < ks.length) : ks.getD j [] ≠ ks.getD i [] := by
  intro e
  have := less_all h2 (i - j - 1) j (by omega)
  rw [show j + (i - j - 1) + 1 = i by omega, e, bl_irrefl] at this
  cases this
end Go.Pe.Tryd
end
section
namespace Go.Pe.Tryd
open Go.Proofs Go.RowKit
set_option maxRecDepth 100000
set_option linter.unusedSimpArgs false
set_option linter.unusedVariables false
set_option linter.unusedSectionVars false
def nums (n : Nat) : List V := (List.range n).map fun (j : Nat) => nv (j : Int)
theorem nums_succ (n : Nat) : nums (n + 1) = nums n ++ [nv (n : Int)] := by simp [nums, List.range_succ]
theorem nums_len (n : Nat) : (nums n).length = n := by simp [nums]
theorem nums_get (n i : Nat) (h : i < n) : nth (nums n) (i : Int) = some (nv (i : Int)) := by
  rw [nth_nat]; simp [nums, h]
theorem itoa_small {i : Nat} (h : i < 10) : Lib.itoa (i : Int) = [UInt8.ofNat (48 + i)] := by
  unfold Lib.itoa
  rw [if_neg (by omega), show ((i : Int)).toNat = i by omega, Lib.decDigits, dif_pos h]
theorem digit_small {i : Nat} (h : i < 10) : strOf [IntKind.u8.wrap (IntKind.i64.wrap ((48 : Int) + (i : Int)))] = Lib.itoa (i : Int) := by
  rw [itoa_small h]
  have : i = 0 ∨ i = 1 ∨ i = 2 ∨ i = 3 ∨ i = 4 ∨ i = 5 ∨ i = 6 ∨ i = 7 ∨ i = 8 ∨ i = 9 := by omega
  rcases this with rfl | rfl | rfl | rfl | rfl | rfl | rfl | rfl | rfl | rfl <;> decide
def T (K : List (List UInt8)) (i : Nat) : List UInt8 := 123 :: txtL true 0 K (nums i)
def O (K : List (List UInt8)) (i : Nat) : Bool := (List.range i).all fun j => decide (j = 0) || lessAt K j
theorem O_succ (K : List (List UInt8)) (i : Nat) : O K (i + 1) = (O K i && (decide (i = 0) || lessAt K i)) := by simp [O, List.range_succ]
theorem T_succ (K : List (List UInt8)) (i : Nat) (h : i < 10) : T K (i + 1) = (T K i ++ (bif decide (0 < i) then [44] else [])) ++ ((quo (K.getD i []) ++ [58]) ++ strOf [IntKind.u8.wrap (IntKind.i64.wrap ((48 : Int) + (i : Int)))]) := by
  rw [digit_small h]
  unfold T
  rw [nums_succ, txtL_append, nums_len, Nat.zero_add]
  simp only [txtL, cond_true, List.cons_append, List.append_assoc, List.append_nil, List.nil_append, nv, txt_1]
theorem T_len (K : List (List UInt8)) (hK : ∀ k ∈ K, k.length ≤ 20) : ∀ i, i ≤ 8 → (T K i).length ≤ 1 + 50 * i
  | 0, _ => by simp [T, nums, txtL]
  | i + 1, h => by
    have ih := T_len K hK i (by omega)
    rw [T_succ K i (by omega), digit_small (by omega), itoa_small (by omega)]
    have hq := quo_len (K.getD i [])
    have hk : (K.getD i []).length ≤ 20 := by
      rcases Nat.lt_or_ge i K.length with hi | hi
      · rw [getD_lt hi]; exact hK _ (List.getElem_mem hi)
      · rw [List.getD_eq_getElem?_getD, List.getElem?_eq_none hi]; simp
    have hc : (bif decide (0 < i) then ([44] : List UInt8) else []).length ≤ 1 := by cases decide (0 < i) <;> simp
    simp only [List.length_append, List.length_singleton]
    omega
/-- The keys, cut so far. -/
def L (l : List (List UInt8)) (i : Nat) : List (List UInt8) := (l.map fun k => k.take 20).take i ++ l.drop i
theorem L_len (l : List (List UInt8)) (i : Nat) : (L l i).length = l.length := by simp [L]; omega
theorem L_get {l : List (List UInt8)} {i : Nat} (h : i < l.length) : (L l i)[i]? = some l[i] := by
  unfold L
  rw [List.getElem?_append_right (by simp; omega)]
  simp only [List.length_take, List.length_map]
  rw [show min i l.length = i by omega, Nat.sub_self, List.getElem?_drop]
  simp [h]
theorem L_set {l : List (List UInt8)} {i : Nat} (h : i < l.length) : (L l i).set i (l[i].take 20) = L l (i + 1) := by
  unfold L
  have e1 : ((l.map fun k => k.take 20).take i).length = i := by simp; omega
  have e2 : (l.map fun k => k.take 20).take (i + 1) = (l.map fun k => k.take 20).take i ++ [l[i].take 20] := by
    have := List.take_succ_eq_append_getElem (l := l.map fun k => k.take 20) (i := i) (by simpa using h)
    rw [this, List.getElem_map]
  rw [List.set_append_right _ _ (by omega), e1, Nat.sub_self, List.drop_eq_getElem_cons h, List.set_cons_zero, e2, List.append_assoc]
  rfl
theorem L_old {l : List (List UInt8)} {i j : Nat} (hj : j < i) (h : i ≤ l.length) : (L l i)[j]? = some ((l.map fun k => k.take 20).getD j []) := by
  unfold L
  rw [List.getElem?_append_left (by simp; omega), List.getElem?_take, if_pos hj, List.getD_eq_getElem?_getD, List.getElem?_eq_getElem (by simp; omega)]
  rfl
theorem L_end (l : List (List UInt8)) : L l l.length = l.map fun k => k.take 20 := by
  unfold L
  rw [List.drop_length, List.append_nil, List.take_of_length_le (by simp)]
theorem p1_is (l : List (List UInt8)) (x3 : List UInt8) (x4 : Bool) (i : Nat) (x7 : List UInt8) (n j : Int) (hi : i < l.length) (hl : l.length ≤ 8) (hx : x3.length ≤ 1000) :
    f8_p1_F (f8_p1_y x3 x4 (i : Int) x7 n j (L l (i + 1))) = some (f8_p1_o0_y (x3 ++ (bif decide (0 < i) then [44] else [])) (x4 && (decide (i = 0) || lessAt (l.map fun k => k.take 20) i)) (i : Int) x7 n j (L l (i + 1))) := by
  rw [f8_p1_eq]
  rcases Nat.eq_zero_or_pos i with h0 | h0
  · subst h0
    simp
  · have e1 : decide ((i : Int) > 0) = true := by simp; omega
    have e2 : decide (0 < i) = true := by simp [h0]
    have e3 : decide (i = 0) = false := by simp; omega
    rw [e1, e2, e3, cond_true, cond_true, if_pos (by simp; omega), Bool.false_or]
    cases x4 with
    | false => simp
    | true =>
      have hll := L_len l (i + 1)
      rw [cond_true, pred_nat h0 (by omega), within_lt (by omega), show Int.toNat ((i - 1 : Nat) : Int) = i - 1 by omega, L_old (by omega) (by omega), Option.bind_some, within_lt (by omega), show Int.toNat (i : Int) = i by omega, L_old (by omega) (by omega), Option.bind_some, Bool.true_and]
      rfl
def Y (l : List (List UInt8)) (i : Nat) : f8_p3_sh.den := f8_p3_y (T (l.map fun k => k.take 20) i) (O (l.map fun k => k.take 20) i) (l.length : Int) (i : Int) (L l i)
theorem K_get {l : List (List UInt8)} {i : Nat} (h : i < l.length) : (l.map fun k => k.take 20).getD i [] = l[i].take 20 := by
  rw [getD_lt (by simpa using h)]; simp
theorem cut20 {S : Type} (a : List UInt8) (f : List UInt8 → Option S) : cutHi a (minI (a.length : Int) (20 : Int)) f = f (a.take 20) := cut_min a 20 f
theorem K20 (l : List (List UInt8)) : ∀ k ∈ l.map (fun k => k.take 20), k.length ≤ 20 := fun k hk => by
  simp only [List.mem_map] at hk
  obtain ⟨x, _, rfl⟩ := hk
  simp; omega
theorem step_common (l : List (List UInt8)) (hl : l.length ≤ 8) (i : Nat) (hi : i < l.length) (rec : f8_p3_sh.den → Option (OutDen f8_p3_outs)) : f8_p3_st rec (Y l i) =
    if tok (l[i].take 20) = true then rec (Y l (i + 1)) else some (.inr (f8_p3_o1_y true)) := by
  unfold Y
  have hll := L_len l i
  have hll1 := L_len l (i + 1)
  have hset := L_set hi
  have hti : Int.toNat (i : Int) = i := by omega
  have hT := T_len _ (K20 l) i (by omega)
  rw [f8_p3_eq, lt_t hi, cond_true, within_lt (by omega), hti, L_get hi, Option.bind_some, cut20, within_lt (by omega), Option.bind_some]
  simp only [hset]
  rw [within_lt (by omega), L_old (Nat.lt_succ_self i) (by omega), Option.bind_some, K_get hi, f22_eq, Option.bind_some]
  dsimp only
  have hp : f14_F (((2 : Int), ((0 : Int), (l[i].take 20, (([] : List V), (([] : List (List UInt8)), ()))))), ()) = _ := tv_print (l[i].take 20)
  rw [hp]
  cases ht : tok (l[i].take 20) with
  | false =>
    simp only [Bool.false_eq_true, if_false, Option.bind_some]
    rw [f26_ok']; rfl
  | true =>
    have hq := quo_len (l[i].take 20)
    have h20 : (l[i].take 20).length ≤ 20 := by simp; omega
    simp only [if_true, Option.bind_some]
    rw [show ((0 : Int) != 0) = false from rfl, cond_false, p1_is l _ _ i _ _ _ hi hl (by omega), Option.bind_some]
    simp only [f8_p1_o0_x7_y, f8_p1_o0_x5_y, f8_p1_o0_x3_y, f8_p1_o0_x4_y, f8_p1_o0_x23_y, f8_p1_o0_x24_y, f8_p1_o0_l0_y]
    have hds : (strOf [IntKind.u8.wrap (IntKind.i64.wrap ((48 : Int) + (i : Int)))]).length = 1 := by simp [strOf]
    have hc : (bif decide (0 < i) then ([44] : List UInt8) else []).length ≤ 1 := by cases decide (0 < i) <;> simp
    rw [if_pos (by simp; omega), if_pos (by simp only [List.length_append, List.length_singleton, hds]; omega), if_pos (by simp only [List.length_append, List.length_singleton, hds]; omega), nx (by omega), T_succ _ i (by omega), O_succ, K_get hi]
theorem keys_loop8 (l : List (List UInt8)) (hl : l.length ≤ 8) (Q : Option (OutDen f8_p3_outs) → Prop) (h1 : Q (some (.inr (f8_p3_o1_y true))))
    (h2 : (∀ i, i < l.length → tok ((l.map fun k => k.take 20).getD i []) = true) → Q (some (.inl (f8_p3_o0_y (T (l.map fun k => k.take 20) l.length) (O (l.map fun k => k.take 20) l.length) (l.map fun k => k.take 20))))) :
    Q (go f8_p3_st (f8_p3_y [123] true (l.length : Int) (0 : Int) l)) := by
  have e0 : f8_p3_y [123] true (l.length : Int) (0 : Int) l = Y l 0 := by
    simp [Y, T, O, nums, txtL, L]
  rw [e0]
  rcases first_bad (fun k : List UInt8 => tok (k.take 20) = true) l with hall | ⟨k, hk, hb, hlt⟩
  · refine go_q (step := f8_p3_st) l.length (Y l) Q (fun i hi => .inl fun rec => ?_) ⟨_, h2 fun i hi => ?_, fun rec => ?_⟩ (by rw [fuel_def]; omega)
    · rw [step_common l hl i hi, if_pos (hall _ (List.getElem_mem hi))]
    · rw [K_get hi]; exact hall _ (List.getElem_mem hi)
    · unfold Y
      rw [f8_p3_eq, L_end]
      simp only [Int.lt_irrefl, decide_false, cond_false]
  · refine go_q (step := f8_p3_st) k (Y l) Q (fun i hi => .inl fun rec => ?_) ⟨_, h1, fun rec => ?_⟩ (by rw [fuel_def]; omega)
    · rw [step_common l hl i (by omega), if_pos (hlt i hi)]
    · rw [step_common l hl k hk, if_neg hb]
def kv (K : List (List UInt8)) : V := .mk 4 0 [] (nums K.length) K
theorem find_eq (K : List (List UInt8)) (hK : K.length ≤ 8) (hne : ∀ j i, j < i → i < K.length → K.getD j [] ≠ K.getD i []) (i : Nat) (hi : i < K.length) : f51_F (K, (K[i], ())) = some ((i : Int), ()) := by
  rw [f51_eq]
  have e := go_scan (step := f51_p0_st) (l := K) (fun j => f51_p0_y K K[i] (K.length : Int) (j : Int)) (fun y => K[i] == y) (fun j => some (.inr (f51_p0_o1_y (j : Int)))) (some (.inl f51_p0_o0_y)) (fun j hj rec => by
    rw [f51_p0_eq, lt_t hj, cond_true, nth_lt hj, Option.bind_some, nx (by omega)]) (fun rec => by rw [f51_p0_eq]; simp only [Int.lt_irrefl, decide_false, cond_false]) (by rw [fuel_def]; omega)
  have e' : go f51_p0_st (f51_p0_y K K[i] (K.length : Int) (0 : Int)) = _ := e
  have hf : K.findIdx? (fun y => K[i] == y) = some i := by
    rw [List.findIdx?_eq_some_iff_getElem]
    refine ⟨hi, by simp, fun j hj => ?_⟩
    have := hne j i hj hi
    rw [getD_lt (by omega), getD_lt hi] at this
    simp; exact fun e => this e.symm
  rw [e', hf]
  simp only [Option.bind_some, f51_p0_o1_x4_y]
theorem get_eq (K : List (List UInt8)) (hK : K.length ≤ 8) (hne : ∀ j i, j < i → i < K.length → K.getD j [] ≠ K.getD i []) (i : Nat) (hi : i < K.length) : f30_F (va (kv K), (K[i], ((1 : Int), ()))) = some (va (nv (i : Int)), ((0 : Int), ())) := by
  have h32 : f32_F (va (kv K), (K[i], ())) = some (va (nv (i : Int)), (true, ())) := by
    have e : f32_F (va (kv K), (K[i], ())) = f32_F (((4 : Int), ((0 : Int), (([] : List UInt8), (nums K.length, (K, ()))))), (K[i], ())) := rfl
    rw [e, f32_eq, find_eq K hK hne i hi, Option.bind_some, f32_p0_eq]
    have q : ((4 : Int) != 4) = false := rfl
    have q2 : ((K.length : Int) != ((nums K.length).length : Int)) = false := by rw [nums_len]; simp
    have q3 : decide ((i : Int) < 0) = false := by simp
    dsimp only
    rw [q, cond_false, q2, cond_false, q3, Option.bind_some]
    simp only [f32_p0_o0_x26_y, cond_false, f32_p0_o0_r0_3_y, f32_p0_o0_x6_y]
    rw [nums_get _ _ hi]; rfl
  have e : f30_F (va (kv K), (K[i], ((1 : Int), ()))) = f30_F (((4 : Int), ((0 : Int), (([] : List UInt8), (nums K.length, (K, ()))))), (K[i], ((1 : Int), ()))) := rfl
  have h32' : f32_F (((4 : Int), ((0 : Int), (([] : List UInt8), (nums K.length, (K, ()))))), (K[i], ())) = _ := h32
  rw [e, f30_eq, h32', Option.bind_some, f30_p0_eq]
  rfl
theorem kv_right (K : List (List UInt8)) (hK : K.length ≤ 8) (hk : kok K = true) : right (kv K) = true := by
  have hit : ∀ v ∈ nums K.length, each v = true ∧ dep v = 1 ∧ cnt v = 1 := fun v hv => by
    simp only [nums, List.mem_map, List.mem_range] at hv
    obtain ⟨j, hj, rfl⟩ := hv
    refine ⟨?_, by simp [nv, dep, depL], by simp [nv, cnt, cntL]⟩
    simp [nv, each, eachL, mayP, noIt]; omega
  have hcnt : ∀ l : List V, (∀ v ∈ l, cnt v = 1) → cntL l = l.length := fun l h => by
    induction l with
    | nil => rfl
    | cons v l ih =>
      have h1 := h v (by simp)
      have h2 := ih fun x hx => h x (by simp [hx])
      simp only [cntL, List.length_cons]; omega
  unfold right
  simp only [Bool.and_eq_true, decide_eq_true_eq]
  refine ⟨?_, ?_, each_items_of (may_map (by rw [nums_len]) hk) fun v hv => (hit v hv).1⟩
  · have := depL_of (l := nums K.length) (d := 1) fun v hv => by rw [(hit v hv).2.1]; exact Nat.le_refl 1
    simp only [kv, dep]; omega
  · have := hcnt _ fun v hv => (hit v hv).2.2
    rw [nums_len] at this
    simp only [kv, cnt]; omega
theorem found_loop (K : List (List UInt8)) (hK : K.length ≤ 8) (hne : ∀ j i, j < i → i < K.length → K.getD j [] ≠ K.getD i []) : go f8_p2_st (f8_p2_y 0 (K.length : Int) (0 : Int) 4 0 [] (nums K.length) K K) = some (.inl (f8_p2_o0_y 0 4 0 [] (nums K.length) K K)) := by
  refine go_seq (step := f8_p2_st) (y := fun i => f8_p2_y 0 (K.length : Int) (i : Int) 4 0 [] (nums K.length) K K) (n := K.length) (fun i hi rec => ?_) (fun rec => ?_) (by rw [fuel_def]; omega)
  · have hti : Int.toNat (i : Int) = i := by omega
    have hg : f30_F (((4 : Int), ((0 : Int), (([] : List UInt8), (nums K.length, (K, ()))))), (K[i], ((1 : Int), ()))) = _ := get_eq K hK hne i hi
    rw [f8_p2_eq, lt_t hi, cond_true, within_lt (by omega), hti, List.getElem?_eq_getElem hi, Option.bind_some, hg, Option.bind_some, f8_p0_eq]
    have q : ((0 : Int) != 0) = false := rfl
    have q2 : ((i : Int) != (i : Int)) = false := by simp
    show ((bif ((0 : Int) != 0) then _ else some (f8_p0_o0_y 0 (K.length : Int) (i : Int) ((i : Int) != (i : Int)) 4 0 [] (nums K.length) K K)) : Option f8_p0_o0.den).bind _ = _
    rw [q, cond_false, q2, Option.bind_some]
    simp only [f8_p0_o0_x110_y, cond_false, f8_p0_o0_x10_y, f8_p0_o0_x91_y, f8_p0_o0_x92_y, f8_p0_o0_r0_0_y, f8_p0_o0_r0_1_y, f8_p0_o0_r0_2_y, f8_p0_o0_r0_3_y, f8_p0_o0_r0_4_y, f8_p0_o0_l0_y]
    rw [nx (by omega)]
  · rw [f8_p2_eq]; simp only [Int.lt_irrefl, decide_false, cond_false]
theorem lawKeys' (a0 : List (List UInt8)) : f8_F (a0, ()) = some (true, ()) := by
  rw [f8_eq]
  have e8 : minI (a0.length : Int) (8 : Int) = ((min a0.length 8 : Nat) : Int) := minI_nat a0.length 8
  rw [e8, cutHi_nat' _ _ _ (Nat.min_le_left _ _)]
  have hl : (a0.take (min a0.length 8)).length ≤ 8 := by simp; omega
  generalize a0.take (min a0.length 8) = l at *
  rw [appOk_lt (by simp; omega), List.nil_append]
  refine keys_loop8 l hl (fun r => r.bind _ = _) ?_ fun htok => ?_
  · simp only [Option.bind_some, f8_p3_o1_x2_y]
  · have hKl : (l.map fun k => k.take 20).length = l.length := by simp
    have h20 := K20 l
    have htok' : ∀ i, i < (l.map fun k => k.take 20).length → tok ((l.map fun k => k.take 20).getD i []) = true := fun i hi => htok i (by omega)
    rw [Option.bind_some]
    dsimp only
    rw [f8_p3_o0_x3_y, f8_p3_o0_x4_y, f8_p3_o0_l0_y]
    rw [← hKl] at hl ⊢
    generalize (l.map fun k => k.take 20) = K at *
    clear htok hKl
    have hT := T_len K h20 K.length (by omega)
    rw [if_pos (by simp; omega)]
    have etx : T K K.length ++ [125] = txt (kv K) := by unfold T kv; rw [txt_4]; rfl
    cases hO : O K K.length with
    | false =>
      have hb : ∃ i, 1 ≤ i ∧ i < K.length ∧ lessAt K i = false := by
        unfold O at hO
        rw [List.all_eq_false] at hO
        obtain ⟨i, hi, h⟩ := hO
        rw [List.mem_range] at hi
        simp only [Bool.or_eq_true, decide_eq_true_eq, not_or, Bool.not_eq_true] at h
        exact ⟨i, by omega, hi, h.2⟩
      have hit : ∀ v ∈ nums K.length, each v = true ∧ dep v ≤ 11 := fun v hv => by
        simp only [nums, List.mem_map, List.mem_range] at hv
        obtain ⟨j, hj, rfl⟩ := hv
        refine ⟨?_, by simp [nv, dep, depL]⟩
        simp [nv, each, eachL, mayP, noIt]; omega
      have hcn : cntL (nums K.length) ≤ 1999 := by
        have : ∀ n, cntL (nums n) = n := fun n => by
          induction n with
          | zero => rfl
          | succ n ih => rw [nums_succ, cntL_append, ih]; simp [cntL, nv, cnt]
        rw [this]; omega
      have hp := parse_late (nums K.length) K (by rw [nums_len]) htok' hit hcn hb (by
        have : (123 :: (txtL true 0 K (nums K.length) ++ [125])).length = (T K K.length).length + 1 := by simp [T]
        omega)
      have e2 : T K K.length ++ [125] = 123 :: (txtL true 0 K (nums K.length) ++ [125]) := rfl
      rw [e2, parse_eq, hp, Option.bind_some]
      simp only [Bool.not_false, cond_true, f26_ok', Option.bind_some]
      rfl
    | true =>
      have h2 : ∀ i, 1 ≤ i → i < K.length → lessAt K i = true := fun i h1 h3 => by
        unfold O at hO
        rw [List.all_eq_true] at hO
        have := hO i (List.mem_range.2 h3)
        simp only [Bool.or_eq_true, decide_eq_true_eq] at this
        rcases this with h | h
        · omega
        · exact h
      have hk := kok_of htok' h2
      have hr := kv_right K (by omega) hk
      have hp := parse_txt hr (by rw [← etx]; simp; omega)
      have hfl := found_loop K (by omega) (fun j i hj hi => keys_ne h2 hj hi)
      rw [etx, parse_eq, hp, Option.bind_some]
      simp only [Bool.not_true, cond_false]
      have hfl' : go f8_p2_st (f8_p2_y 0 (K.length : Int) (0 : Int) (va (kv K)).1 (va (kv K)).2.1 (va (kv K)).2.2.1 (va (kv K)).2.2.2.1 (va (kv K)).2.2.2.2.1 K) = _ := hfl
      rw [hfl', Option.bind_some]
      simp only [f26_ok', Option.bind_some, cond_true, f8_p2_o0_x10_y, f8_p2_o0_r0_4_y, f8_p2_o0_l0_y]
      simp
theorem lawKeys (a0 : List (List UInt8)) (_ : Wf reachBytes (.list .str) a0) : f8_F (a0, ()) = some (true, ()) := lawKeys' a0
end Go.Pe.Tryd
end
section
set_option linter.unusedSectionVars false
set_option linter.unusedVariables false
set_option linter.unusedSimpArgs false
namespace Go.Pe.Tryd
open Go.Proofs Go.RowKit
variable {H : Type} {enc : TypeId × Value → H}
/-- A row's contract is handed both: what its condition says, and the world's shape. -/
theorem returns_both {a : Assume} {C : Checked} {os : Os} {f : FuncId} {fn : Func} {s : ChangeSpec} {conds : List PathCond} {apart fresh handsOn again : Bool} {X : World → Array Value → Prop}
    (hX : ∀ (w w' : World) (args : Array Value), w.heap = w'.heap → X w args → X w' args)
    (own : ownKnob C.prog.godebug = none) (started : os.Started) (noInit : C.prog.inits.idxOf? f = none) (hfn : C.prog.funcs[f]? = some fn)
    (witness : ∃ (w : World) (tape : Tape) (i : Input), w.os = os ∧ (w.forCall tape i).Shaped C.prog ∧ i.vars = [] ∧ Input.okWide C.prog (w.forCall tape i) .any w.heap.size f i ∧
      ((s.pre enc C.prog fn conds apart (w.forCall tape i).memory i.args ∧ X (w.forCall tape i).memory i.args) ∧ sizedMet enc C.prog fn (OpenSpec.ofChange s) apart (w.forCall tape i).memory i.args) ∧ a.holds C.prog (lone (Frame.enter C.prog f i.args .normal) [] (w.forCall tape i)))
    (contract : ∀ (W : World) (base : Nat) (args : Array Value) (ds gs : List (DataW H)) (before : List MemPlace),
      (∀ (j : Nat) t v, fn.params[j]? = some t → args[j]? = some v → Value.okWide C.prog W .any base t v) →
      DataW.Whole enc C.prog fn.params.toList s.vars apart W args.toList ds gs before →
      conds.all (PathCond.test C.prog ⟨fn.params.toList, ds, s.plain.varTypes C.prog, gs⟩) = true →
      (DataW.weightsEach C.prog (fn.params.toList ++ s.plain.varTypes C.prog) (ds ++ gs)).all (· ≤ reachBytes) = true → X W args → W.ShapedOpen C.prog →
      a.holds C.prog (lone (Frame.enter C.prog f args .normal) [] W) →
      Calls C.prog f args W fun e W' => ∃ v, e = .returned v ∧ s.post enc C.prog fn apart fresh handsOn again W args v W') :
    ReturnsInHanded a C os f .any (fun w args => (s.pre enc C.prog fn conds apart w args ∧ X w args) ∧ sizedMet enc C.prog fn (OpenSpec.ofChange s) apart w args) (s.post enc C.prog fn apart fresh handsOn again) := by
  refine returnsInHanded_of_calls own started noInit witness ?_
  intro w tape i _ hsh _ hok hpre hholds
  obtain ⟨_, _, _, fn', hfn', _, _, _, _, hval⟩ := hok
  have e : fn' = fn := Option.some.inj (hfn'.symm.trans hfn)
  subst e
  obtain ⟨⟨⟨ds, gs, before, hw, hc⟩, hx⟩, hz⟩ := hpre
  have hw' := DataW.Whole.of_heap (w' := w.forCall tape i) (by rfl) hw
  refine (contract (w.forCall tape i) w.heap.size i.args ds gs before hval hw' hc (hz.weights hw) (hX _ _ _ (by rfl) hx) hsh hholds).mono fun e W' ⟨v, he, hp⟩ => ?_
  subst he
  exact ChangeSpec.post_blind hp
theorem tab_of_reads {w : World} (h : Lib.VarReads Tryd.prog w "internal/strconv.uint64pow10" (Lib.tabData .u64 Lib.pow10Tab)) : Lib.TabIs Tryd.prog w "internal/strconv.uint64pow10" .u64 Lib.pow10Tab := by
  obtain ⟨g', t', cs, fuel, p, hg', ht', hvar, hd⟩ := h
  obtain rfl := Option.some.inj ((show Tryd.prog.globalNamed "internal/strconv.uint64pow10" = some 1 by kernel_rfl).symm.trans hg')
  obtain rfl := Option.some.inj ((show (Tryd.prog.globals[1]?).map (·.type) = some 129 by kernel_rfl).symm.trans ht')
  unfold Lib.TabIs
  rw [hvar, ← Lib.cells_of_tab (n := 20) (e := 104) (show Tryd.prog.underlying 129 = some (.array 20 104) by kernel_rfl) (show Tryd.prog.underlying 104 = some (.int .u64) by kernel_rfl) (by kernel_rfl) (by kernel_rfl) hd]
theorem inv_of {w : World} {l : List (String × DataW Unit)} (hn : (l.all fun x => x.2.handleName?.isNone) = true) (hL : laidMetH Tryd.prog l w) (hm : ("internal/strconv.uint64pow10", (Lib.tabData .u64 Lib.pow10Tab : DataW Unit)) ∈ l) (hs : w.ShapedOpen Tryd.prog) : Inv w := by
  rw [MakeChecks.laidMetH_plain _ _ _ hn] at hL
  exact ⟨cell_of_shapedOpen_int (P := Tryd.prog) (g := 0) (t := 3) (zero := #[.int .i64 0]) hs (of_decide_eq_true (by kernel_rfl)) (by kernel_rfl) rfl (by kernel_rfl) (by kernel_rfl) (by kernel_rfl), tab_of_reads (Lib.laidMet.reads hL hm)⟩
end Go.Pe.Tryd
end
