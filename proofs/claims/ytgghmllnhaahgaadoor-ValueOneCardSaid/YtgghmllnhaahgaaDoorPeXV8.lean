/- The text of a value, written. -/
import Derived.Test.YtgghmllnhaahgaaDoorPeXV7
set_option linter.unusedSectionVars false
set_option linter.unusedVariables false
set_option linter.unusedSimpArgs false
namespace Go.Pe.Tryd
open Go.Proofs Go.RowKit
set_option maxRecDepth 100000
theorem h34a_list (G : h34a_I.den → Option h34a_O.den) (hG : SoundH Tryd.prog 34 ⟨h34a_I, h34a_O, G⟩) (o c : UInt8) (k n : Int) (s : List UInt8) (items : List V) (keys : List (List UInt8)) (l : List Int) (hl : items.length ≤ 4000) (hm : (k == 4) = true → keys.length = items.length ∧ ∀ j (hj : j < keys.length), keys[j].length ≤ 4000)
    (hlen : l.length + (txtL (k == 4) 0 keys items).length + 2 ≤ 4294967296) (ih : ∀ v ∈ items, ∀ l : List Int, l.length + (txt v).length ≤ 4294967296 → G (h34a_y v.kind v.n v.s v.items v.keys l) = some (h34a_o_y (l ++ bytesOf (txt v)))) :
    (cutHi ([o, c] : List UInt8) (1 : Int) fun s67 => (h53a_F (h53a_y s67 l)).bind fun z68 => (go (h34a_p2_st G hG) (h34a_p2_y ([o, c] : List UInt8) items (items.length : Int) (0 : Int) k n s items keys (h53a_o_l0 z68))).bind fun o69 => cutLo (h34a_p2_o0_x4 o69) (1 : Int) fun s70 => (h53a_F (h53a_y s70 (h34a_p2_o0_l0 o69))).bind fun z71 => some (h34a_o_y (h53a_o_l0 z71))) = some (h34a_o_y (l ++ bytesOf (o :: (txtL (k == 4) 0 keys items ++ [c])))) := by
  have e1 : (1 : Int) = ((1 : Nat) : Int) := rfl
  rw [e1, cutHi_nat' _ _ _ (by simp)]
  have e2 : ([o, c] : List UInt8).take 1 = [o] := rfl
  rw [e2, h53a_is _ _ (by simp only [List.length_singleton]; omega), Option.bind_some, h53a_o_l0_y, h34a_items G hG _ k n s items keys _ hl hm (by simp only [List.length_append, bytesOf_len, List.length_singleton]; omega) ih, Option.bind_some, h34a_p2_o0_x4_y, h34a_p2_o0_l0_y, cutLo_nat' _ _ _ (by simp)]
  have e3 : ([o, c] : List UInt8).drop 1 = [c] := rfl
  rw [e3, h53a_is _ _ (by simp only [List.length_append, bytesOf_len, List.length_singleton]; omega), Option.bind_some, h53a_o_l0_y]
  simp [bytesOf]
theorem h34_list (o c : UInt8) (k n : Int) (s : List UInt8) (items : List V) (keys : List (List UInt8)) (hl : items.length ≤ 4000) (hm : (k == 4) = true → keys.length = items.length ∧ ∀ j (hj : j < keys.length), keys[j].length ≤ 4000)
    (hlen : (txtL (k == 4) 0 keys items).length + 2 ≤ 4294967296) (ih : ∀ v ∈ items, ∀ l : List Int, l.length + (txt v).length ≤ 4294967296 → h34a_F (h34a_y v.kind v.n v.s v.items v.keys l) = some (h34a_o_y (l ++ bytesOf (txt v)))) :
    (cutHi ([o, c] : List UInt8) (1 : Int) fun s67 => (h53_F (h53_y s67)).bind fun z68 => (go h34_p2_st (h34_p2_y ([o, c] : List UInt8) items (items.length : Int) (0 : Int) k n s items keys (h53_o_l0 z68))).bind fun o69 => cutLo (h34_p2_o0_x4 o69) (1 : Int) fun s70 => (h53a_F (h53a_y s70 (h34_p2_o0_l0 o69))).bind fun z71 => some (h34_o_y (h53a_o_l0 z71))) = some (h34_o_y (bytesOf (o :: (txtL (k == 4) 0 keys items ++ [c])))) := by
  have e1 : (1 : Int) = ((1 : Nat) : Int) := rfl
  rw [e1, cutHi_nat' _ _ _ (by simp)]
  have e2 : ([o, c] : List UInt8).take 1 = [o] := rfl
  rw [e2, h53_is _ (by simp), Option.bind_some, h53_o_l0_y, h34_items  _ k n s items keys _ hl hm (by simp only [List.length_append, bytesOf_len, List.length_singleton]; omega) ih, Option.bind_some, h34_p2_o0_x4_y, h34_p2_o0_l0_y, cutLo_nat' _ _ _ (by simp)]
  have e3 : ([o, c] : List UInt8).drop 1 = [c] := rfl
  rw [e3, h53a_is _ _ (by simp only [List.length_append, bytesOf_len, List.length_singleton]; omega), Option.bind_some, h53a_o_l0_y]
  simp [bytesOf]
theorem format_is {a : Int} (h1 : -1099511627776 ≤ a) (h2 : a ≤ 1099511627776) : formatF (a, ((10 : Int), ())) = some (Lib.itoa a, ()) := by
  unfold formatF
  exact if_pos ⟨rfl, Int.le_trans (by decide) h1, Int.le_trans h2 (by decide)⟩
theorem each_items {k n : Int} {s items keys} (h : each (.mk k n s items keys) = true) : mayP k n s items keys = true ∧ ∀ v ∈ items, each v = true := by
  simp only [each, Bool.and_eq_true] at h
  refine ⟨h.1, fun v hv => ?_⟩
  have := h.2
  rw [eachL_all, List.all_eq_true] at this
  exact this v hv
theorem h34a_next (n : Nat) : (h34a_S (n + 1)).1 = h34a_b (h34a_S n).1 (h34a_S n).2 := by kernel_rfl
theorem wr_ok : ∀ (n : Nat) (v : V) (l : List Int), dep v ≤ n → cnt v ≤ 3000 → each v = true → l.length + (txt v).length ≤ 4294967296 → (h34a_S n).1 (h34a_y v.kind v.n v.s v.items v.keys l) = some (h34a_o_y (l ++ bytesOf (txt v)))
  | 0, v, _, h, _, _, _ => by have := dep_pos v; omega
  | n + 1, .mk k a s items keys, l, hd, hcn, hee, hlen => by
    have he := each_items hee
    simp only [dep, cnt] at hd hcn
    have hl := cntL_len items
    have ih : ∀ v ∈ items, ∀ l : List Int, l.length + (txt v).length ≤ 4294967296 → (h34a_S n).1 (h34a_y v.kind v.n v.s v.items v.keys l) = some (h34a_o_y (l ++ bytesOf (txt v))) := fun v hv l h => wr_ok n v l (by have := dep_mem hv; omega) (by have := cnt_mem hv; omega) (he.2 v hv) h
    show (h34a_S (n + 1)).1 (h34a_y k a s items keys l) = _
    rw [h34a_next, h34a_eq]
    by_cases h1 : k = 1
    · subst h1
      have hb := mayP_1 he.1
      have hf := format_is hb.1 hb.2
      have q1 : ((1 : Int) == 1) = true := rfl
      simp only [txt, q1, cond_true] at hlen ⊢
      rw [hf, Option.bind_some]
      dsimp only
      rw [h53a_is _ _ hlen, Option.bind_some, h53a_o_l0_y]
    · have q1 : (k == 1) = false := by simp [h1]
      rw [q1, cond_false]
      by_cases h2 : k = 2
      · subst h2
        have hb := mayP_2 he.1
        have q2 : ((2 : Int) == 2) = true := rfl
        simp only [txt, q1, q2, cond_true, cond_false] at hlen ⊢
        rw [f54_ok' s (by omega), Option.bind_some]
        dsimp only
        rw [h53a_is _ _ hlen, Option.bind_some, h53a_o_l0_y]
      · have q2 : (k == 2) = false := by simp [h2]
        rw [q2, cond_false]
        have hm : (k == 4) = true → keys.length = items.length ∧ ∀ j (hj : j < keys.length), keys[j].length ≤ 4000 := fun h => by
          have := beq_iff_eq.1 h; subst this
          have h5 := mayP_4 he.1
          exact ⟨h5.1, fun j hj => kok_tok h5.2 hj⟩
        by_cases h4 : k = 4
        · subst h4
          have q4 : ((4 : Int) == 4) = true := rfl
          simp only [txt, q1, q2, q4, cond_true, cond_false, List.length_cons, List.length_append, List.length_nil] at hlen ⊢
          have := h34a_list (h34a_S n).1 (h34a_S n).2 123 125 4 a s items keys l (by omega) hm (by rw [q4]; omega) ih
          rw [q4] at this
          exact this
        · have q4 : (k == 4) = false := by simp [h4]
          simp only [txt, q1, q2, q4, cond_false, List.length_cons, List.length_append, List.length_nil] at hlen ⊢
          have := h34a_list (h34a_S n).1 (h34a_S n).2 91 93 k a s items keys l (by omega) hm (by rw [q4]; omega) ih
          rw [q4] at this
          exact this
theorem h34a_is (v : V) (l : List Int) (hc : cnt v ≤ 3000) (he : each v = true) (hlen : l.length + (txt v).length ≤ 4294967296) : h34a_F (h34a_y v.kind v.n v.s v.items v.keys l) = some (h34a_o_y (l ++ bytesOf (txt v))) := by
  unfold h34a_F
  exact wr_ok recN v l (by have := dep_le v; rw [recN_eq]; omega) hc he hlen
theorem h34_is : ∀ (v : V), cnt v ≤ 3000 → each v = true → (txt v).length ≤ 4294967296 → h34_F (h34_y v.kind v.n v.s v.items v.keys) = some (h34_o_y (bytesOf (txt v)))
  | .mk k a s items keys, hcn, hee, hlen => by
    have he := each_items hee
    simp only [cnt] at hcn
    have hl := cntL_len items
    have ih : ∀ v ∈ items, ∀ l : List Int, l.length + (txt v).length ≤ 4294967296 → h34a_F (h34a_y v.kind v.n v.s v.items v.keys l) = some (h34a_o_y (l ++ bytesOf (txt v))) := fun v hv l h => h34a_is v l (by have := cnt_mem hv; omega) (he.2 v hv) h
    show h34_F (h34_y k a s items keys) = _
    rw [h34_eq]
    by_cases h1 : k = 1
    · subst h1
      have hb := mayP_1 he.1
      have hf := format_is hb.1 hb.2
      have q1 : ((1 : Int) == 1) = true := rfl
      simp only [txt, q1, cond_true] at hlen ⊢
      rw [hf, Option.bind_some]
      dsimp only
      rw [h53_is _ hlen, Option.bind_some, h53_o_l0_y]
    · have q1 : (k == 1) = false := by simp [h1]
      rw [q1, cond_false]
      by_cases h2 : k = 2
      · subst h2
        have hb := mayP_2 he.1
        have q2 : ((2 : Int) == 2) = true := rfl
        simp only [txt, q1, q2, cond_true, cond_false] at hlen ⊢
        rw [f54_ok' s (by omega), Option.bind_some]
        dsimp only
        rw [h53_is _ hlen, Option.bind_some, h53_o_l0_y]
      · have q2 : (k == 2) = false := by simp [h2]
        rw [q2, cond_false]
        have hm : (k == 4) = true → keys.length = items.length ∧ ∀ j (hj : j < keys.length), keys[j].length ≤ 4000 := fun h => by
          have := beq_iff_eq.1 h; subst this
          have h5 := mayP_4 he.1
          exact ⟨h5.1, fun j hj => kok_tok h5.2 hj⟩
        by_cases h4 : k = 4
        · subst h4
          have q4 : ((4 : Int) == 4) = true := rfl
          simp only [txt, q1, q2, q4, cond_true, cond_false, List.length_cons, List.length_append, List.length_nil] at hlen ⊢
          have := h34_list  123 125 4 a s items keys (by omega) hm (by rw [q4]; omega) ih
          rw [q4] at this
          exact this
        · have q4 : (k == 4) = false := by simp [h4]
          simp only [txt, q1, q2, q4, cond_false, List.length_cons, List.length_append, List.length_nil] at hlen ⊢
          have := h34_list  91 93 k a s items keys (by omega) hm (by rw [q4]; omega) ih
          rw [q4] at this
          exact this
theorem txt_small (v : V) (hc : cnt v ≤ 3000) (he : each v = true) : (txt v).length ≤ 51000000 := by
  have := txt_len (dep v) v (Nat.le_refl _) he
  omega
/-- What Print tells. -/
def prn (v : V) : List UInt8 × Int := if right v = true then (txt v, 0) else ([], 1)
theorem f14_ok' (v : V) (hc : cnt v ≤ 3000) : f14_F (va v, ()) = some ((prn v).1, ((prn v).2, ())) := by
  have h1 := f19_ok' v hc
  have h2 := h34_is v hc
  obtain ⟨k, n, s, items, keys⟩ := v
  rw [va_mk] at *
  rw [f14_eq, h1, Option.bind_some]
  unfold prn
  have h2' : each (.mk k n s items keys) = true → (txt (.mk k n s items keys)).length ≤ 4294967296 → h34_F (h34_y k n s items keys) = some (h34_o_y (bytesOf (txt (.mk k n s items keys)))) := h2
  generalize hv : V.mk k n s items keys = v at *
  cases hr : right v with
  | false => rfl
  | true =>
    have he : each v = true := by
      unfold right at hr
      simp only [Bool.and_eq_true] at hr
      exact hr.2.2
    have hs := txt_small v hc he
    dsimp only
    rw [Bool.not_true, cond_false, h2' he (by omega), Option.bind_some, h34_o_l0_y, if_pos rfl]
    have h35 : h35_F (h35_y (bytesOf (txt v))) = some (h35_o_y (txt v)) := by
      show (if bytesOf (strOf (bytesOf (txt v))) = bytesOf (txt v) ∧ (bytesOf (txt v)).length ≤ 4294967296 then some (h35_o_y (strOf (bytesOf (txt v)))) else none) = _
      rw [strOf_bytesOf, if_pos ⟨rfl, by rw [bytesOf_len]; omega⟩]
    rw [h35, Option.bind_some, h35_o_x0_y]
/-! As the law tells it. -/
theorem ref_items (G : argsDen f21_ps → Option (argsDen f21_rs)) (hG : Sound Tryd.prog 21 (pfun G)) (k n : Int) (s : List UInt8) (items : List V) (keys : List (List UInt8)) (hl : items.length ≤ 4000) (hm : (k == 4) = true → keys.length = items.length ∧ ∀ j (hj : j < keys.length), keys[j].length ≤ 4000)
    (hlen : (txtL (k == 4) 0 keys items).length ≤ 4294967296) (ih : ∀ v ∈ items, G (va v, ()) = some (txt v, ())) :
    go (f21_p2_st G hG) (f21_p2_y ([] : List UInt8) items (items.length : Int) (0 : Int) k n s items keys) = some (f21_p2_o0_y (txtL (k == 4) 0 keys items) k n s items keys) := by
  have e := go_seq (step := f21_p2_st G hG) (y := fun i => f21_p2_y (txtL (k == 4) 0 keys (items.take i)) items (items.length : Int) (i : Int) k n s items keys) (n := items.length) (r := some (f21_p2_o0_y (txtL (k == 4) 0 keys items) k n s items keys)) (fun i hi rec => by
    have hle := txtL_take_le (k == 4) keys items (i + 1)
    rw [txtL_take _ _ hi] at hle ⊢
    generalize txtL (k == 4) 0 keys (items.take i) = L at *
    have hLl : L.length + (pre (k == 4) keys i).length + (txt items[i]).length ≤ 4294967296 := by
      simp only [List.length_append] at *; omega
    rw [f21_p2_eq, lt_t hi, cond_true, nth_lt hi, Option.bind_some, f21_p1_eq]
    have hc : (bif decide (((i : Nat) : Int) > (0 : Int)) then (if L.length + ([44] : List UInt8).length ≤ 4611686018427387904 then (some ((f21_p1_o0_y (L ++ ([44] : List UInt8)) (i : Int) items (items.length : Int) (i : Int) k n s items keys items[i].kind items[i].n items[i].s items[i].items items[i].keys))) else none) else (some ((f21_p1_o0_y L (i : Int) items (items.length : Int) (i : Int) k n s items keys items[i].kind items[i].n items[i].s items[i].items items[i].keys)))) = some (f21_p1_o0_y (L ++ (bif decide (0 < i) then [44] else [])) (i : Int) items (items.length : Int) (i : Int) k n s items keys items[i].kind items[i].n items[i].s items[i].items items[i].keys) := by
      by_cases h0 : 0 < i
      · have e1 : decide ((i : Int) > 0) = true := by simp; omega
        have e2 : decide (0 < i) = true := by simp [h0]
        rw [e1, e2, cond_true, cond_true, if_pos (by simp only [List.length_singleton]; omega)]
      · have e1 : decide ((i : Int) > 0) = false := by simp; omega
        have e2 : decide (0 < i) = false := by simp [h0]
        rw [e1, e2, cond_false, cond_false, List.append_nil]
    rw [hc, Option.bind_some]
    simp only [f21_p1_o0_x3_y, f21_p1_o0_x4_y, f21_p1_o0_x19_y, f21_p1_o0_x20_y, f21_p1_o0_x21_y, f21_p1_o0_r0_0_y, f21_p1_o0_r0_1_y, f21_p1_o0_r0_2_y, f21_p1_o0_r0_3_y, f21_p1_o0_r0_4_y, f21_p1_o0_r1_0_y, f21_p1_o0_r1_1_y, f21_p1_o0_r1_2_y, f21_p1_o0_r1_3_y, f21_p1_o0_r1_4_y]
    rw [f21_p0_eq]
    have hk : (bif (k == (4 : Int)) then ((nth keys ((i : Nat) : Int)).bind fun y143 => (f40_F (y143, ())).bind fun r144 => if (L ++ (bif decide (0 < i) then [44] else [])).length + r144.1.length ≤ 4611686018427387904 then (if ((L ++ (bif decide (0 < i) then [44] else [])) ++ r144.1).length + ([58] : List UInt8).length ≤ 4611686018427387904 then (some ((f21_p0_o0_y (((L ++ (bif decide (0 < i) then [44] else [])) ++ r144.1) ++ ([58] : List UInt8)) items (items.length : Int) (i : Int) k n s items keys items[i].kind items[i].n items[i].s items[i].items items[i].keys))) else none) else none) else (some ((f21_p0_o0_y (L ++ (bif decide (0 < i) then [44] else [])) items (items.length : Int) (i : Int) k n s items keys items[i].kind items[i].n items[i].s items[i].items items[i].keys)))) = some (f21_p0_o0_y (L ++ pre (k == 4) keys i) items (items.length : Int) (i : Int) k n s items keys items[i].kind items[i].n items[i].s items[i].items items[i].keys) := by
      unfold pre at hLl ⊢
      cases hk4 : (k == 4) with
      | false => rw [cond_false, cond_false, List.append_nil]
      | true =>
        obtain ⟨hkl, hk2⟩ := hm hk4
        have hik : i < keys.length := by omega
        rw [hk4, getD_lt hik] at hLl
        rw [cond_true, cond_true, nth_lt hik, Option.bind_some, f40_ok' _ (by have := hk2 i hik; omega), Option.bind_some, getD_lt hik]
        simp only [cond_true, List.length_append, List.length_singleton] at hLl
        dsimp only
        rw [if_pos (by simp only [List.length_append]; omega), if_pos (by simp only [List.length_append, List.length_singleton]; omega)]
        simp only [List.append_assoc]
    rw [hk, Option.bind_some]
    simp only [f21_p0_o0_x3_y, f21_p0_o0_x19_y, f21_p0_o0_x20_y, f21_p0_o0_x21_y, f21_p0_o0_r0_0_y, f21_p0_o0_r0_1_y, f21_p0_o0_r0_2_y, f21_p0_o0_r0_3_y, f21_p0_o0_r0_4_y, f21_p0_o0_r1_0_y, f21_p0_o0_r1_1_y, f21_p0_o0_r1_2_y, f21_p0_o0_r1_3_y, f21_p0_o0_r1_4_y]
    rw [va_eta, ih _ (List.getElem_mem hi), Option.bind_some]
    dsimp only
    rw [if_pos (by simp only [List.length_append]; omega), nx (by omega), List.append_assoc]) (fun rec => by rw [f21_p2_eq]; simp only [Int.lt_irrefl, decide_false, cond_false, List.take_length]) (by rw [fuel_def]; omega)
  exact e
theorem f21_next (n : Nat) : (f21_S (n + 1)).1 = f21_b (f21_S n).1 (f21_S n).2 := by kernel_rfl
theorem ref_ok : ∀ (n : Nat) (v : V), dep v ≤ n → cnt v ≤ 3000 → each v = true → (f21_S n).1 (va v, ()) = some (txt v, ())
  | 0, v, h, _, _ => by have := dep_pos v; omega
  | n + 1, .mk k a s items keys, hd, hcn, hee => by
    have he := each_items hee
    have hlen := txt_small _ hcn hee
    simp only [dep, cnt] at hd hcn
    have hl := cntL_len items
    have ih : ∀ v ∈ items, (f21_S n).1 (va v, ()) = some (txt v, ()) := fun v hv => ref_ok n v (by have := dep_mem hv; omega) (by have := cnt_mem hv; omega) (he.2 v hv)
    rw [f21_next, va_mk, f21_eq]
    by_cases h1 : k = 1
    · subst h1
      have hb := mayP_1 he.1
      have hf := format_is hb.1 hb.2
      have q1 : ((1 : Int) == 1) = true := rfl
      simp only [txt, q1, cond_true, hf, Option.bind_some]
    · have q1 : (k == 1) = false := by simp [h1]
      rw [q1, cond_false]
      by_cases h2 : k = 2
      · subst h2
        have hb := mayP_2 he.1
        have q2 : ((2 : Int) == 2) = true := rfl
        simp only [txt, q1, q2, cond_true, cond_false, f40_ok' s (show s.length ≤ 1000000 by omega), Option.bind_some]
      · have q2 : (k == 2) = false := by simp [h2]
        rw [q2, cond_false]
        have hm : (k == 4) = true → keys.length = items.length ∧ ∀ j (hj : j < keys.length), keys[j].length ≤ 4000 := fun h => by
          have := beq_iff_eq.1 h; subst this
          have h5 := mayP_4 he.1
          exact ⟨h5.1, fun j hj => kok_tok h5.2 hj⟩
        have hlen2 : (txtL (k == 4) 0 keys items).length + 2 ≤ 51000000 := by
          simp only [txt, q1, q2, cond_false] at hlen
          revert hlen
          cases k == 4 <;> intro hlen <;> simpa using hlen
        rw [ref_items _ _ k a s items keys (by omega) hm (by omega) ih, Option.bind_some, f21_p2_o0_r0_0_y, f21_p2_o0_x3_y]
        simp only [txt, q1, q2, cond_false]
        revert hlen2
        cases k == 4 with
        | true =>
          intro hlen2
          rw [cond_true, cond_true, if_pos (by simp only [List.length_singleton]; omega), if_pos (by simp only [List.length_append, List.length_singleton]; omega)]; rfl
        | false =>
          intro hlen2
          rw [cond_false, cond_false, if_pos (by simp only [List.length_singleton]; omega), if_pos (by simp only [List.length_append, List.length_singleton]; omega)]; rfl
theorem f21_ok' (v : V) (hc : cnt v ≤ 3000) (he : each v = true) : f21_F (va v, ()) = some (txt v, ()) := by
  unfold f21_F
  exact ref_ok recN v (by have := dep_le v; rw [recN_eq]; omega) hc he
end Go.Pe.Tryd
