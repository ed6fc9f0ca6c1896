/- Texts of values are told apart. -/
import Derived.Test.YtgghmllnhaahgaaDoorPeXV12
set_option linter.unusedSectionVars false
set_option linter.unusedVariables false
set_option linter.unusedSimpArgs false
namespace Go.Pe.Tryd
open Go.Proofs Go.RowKit
set_option maxRecDepth 100000
def isnum (b : UInt8) : Bool := decide (b.toNat = 45) || (decide (48 ≤ b.toNat) && decide (b.toNat ≤ 57))
def Sep (r : List UInt8) : Prop := ∀ b, r.head? = some b → b = 44 ∨ b = 93 ∨ b = 125
theorem dig_toNat {d : Nat} (h : d < 10) : (UInt8.ofNat (48 + d)).toNat = 48 + d := by simp; omega
theorem dec_dig : ∀ (k u : Nat), u < 10 ^ (k + 1) → ∀ b ∈ Lib.decDigits u, 48 ≤ b.toNat ∧ b.toNat ≤ 57
  | 0, u, h, b, hb => by
    have hu : u < 10 := by simpa using h
    rw [Lib.decDigits, dif_pos hu, List.mem_singleton] at hb
    subst hb; rw [dig_toNat hu]; omega
  | k + 1, u, h, b, hb => by
    rw [Lib.decDigits] at hb
    split at hb
    · rename_i hu
      rw [List.mem_singleton] at hb
      subst hb; rw [dig_toNat hu]; omega
    · rcases List.mem_append.1 hb with hb | hb
      · exact dec_dig k (u / 10) (by rw [Nat.pow_succ] at h; omega) b hb
      · rw [List.mem_singleton] at hb
        subst hb; rw [dig_toNat (by omega)]; omega
def dval (l : List UInt8) : Nat := l.foldl (fun a b => a * 10 + (b.toNat - 48)) 0
theorem dec_val : ∀ (k u : Nat), u < 10 ^ (k + 1) → dval (Lib.decDigits u) = u
  | 0, u, h => by
    have hu : u < 10 := by simpa using h
    rw [Lib.decDigits, dif_pos hu]
    simp only [dval, List.foldl_cons, List.foldl_nil]
    rw [dig_toNat hu]; omega
  | k + 1, u, h => by
    rw [Lib.decDigits]
    split
    · rename_i hu
      simp only [dval, List.foldl_cons, List.foldl_nil]
      rw [dig_toNat hu]; omega
    · have ih := dec_val k (u / 10) (by rw [Nat.pow_succ] at h; omega)
      unfold dval at ih ⊢
      rw [List.foldl_append, ih]
      simp only [List.foldl_cons, List.foldl_nil]
      rw [dig_toNat (by omega)]; omega
theorem dec_ne (u : Nat) : Lib.decDigits u ≠ [] := by
  rw [Lib.decDigits]; split <;> simp
theorem pow13 : (10 : Nat) ^ 13 = 10000000000000 := by decide
theorem itoa_num {n : Int} (h1 : -1099511627776 ≤ n) (h2 : n ≤ 1099511627776) : ∀ b ∈ Lib.itoa n, isnum b = true := by
  intro b hb
  unfold Lib.itoa at hb
  split at hb
  · rcases List.mem_cons.1 hb with rfl | hb
    · rfl
    · have := dec_dig 12 n.natAbs (by rw [pow13]; omega) b hb
      unfold isnum; simp [this.1, this.2]
  · have := dec_dig 12 n.toNat (by rw [pow13]; omega) b hb
    unfold isnum; simp [this.1, this.2]
theorem itoa_ne (n : Int) : Lib.itoa n ≠ [] := by
  unfold Lib.itoa
  split
  · simp
  · exact dec_ne _
theorem itoa_inj {n m : Int} (h1 : -1099511627776 ≤ n) (h2 : n ≤ 1099511627776) (h3 : -1099511627776 ≤ m) (h4 : m ≤ 1099511627776) (h : Lib.itoa n = Lib.itoa m) : n = m := by
  have nodash : ∀ (x u : Nat) (t : List UInt8), u < 10 ^ 13 → 45 :: t ≠ Lib.decDigits u := by
    intro x u t hu e
    have := dec_dig 12 u hu 45 (by rw [← e]; simp)
    have h45 : (45 : UInt8).toNat = 45 := rfl
    omega
  unfold Lib.itoa at h
  by_cases c1 : n < 0 <;> by_cases c2 : m < 0
  · rw [if_pos c1, if_pos c2, List.cons.injEq] at h
    have e := congrArg dval h.2
    rw [dec_val 12 _ (by rw [pow13]; omega), dec_val 12 _ (by rw [pow13]; omega)] at e
    omega
  · rw [if_pos c1, if_neg c2] at h
    exact absurd h (nodash 0 _ _ (by rw [pow13]; omega))
  · rw [if_neg c1, if_pos c2] at h
    exact absurd h.symm (nodash 0 _ _ (by rw [pow13]; omega))
  · rw [if_neg c1, if_neg c2] at h
    have e := congrArg dval h
    rw [dec_val 12 _ (by rw [pow13]; omega), dec_val 12 _ (by rw [pow13]; omega)] at e
    omega
theorem tw {l r : List UInt8} (hl : ∀ b ∈ l, isnum b = true) (hr : Sep r) : (l ++ r).takeWhile isnum = l := by
  rw [List.takeWhile_append_of_pos hl]
  cases r with
  | nil => simp
  | cons b r =>
    have : isnum b = false := by
      rcases hr b rfl with rfl | rfl | rfl <;> rfl
    simp [this]
theorem esc_inj : ∀ (s t r r' : List UInt8), esc s ++ 34 :: r = esc t ++ 34 :: r' → s = t ∧ r = r'
  | [], [], r, r', h => by simpa [esc] using h
  | [], c :: t, r, r', h => by
    have e : esc (c :: t) = (if c = 34 ∨ c = 92 then [92, c] else [c]) ++ esc t := rfl
    rw [e] at h
    split at h
    · simp [esc] at h
    · rename_i hc
      simp only [esc, List.flatMap_nil, List.nil_append, List.cons_append, List.cons.injEq] at h
      exact absurd (.inl h.1.symm) hc
  | b :: s, [], r, r', h => by
    have e : esc (b :: s) = (if b = 34 ∨ b = 92 then [92, b] else [b]) ++ esc s := rfl
    rw [e] at h
    split at h
    · simp [esc] at h
    · rename_i hc
      simp only [esc, List.flatMap_nil, List.nil_append, List.cons_append, List.cons.injEq] at h
      exact absurd (.inl h.1) hc
  | b :: s, c :: t, r, r', h => by
    have e : esc (b :: s) = (if b = 34 ∨ b = 92 then [92, b] else [b]) ++ esc s := rfl
    have e' : esc (c :: t) = (if c = 34 ∨ c = 92 then [92, c] else [c]) ++ esc t := rfl
    rw [e, e'] at h
    split at h <;> split at h
    · simp only [List.cons_append, List.nil_append, List.cons.injEq] at h
      obtain ⟨_, h2, h3⟩ := h
      have := esc_inj s t r r' h3
      exact ⟨by rw [h2, this.1], this.2⟩
    · rename_i h1 h2
      simp only [List.cons_append, List.nil_append, List.cons.injEq] at h
      exact absurd (.inr h.1.symm) h2
    · rename_i h1 h2
      simp only [List.cons_append, List.nil_append, List.cons.injEq] at h
      exact absurd (.inr h.1) h1
    · simp only [List.cons_append, List.nil_append, List.cons.injEq] at h
      have := esc_inj s t r r' h.2
      exact ⟨by rw [h.1, this.1], this.2⟩
theorem quo_inj {s t r r' : List UInt8} (h : quo s ++ r = quo t ++ r') : s = t ∧ r = r' := by
  unfold quo at h
  simp only [List.cons_append, List.append_assoc, List.cons.injEq, true_and, List.nil_append] at h
  exact esc_inj s t r r' h
/-! Of values that may be. -/
theorem noIt_nil {items : List V} {keys : List (List UInt8)} (h : noIt items keys = true) : items = [] ∧ keys = [] := by
  unfold noIt at h
  by_cases hi : items.length = 0
  · have : ((items.length : Int) == 0) = true := by simp [hi]
    rw [this, cond_true] at h
    have : keys.length = 0 := by have := beq_iff_eq.1 h; omega
    exact ⟨List.eq_nil_of_length_eq_zero hi, List.eq_nil_of_length_eq_zero this⟩
  · have : ((items.length : Int) == 0) = false := by simp; intro e; exact hi (by rw [e]; rfl)
    rw [this, cond_false] at h; cases h
inductive Form : V → Prop
  | num (n : Int) (h1 : -1099511627776 ≤ n) (h2 : n ≤ 1099511627776) : Form (.mk 1 n [] [] [])
  | str (s : List UInt8) : Form (.mk 2 0 s [] [])
  | lst (items : List V) : Form (.mk 3 0 [] items [])
  | map (items : List V) (keys : List (List UInt8)) (h : keys.length = items.length) : Form (.mk 4 0 [] items keys)
theorem form_of {k n : Int} {s : List UInt8} {items : List V} {keys : List (List UInt8)} (h : mayP k n s items keys = true) : Form (.mk k n s items keys) := by
  unfold mayP at h
  by_cases h1 : k = 1
  · subst h1
    have q : ((1 : Int) == 1) = true := rfl
    rw [q, cond_true] at h
    simp only [Bool.and_eq_true, beq_iff_eq, decide_eq_true_eq] at h
    obtain ⟨ha, hb, hc, hd⟩ := h
    obtain ⟨rfl, rfl⟩ := noIt_nil ha
    subst hb
    exact .num n hc hd
  · have q1 : (k == 1) = false := by simp [h1]
    rw [q1, cond_false] at h
    by_cases h2 : k = 2
    · subst h2
      have q : ((2 : Int) == 2) = true := rfl
      rw [q, cond_true] at h
      simp only [Bool.and_eq_true, beq_iff_eq] at h
      obtain ⟨ha, hb, _⟩ := h
      obtain ⟨rfl, rfl⟩ := noIt_nil ha
      subst hb
      exact .str s
    · have q2 : (k == 2) = false := by simp [h2]
      rw [q2, cond_false] at h
      by_cases h3 : k = 3
      · subst h3
        have q : ((3 : Int) == 3) = true := rfl
        rw [q, cond_true] at h
        simp only [Bool.and_eq_true, beq_iff_eq] at h
        obtain ⟨ha, hb, hc⟩ := h
        have hc' : keys = [] := List.eq_nil_of_length_eq_zero (by omega)
        subst ha; subst hb; subst hc'
        exact .lst items
      · have q3 : (k == 3) = false := by simp [h3]
        rw [q3, cond_false] at h
        simp only [Bool.and_eq_true, beq_iff_eq] at h
        obtain ⟨ha, hb, hc, hd, _⟩ := h
        subst ha; subst hb; subst hc
        exact .map items keys (by omega)
theorem txt_1 (n : Int) : txt (.mk 1 n [] [] []) = Lib.itoa n := by simp [txt]
theorem txt_2 (s : List UInt8) : txt (.mk 2 0 s [] []) = quo s := by simp [txt]
theorem txt_3 (items : List V) : txt (.mk 3 0 [] items []) = 91 :: (txtL false 0 [] items ++ [93]) := by simp [txt]
theorem txt_4 (items : List V) (keys : List (List UInt8)) : txt (.mk 4 0 [] items keys) = 123 :: (txtL true 0 keys items ++ [125]) := by simp [txt]
theorem each_form {v : V} (h : each v = true) : Form v ∧ ∀ w ∈ v.items, each w = true := by
  obtain ⟨k, n, s, items, keys⟩ := v
  have := each_items h
  exact ⟨form_of this.1, this.2⟩
/-- The first byte. -/
theorem txt_head {v : V} (h : Form v) : ∃ b t, txt v = b :: t ∧ b ≠ 93 ∧ b ≠ 125 ∧ b ≠ 44 ∧ ((v.kind = 1 ∧ isnum b = true) ∨ (v.kind = 2 ∧ b = 34) ∨ (v.kind = 3 ∧ b = 91) ∨ (v.kind = 4 ∧ b = 123)) := by
  cases h with
  | num n h1 h2 =>
    rw [txt_1]
    cases hi : Lib.itoa n with
    | nil => exact absurd hi (itoa_ne n)
    | cons b t =>
      have hb := itoa_num h1 h2 b (by rw [hi]; simp)
      refine ⟨b, t, rfl, ?_, ?_, ?_, .inl ⟨rfl, hb⟩⟩ <;> (rintro rfl; exact absurd hb (by decide))
  | str s => rw [txt_2]; exact ⟨34, _, rfl, by decide, by decide, by decide, .inr (.inl ⟨rfl, rfl⟩)⟩
  | lst items => rw [txt_3]; exact ⟨91, _, rfl, by decide, by decide, by decide, .inr (.inr (.inl ⟨rfl, rfl⟩))⟩
  | map items keys hk => rw [txt_4]; exact ⟨123, _, rfl, by decide, by decide, by decide, .inr (.inr (.inr ⟨rfl, rfl⟩))⟩
def Apart (v : V) : Prop := ∀ w r r', each w = true → Sep r → Sep r' → txt v ++ r = txt w ++ r' → v = w ∧ r = r'
/-- What begins a row's next item. -/
theorem items_hd (m : Bool) (i : Nat) (keys : List (List UInt8)) (w : V) (l : List V) (x : List UInt8) (hw : each w = true) : ∃ b t, txtL m i keys (w :: l) ++ x = b :: t ∧ b ≠ 93 ∧ b ≠ 125 ∧ (0 < i → b = 44) := by
  simp only [txtL]
  by_cases hi : 0 < i
  · rw [decide_eq_true hi, cond_true]
    exact ⟨44, _, rfl, by decide, by decide, fun _ => rfl⟩
  · rw [decide_eq_false hi, cond_false, List.nil_append]
    cases m with
    | true => exact ⟨34, _, rfl, by decide, by decide, fun h => absurd h hi⟩
    | false =>
      obtain ⟨b, t, e, h1, h2, _⟩ := txt_head (each_form hw).1
      rw [cond_false, List.nil_append, e]
      exact ⟨b, _, rfl, h1, h2, fun h => absurd h hi⟩
theorem sep_tail (m : Bool) (i : Nat) (keys : List (List UInt8)) (l : List V) (c : UInt8) (r : List UInt8) (hc : c = 93 ∨ c = 125) (hl : ∀ w ∈ l, each w = true) (hi : 0 < i) : Sep (txtL m i keys l ++ c :: r) := by
  intro b hb
  cases l with
  | nil =>
    simp only [txtL, List.nil_append, List.head?_cons, Option.some.injEq] at hb
    subst hb; exact .inr hc
  | cons w l =>
    obtain ⟨b', t, e, _, _, h⟩ := items_hd m i keys w l (c :: r) (hl w (by simp))
    rw [e, List.head?_cons, Option.some.injEq] at hb
    subst hb; exact .inl (h hi)
theorem items_inj (m : Bool) (c : UInt8) (hc : c = 93 ∨ c = 125) : ∀ (l l' : List V) (i : Nat) (keys keys' : List (List UInt8)) (r r' : List UInt8), (∀ v ∈ l, each v = true ∧ Apart v) → (∀ w ∈ l', each w = true) →
    txtL m i keys l ++ c :: r = txtL m i keys' l' ++ c :: r' → l = l' ∧ r = r' ∧ (m = true → ∀ j, i ≤ j → j < i + l.length → keys.getD j [] = keys'.getD j [])
  | [], [], i, keys, keys', r, r', _, _, h => by
    simp only [txtL, List.nil_append, List.cons.injEq, true_and] at h
    exact ⟨rfl, h, fun _ j h1 h2 => by simp at h2; omega⟩
  | [], w :: l', i, keys, keys', r, r', _, hw, h => by
    obtain ⟨b, t, e, h1, h2, _⟩ := items_hd m i keys' w l' (c :: r') (hw w (by simp))
    rw [e] at h
    simp only [txtL, List.nil_append, List.cons.injEq] at h
    rcases hc with rfl | rfl
    · exact absurd h.1.symm h1
    · exact absurd h.1.symm h2
  | v :: l, [], i, keys, keys', r, r', hv, _, h => by
    obtain ⟨b, t, e, h1, h2, _⟩ := items_hd m i keys v l (c :: r) (hv v (by simp)).1
    rw [e] at h
    simp only [txtL, List.nil_append, List.cons.injEq] at h
    rcases hc with rfl | rfl
    · exact absurd h.1 h1
    · exact absurd h.1 h2
  | v :: l, w :: l', i, keys, keys', r, r', hv, hw, h => by
    simp only [txtL, List.append_assoc] at h
    have h := List.append_cancel_left h
    have hk : (m = true → keys.getD i [] = keys'.getD i []) ∧ txt v ++ (txtL m (i + 1) keys l ++ c :: r) = txt w ++ (txtL m (i + 1) keys' l' ++ c :: r') := by
      cases m with
      | false => exact ⟨(fun h => by cases h), by simpa only [cond_false, List.nil_append] using h⟩
      | true =>
        simp only [cond_true, List.append_assoc] at h
        obtain ⟨h1, h2⟩ := quo_inj h
        exact ⟨fun _ => h1, List.append_cancel_left h2⟩
    obtain ⟨e1, e2⟩ := (hv v (by simp)).2 w _ _ (hw w (by simp)) (sep_tail m (i + 1) keys l c r hc (fun x hx => (hv x (by simp [hx])).1) (by omega)) (sep_tail m (i + 1) keys' l' c r' hc (fun x hx => hw x (by simp [hx])) (by omega)) hk.2
    obtain ⟨e3, e4, e5⟩ := items_inj m c hc l l' (i + 1) keys keys' r r' (fun x hx => hv x (by simp [hx])) (fun x hx => hw x (by simp [hx])) e2
    refine ⟨by rw [e1, e3], e4, fun hm j h1 h2 => ?_⟩
    rcases Nat.lt_or_ge i j with hj | hj
    · exact e5 hm j (by omega) (by simp at h2; omega)
    · have : j = i := by omega
      subst this; exact hk.1 hm
theorem txt_apart : ∀ (n : Nat) (v : V), dep v ≤ n → each v = true → Apart v
  | 0, v, h, _ => by have := dep_pos v; omega
  | n + 1, v, hd, he => by
    intro w r r' hw hr hr' h
    obtain ⟨fv, iv⟩ := each_form he
    obtain ⟨fw, iw⟩ := each_form hw
    have hkind : v.kind = w.kind := by
      obtain ⟨b, t, e, _, _, _, hb⟩ := txt_head fv
      obtain ⟨b', t', e', _, _, _, hb'⟩ := txt_head fw
      rw [e, e', List.cons_append, List.cons_append, List.cons.injEq] at h
      have hbb := h.1
      subst hbb
      rcases hb with ⟨q, p⟩ | ⟨q, p⟩ | ⟨q, p⟩ | ⟨q, p⟩ <;> rcases hb' with ⟨q', p'⟩ | ⟨q', p'⟩ | ⟨q', p'⟩ | ⟨q', p'⟩ <;> first | (rw [q, q']; done) | (subst p; exact absurd p' (by decide)) | (subst p'; exact absurd p (by decide))
    have ih : ∀ x ∈ v.items, each x = true ∧ Apart x := fun x hx => ⟨iv x hx, txt_apart n x (by
      have h1 := dep_mem hx
      cases v with
      | mk k a s items keys => simp only [dep, V.items] at hd h1; omega) (iv x hx)⟩
    cases fv with
    | num a h1 h2 =>
      cases fw with
      | num a' h3 h4 =>
        rw [txt_1, txt_1] at h
        have e := congrArg (List.takeWhile isnum) h
        rw [tw (itoa_num h1 h2) hr, tw (itoa_num h3 h4) hr'] at e
        have e2 := itoa_inj h1 h2 h3 h4 e
        subst e2
        exact ⟨rfl, List.append_cancel_left h⟩
      | str s => cases hkind
      | lst items => cases hkind
      | map items keys hk => cases hkind
    | str s =>
      cases fw with
      | str t =>
        rw [txt_2, txt_2] at h
        obtain ⟨h1, h2⟩ := quo_inj h
        exact ⟨by rw [h1], h2⟩
      | num a h1 h2 => cases hkind
      | lst items => cases hkind
      | map items keys hk => cases hkind
    | lst items =>
      cases fw with
      | lst items' =>
        rw [txt_3, txt_3] at h
        simp only [List.cons_append, List.append_assoc, List.cons.injEq, true_and, List.nil_append] at h
        obtain ⟨h1, h2, _⟩ := items_inj false 93 (.inl rfl) items items' 0 [] [] r r' ih iw h
        exact ⟨by rw [h1], h2⟩
      | num a h1 h2 => cases hkind
      | str s => cases hkind
      | map items keys hk => cases hkind
    | map items keys hk =>
      cases fw with
      | map items' keys' hk' =>
        rw [txt_4, txt_4] at h
        simp only [List.cons_append, List.append_assoc, List.cons.injEq, true_and, List.nil_append] at h
        obtain ⟨h1, h2, h3⟩ := items_inj true 125 (.inr rfl) items items' 0 keys keys' r r' ih iw h
        have hkk : keys = keys' := List.ext_getElem (by rw [hk, hk', h1]) fun j h4 h5 => by
          have := h3 rfl j (by omega) (by omega)
          rwa [getD_lt h4, getD_lt h5] at this
        exact ⟨by rw [h1, hkk], h2⟩
      | num a h1 h2 => cases hkind
      | str s => cases hkind
      | lst items => cases hkind
theorem lawOne (v w : V) (hv : WfV reachBytes v) (hw : WfV reachBytes w) : f5_F (va v, (va w, ())) = some (true, ()) :=
  lawOne_of v w hv hw fun h1 h2 h => (txt_apart (dep v) v (Nat.le_refl _) h1 w [] [] h2 (fun b hb => by cases hb) (fun b hb => by cases hb) (by simpa using h)).1
end Go.Pe.Tryd
