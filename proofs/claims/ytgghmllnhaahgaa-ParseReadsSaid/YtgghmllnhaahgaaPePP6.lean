/- The parser as a recursion. -/
import Derived.Test.YtgghmllnhaahgaaPePP5
namespace Go.Pe.Try
open Go.Proofs Go.RowKit
set_option maxRecDepth 100000
set_option linter.unusedSimpArgs false
set_option linter.unusedVariables false
def closeM (v : V) (t : List UInt8) : List V → Except Int ((V × List UInt8) ⊕ (List UInt8 × List V))
  | [] => .ok (.inl (v, t))
  | f :: rs => match t with
    | [] => .error 3
    | c :: r => if c = 44 then (if f.kind = 4 then (match keyS f.keys r with | .error e => .error e | .ok (ks, r) => .ok (.inr (r, withK (addV f v) ks :: rs))) else .ok (.inr (r, addV f v :: rs)))
      else if c = clo f.kind then closeM (addV f v) r rs else .error 20
theorem pop_eq (t : List UInt8) (n : Int) (l : List V) (f : V) (h : l.length ≤ 100000) : h24_F (h24_y t n (l ++ [f])) = some (h24_o_y f.kind f.n f.s t n l f.items f.keys) := by
  have hw : IntKind.i64.wrap (((l.length : Int) + 1) - 1) = (l.length : Int) := by rw [wrap64 (by omega) (by omega)]; omega
  rw [h24_eq, lastOf_app, Option.bind_some, appOk_lt (by simp only; omega), hw]
  simp [sameInt]
theorem clo_ne (k : Int) : clo k ≠ 44 := by unfold clo; split <;> decide
theorem set_last {α : Type} (l : List α) (a b : α) : (l ++ [a]).set l.length b = l ++ [b] := by
  induction l with
  | nil => rfl
  | cons x l ih => simp [ih]
/-- The closing of lists, from the inside out. -/
theorem inner_eq (n : Int) (q0 q1 : Int) (q2 : List UInt8) : ∀ (rs : List V) (v : V) (t : List UInt8) (k : Nat), rs.length ≤ 100 → (∀ f ∈ rs, f.items.length ≤ 100000 ∧ f.keys.length ≤ 100000) → rs.length + 2 ≤ k →
    iter h11_p0_st k (h11_p0_y true t n rs.reverse q0 q1 q2 v.kind v.n v.s v.items v.keys) = some (match closeM v t rs with
      | .error e => .inr (.inr (h11_p0_o2_y e))
      | .ok (.inl (v, t)) => .inr (.inl (h11_p0_o1_y t n [] v.kind v.n v.s v.items v.keys))
      | .ok (.inr (t, rs)) => .inl (h11_p0_o0_y t n rs.reverse q0 q1 q2))
  | [], v, t, k, hl, hb, hk => by
    obtain ⟨k, rfl⟩ : ∃ j, k = j + 1 := ⟨k - 1, by omega⟩
    rw [iter, h11_p0_eq]
    simp [closeM]
  | f :: rs, v, t, k, hl, hb, hk => by
    obtain ⟨k, rfl⟩ : ∃ j, k = j + 2 := ⟨k - 2, by simp only [List.length_cons] at hk; omega⟩
    simp only [List.length_cons] at hl hk
    obtain ⟨hfi, hfk⟩ := hb f (by simp)
    have hlr : rs.reverse.length = rs.length := by simp
    have hrev : (f :: rs).reverse = rs.reverse ++ [f] := by simp
    have h0 : (((rs.reverse ++ [f]).length : Int) == 0) = false := by simp; omega
    have hfalse : ∀ (t : List UInt8) (l : List V) (k : Nat) (a b : Int) (c : List UInt8) (d : List V) (e : List (List UInt8)), iter h11_p0_st (k + 1) (h11_p0_y false t n l q0 q1 q2 a b c d e) = some (.inl (h11_p0_o0_y t n l q0 q1 q2)) := by
      intro t l k a b c d e
      rw [iter, h11_p0_eq]; simp
    rw [hrev, iter, h11_p0_eq, h0, cond_true, cond_false, lastOf_app, Option.bind_some]
    simp only
    rw [appOk_lt (by omega), appOk_lt (by simp; omega), within_lt (by simp), show Int.toNat (f.items.length : Int) = f.items.length by simp, List.getElem?_append_right (Nat.le_refl _), Nat.sub_self]
    simp only [List.getElem?_cons_zero, Option.bind_some, set_last]
    rw [end_eq, Option.bind_some]
    simp only
    have hst : strOf [((clo f.kind).toNat : Int)] = [clo f.kind] := by
      rw [show [((clo f.kind).toNat : Int)] = bytesOf [clo f.kind] from rfl, strOf_bytesOf]
    rw [hst, if_pos (by simp), take_eq _ (by simp)]
    have hadd : V.mk f.kind f.n f.s (f.items ++ [V.mk v.kind v.n v.s v.items v.keys]) f.keys = addV f v := by cases v; rfl
    rw [hadd]
    unfold closeM
    cases t with
    | nil => simp
    | cons c r =>
      simp only
      by_cases h44 : c = 44
      · subst h44
        have hm : (44 : UInt8) ∈ ([44] ++ [clo f.kind] : List UInt8) := by simp
        simp only [hm, if_true, Option.bind_some, h22_o_x0_y, h22_o_r0_0_y, h22_o_r0_1_y]
        have hb44 : ((((44 : UInt8).toNat : Int)) != 44) = false := by decide
        rw [hb44, cond_false]
        by_cases h4 : f.kind = 4
        · have : (f.kind == 4) = true := by simpa using h4
          rw [this, cond_true, key_eq _ _ _ _ (by omega) (by simpa [addV, V.keys] using hfk)]
          simp only [h4, if_true]
          rw [show (addV f v).keys = f.keys from rfl]
          cases keyS f.keys r with
          | error e => simp
          | ok p =>
            simp only [Option.bind_some, h25_o_r0_0_y, h25_o_r0_1_y, h25_o_r0_2_y]
            rw [hfalse]; simp
        · have : (f.kind == 4) = false := by simpa using h4
          rw [this, cond_false]
          simp only [h4, if_false]
          rw [hfalse]; simp
      · by_cases hc : c = clo f.kind
        · have hm : c ∈ ([44] ++ [clo f.kind] : List UInt8) := by simp [hc]
          have hn44 : (((c.toNat : Int)) != 44) = true := by
            rw [bne_iff]; intro e; apply h44; rw [← UInt8.toNat_inj]; simp only [UInt8.reduceToNat]; omega
          simp only [hm, if_true, Option.bind_some, h22_o_x0_y, h22_o_r0_0_y, h22_o_r0_1_y, hn44, cond_true, h44, if_false]
          rw [if_pos hc, pop_eq _ _ _ _ (by omega), Option.bind_some]
          simp only [h24_o_r0_0_y, h24_o_r0_1_y, h24_o_r0_2_y, h24_o_x0_0_y, h24_o_x0_1_y, h24_o_x0_2_y, h24_o_l0_y, h24_o_l1_y]
          exact inner_eq n q0 q1 q2 rs (addV f v) r (k + 1) (by omega) (fun g hg => hb g (by simp [hg])) (by omega)
        · have hm : c ∉ ([44] ++ [clo f.kind] : List UInt8) := by simp [h44, hc]
          simp [hm, h44, hc]
/-! ### The recursion -/
def itemsS (G : List UInt8 → Nat → Except Int (V × List UInt8 × Nat)) : Nat → V → List UInt8 → Nat → Except Int (V × List UInt8 × Nat)
  | 0, _, _, _ => .error 99
  | k + 1, f, t, n => match G t n with
    | .error e => .error e
    | .ok (v, t', n') => match t' with
      | [] => .error 3
      | c :: r => if c = 44 then (if f.kind = 4 then (match keyS f.keys r with | .error e => .error e | .ok (ks, r) => itemsS G k (withK (addV f v) ks) r n') else itemsS G k (addV f v) r n')
        else if c = clo f.kind then .ok (addV f v, r, n') else .error 20
def value : Nat → List UInt8 → Nat → Except Int (V × List UInt8 × Nat)
  | 0, t, n => .error 21
  | d + 1, t, n => match beginS (11 - d) n t with
    | .error e => .error e
    | .ok (.inl (v, r)) => .ok (v, r, n + 1)
    | .ok (.inr (f, r)) => itemsS (value d) 2001 f r (n + 1)
theorem numS_len {neg : Bool} {t : List UInt8} {v : Int} {r : List UInt8} (h : numS neg t = .ok (v, r)) : r.length ≤ t.length := by
  unfold numS at h
  split at h
  · cases h
  · split at h
    · cases h
    · cases h
      have := congrArg List.length (tw_dw t); rw [List.length_append] at this; omega
theorem num_len {t : List UInt8} {v : Int} {r : List UInt8} (h : num t = .ok (v, r)) : r.length ≤ t.length := by
  cases t with
  | nil => cases h
  | cons c s =>
    simp only [num] at h
    split at h
    · have := numS_len h; simp only [List.length_cons]; omega
    · exact numS_len h
theorem txt_len : ∀ (k : Nat) {t acc s r : List UInt8}, t.length ≤ k → txt t acc = .ok (s, r) → r.length ≤ t.length
  | k, [], _, _, _, _, h => by simp [txt] at h
  | 0, c :: r', _, _, _, hk, h => by simp at hk
  | k + 1, c :: r', acc, s, r, hk, h => by
    simp only [List.length_cons] at hk ⊢
    unfold txt at h
    split at h
    · cases h
    · split at h
      · cases h; omega
      · split at h
        · split at h
          · cases h
          · rename_i c' r''
            simp only [List.length_cons] at hk ⊢
            split at h
            · split at h
              · cases h
              · have := txt_len k (by omega) h; omega
            · cases h
        · split at h
          · cases h
          · have := txt_len k (by omega) h; omega
theorem keyS_len {keys ks : List (List UInt8)} {t r : List UInt8} (h : keyS keys t = .ok (ks, r)) : r.length ≤ t.length ∧ ks.length = keys.length + 1 := by
  cases t with
  | nil => cases h
  | cons c s =>
    simp only [keyS] at h
    split at h
    · split at h
      · cases h
      · rename_i s' r' htx
        have := txt_len _ (Nat.le_refl _) htx
        split at h
        · cases h
        · split at h
          · cases h
          · split at h
            · cases h; simp only [List.length_cons] at this ⊢; exact ⟨by omega, by simp⟩
            · cases h
    · cases h
end Go.Pe.Try
