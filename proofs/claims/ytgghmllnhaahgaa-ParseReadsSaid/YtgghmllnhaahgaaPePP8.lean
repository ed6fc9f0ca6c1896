/- The reference's keys, told; what is left of a text. -/
import Derived.Test.YtgghmllnhaahgaaPePP7
namespace Go.Pe.Try
open Go.Proofs Go.RowKit
set_option maxRecDepth 100000
set_option linter.unusedSimpArgs false
set_option linter.unusedVariables false
theorem lt_t {i n : Nat} (h : i < n) : decide ((i : Int) < (n : Int)) = true := by simp; omega
theorem nxb {i : Nat} (h : i ≤ 100000) : IntKind.i64.wrap ((i : Int) + 1) = ((i + 1 : Nat) : Int) := by rw [wrap64 (by omega) (by omega)]; rfl
theorem less_drop (a b : List UInt8) (i : Nat) (ha : i < a.length) (hb : i < b.length) : Op.bytesLess (a.drop i) (b.drop i) = (decide (a[i] < b[i]) || (a[i] == b[i] && Op.bytesLess (a.drop (i + 1)) (b.drop (i + 1)))) := by
  rw [List.drop_eq_getElem_cons ha, List.drop_eq_getElem_cons hb]; rfl
theorem less_eq (a b : List UInt8) (ha : a.length ≤ 70000) : f30_F (a, (b, ())) = some (Op.bytesLess a b, ()) := by
  rw [f30_eq]
  have key : ∀ (d i : Nat), i + d = a.length → i ≤ b.length → ∀ m, d + 1 ≤ m → ((iter f30_p0_st m (f30_p0_y a b (i : Int))).bind fun o114 => (match o114 with | .inl z115 => some ((decide (((f30_p0_o0_x0 z115).length : Int) < ((f30_p0_o0_x1 z115).length : Int))), ()) | .inr o116 => some ((f30_p0_o1_x4 o116), ()))) = some (Op.bytesLess (a.drop i) (b.drop i), ()) := by
    intro d
    induction d with
    | zero =>
      intro i hi hib m hm
      obtain ⟨m, rfl⟩ : ∃ k, m = k + 1 := ⟨m - 1, by omega⟩
      have : i = a.length := by omega
      subst this
      rw [iter, f30_p0_eq]
      simp only [Int.lt_irrefl, decide_false, cond_false, Option.bind_some, f30_p0_o0_x0_y, f30_p0_o0_x1_y]
      rw [List.drop_of_length_le (Nat.le_refl _)]
      rcases Nat.lt_or_ge a.length b.length with h | h
      · rw [List.drop_eq_getElem_cons h]
        have : decide ((a.length : Int) < (b.length : Int)) = true := by simp; omega
        rw [this]; rfl
      · rw [List.drop_of_length_le h]
        have : decide ((a.length : Int) < (b.length : Int)) = false := by simp; omega
        rw [this]; rfl
    | succ d ih =>
      intro i hi hib m hm
      obtain ⟨m, rfl⟩ : ∃ k, m = k + 1 := ⟨m - 1, by omega⟩
      have hia : i < a.length := by omega
      rw [iter, f30_p0_eq, lt_t hia, cond_true]
      rcases Nat.lt_or_ge i b.length with h | h
      · rw [lt_t h, cond_true, nth_lt hia, nth_lt h, Option.bind_some, Option.bind_some, less_drop a b i hia h]
        by_cases e : a[i] = b[i]
        · have e1 : (((a[i]).toNat : Int) != ((b[i]).toNat : Int)) = false := by simp [e]
          rw [e1, cond_false, nxb (by omega), ih (i + 1) (by omega) (by omega) m (by omega)]
          have e2 : decide (a[i] < b[i]) = false := by simp [e]
          have e3 : (a[i] == b[i]) = true := by simp [e]
          rw [e2, e3]; rfl
        · have hne : (a[i]).toNat ≠ (b[i]).toNat := fun h => e (UInt8.toNat_inj.1 h)
          have e1 : (((a[i]).toNat : Int) != ((b[i]).toNat : Int)) = true := by simp; omega
          have e3 : (a[i] == b[i]) = false := by simp [e]
          rw [e1, cond_true, Option.bind_some, Option.bind_some, Option.bind_some, e3]
          simp only [f30_p0_o1_x4_y, Bool.false_and, Bool.or_false]
          congr 2; rw [Bool.eq_iff_iff]; simp [UInt8.lt_iff_toNat_lt]
      · have : i = b.length := by omega
        have e1 : decide ((i : Int) < (b.length : Int)) = false := by simp; omega
        rw [e1, cond_false, Option.bind_some]
        simp only [f30_p0_o0_x0_y, f30_p0_o0_x1_y]
        have e2 : decide ((a.length : Int) < (b.length : Int)) = false := by simp; omega
        rw [e2, List.drop_of_length_le (l := b) h, List.drop_eq_getElem_cons hia]; rfl
  have := key a.length 0 (by omega) (by omega) (fuelOf _ (f30_p0_y a b (0 : Int))) (by rw [fuel_def]; omega)
  exact this
/-! ### What is left -/
theorem numS_suf {neg : Bool} {t : List UInt8} {v : Int} {r : List UInt8} (h : numS neg t = .ok (v, r)) : r <:+ t := by
  unfold numS at h
  split at h
  · cases h
  · split at h
    · cases h
    · cases h; exact List.dropWhile_suffix _
theorem num_suf {t : List UInt8} {v : Int} {r : List UInt8} (h : num t = .ok (v, r)) : r <:+ t := by
  cases t with
  | nil => cases h
  | cons c s =>
    simp only [num] at h
    split at h
    · exact (numS_suf h).trans (List.suffix_cons _ _)
    · exact numS_suf h
theorem txt_suf : ∀ (k : Nat) {t acc s r : List UInt8}, t.length ≤ k → acc.length ≤ 4000 → txt t acc = .ok (s, r) → r <:+ t ∧ s.length ≤ 4000
  | k, [], _, _, _, _, _, h => by simp [txt] at h
  | 0, c :: r', _, _, _, hk, _, h => by simp at hk
  | k + 1, c :: r', acc, s, r, hk, ha, h => by
    simp only [List.length_cons] at hk
    unfold txt at h
    split at h
    · cases h
    · split at h
      · cases h; exact ⟨List.suffix_cons _ _, ha⟩
      · split at h
        · split at h
          · cases h
          · rename_i c' r''
            simp only [List.length_cons] at hk
            split at h
            · split at h
              · cases h
              · have := txt_suf k (by omega) (by simp; omega) h
                exact ⟨this.1.trans ((List.suffix_cons _ _).trans (List.suffix_cons _ _)), this.2⟩
            · cases h
        · split at h
          · cases h
          · have := txt_suf k (by omega) (by simp; omega) h
            exact ⟨this.1.trans (List.suffix_cons _ _), this.2⟩
def okK (keys : List (List UInt8)) : Prop := ∀ k ∈ keys, k.length ≤ 4000
theorem keyS_suf {keys ks : List (List UInt8)} {t r : List UInt8} (hk : okK keys) (h : keyS keys t = .ok (ks, r)) : r <:+ t ∧ okK ks := by
  cases t with
  | nil => cases h
  | cons c s =>
    simp only [keyS] at h
    split at h
    · split at h
      · cases h
      · rename_i s' r' htx
        have := txt_suf _ (Nat.le_refl _) (by simp) htx
        split at h
        · cases h
        · split at h
          · cases h
          · split at h
            · cases h
              refine ⟨((List.suffix_cons _ _).trans this.1).trans (List.suffix_cons _ _), fun k hkk => ?_⟩
              rcases List.mem_append.1 hkk with h | h
              · exact hk k h
              · simp at h; subst h; exact this.2
            · cases h
    · cases h
theorem suf_drop {a t : List UInt8} {i : Nat} (h : t <:+ a.drop i) : t = a.drop (a.length - t.length) ∧ a.length - t.length ≤ a.length := by
  have h2 : t <:+ a := h.trans (List.drop_suffix _ _)
  exact ⟨List.suffix_iff_eq_drop.1 h2, by omega⟩
/-! ### Errors are no zeros -/
theorem numS_err {neg : Bool} {t : List UInt8} {e : Int} (h : numS neg t = .error e) : e ≠ 0 := by
  unfold numS at h
  split at h
  · cases h; decide
  · split at h
    · cases h; decide
    · cases h
theorem num_err {t : List UInt8} {e : Int} (h : num t = .error e) : e ≠ 0 := by
  cases t with
  | nil => cases h; decide
  | cons c s =>
    simp only [num] at h
    split at h
    · exact numS_err h
    · exact numS_err h
theorem txt_err : ∀ (k : Nat) {t acc : List UInt8} {e : Int}, t.length ≤ k → txt t acc = .error e → e ≠ 0
  | k, [], _, e, _, h => by simp [txt] at h; subst h; decide
  | 0, c :: r', _, _, hk, h => by simp at hk
  | k + 1, c :: r', acc, e, hk, h => by
    simp only [List.length_cons] at hk
    unfold txt at h
    split at h
    · cases h; decide
    · split at h
      · cases h
      · split at h
        · split at h
          · cases h; decide
          · rename_i c' r''
            simp only [List.length_cons] at hk
            split at h
            · split at h
              · cases h; decide
              · exact txt_err k (by omega) h
            · cases h; decide
        · split at h
          · cases h; decide
          · exact txt_err k (by omega) h
theorem keyS_err {keys : List (List UInt8)} {t : List UInt8} {e : Int} (h : keyS keys t = .error e) : e ≠ 0 := by
  cases t with
  | nil => cases h; decide
  | cons c s =>
    simp only [keyS] at h
    split at h
    · split at h
      · rename_i e' htx; cases h; exact txt_err _ (Nat.le_refl _) htx
      · split at h
        · cases h; decide
        · split at h
          · cases h; decide
          · split at h
            · cases h
            · cases h; decide
    · cases h; decide
/-! ### The reference's keys -/
theorem rlate_eq (G : argsDen f13_ps → Option (argsDen f13_rs)) (hG : Sound Try.prog 13 (pfun G)) (a : List UInt8) (d n c : Int) (k : Int) (s : List UInt8) (i : Int) (keys : List (List UInt8)) (items : List V) (hk : okK keys) (hl : keys.length ≤ 100000) :
    f13_p0_F G hG (f13_p0_y a d n c 0 0 [] 0 0 0 k 0 [] 0 0 s [] [] i 0 0 keys items) = some (f13_p0_o0_y a d n c (late keys s) 0 0 [] 0 0 0 k 0 [] 0 0 s [] [] i 0 0 keys items) := by
  rw [f13_p0_eq]
  unfold late
  rcases List.eq_nil_or_concat keys with rfl | ⟨ks, q, hks⟩
  · simp
  · rw [List.concat_eq_append] at hks
    have hlen : keys.length = ks.length + 1 := by rw [hks]; simp
    have h0 : ((keys.length : Int) > 0) := by omega
    have hgl : keys.getLast? = some q := by rw [hks]; simp
    have hgk : keys[Int.toNat (ks.length : Int)]? = some q := by rw [hks]; simp
    have hw : IntKind.i64.wrap ((keys.length : Int) - 1) = (ks.length : Int) := by rw [wrap64 (by omega) (by omega)]; omega
    have hq : q.length ≤ 70000 := by have := hk q (by rw [hks]; simp); omega
    simp only [h0, decide_true, cond_true, hgl]
    rw [hw, within_lt (by omega), hgk, Option.bind_some, less_eq q s hq, Option.bind_some]
theorem rkey_eq (G : argsDen f13_ps → Option (argsDen f13_rs)) (hG : Sound Try.prog 13 (pfun G)) (a : List UInt8) (ha : a.length ≤ 70000) (d n c : Int) (i : Nat) (hi : i ≤ a.length) (keys : List (List UInt8)) (items : List V) (hk : okK keys) (hl : keys.length ≤ 100000) :
    f13_p1_F G hG (f13_p1_y a (i : Int) d n c 0 0 [] 0 0 0 4 0 [] keys items) = some (match keyS keys (a.drop i) with
      | .error e => .inl (f13_p1_o0_y 0 0 [] [] [] 0 0 e)
      | .ok (ks, r) => .inr (f13_p1_o1_y a ((a.length - r.length : Nat) : Int) d n c 0 0 [] 0 0 0 4 0 [] ks items)) := by
  rw [f13_p1_eq, sign_eq]
  rcases drop_cases a i with ⟨h, e⟩ | ⟨h, e⟩
  · have hw := wrong_eq a i
    rw [e] at hw ⊢
    simp only [BEq.rfl, cond_true, Option.bind_some, keyS]
    rw [show ((-1 : Int) != 34) = true by decide, cond_true, hw]; rfl
  have hw := wrong_eq a i
  have htx := rtext_eq a ha (i + 1)
  rw [e] at hw ⊢
  generalize hci : a[i] = q
  simp only [BEq.rfl, cond_true, Option.bind_some, keyS]
  have e34 : ((q.toNat : Int) != 34) = decide (¬ q = 34) := by
    rw [Bool.eq_iff_iff]; simp only [bne_iff, decide_eq_true_eq]; rw [← UInt8.toNat_inj]; simp only [UInt8.reduceToNat]; omega
  rw [e34, nxb (by omega)]
  by_cases h34 : q = 34
  · simp only [h34, not_true_eq_false, decide_false, cond_false, if_true]
    rw [htx]
    cases ht : txt (a.drop (i + 1)) [] with
    | error er =>
      have hne := txt_err _ (Nat.le_refl _) ht
      simp only [Option.bind_some, rv]
      rw [show (er != 0) = true by simpa using hne]; rfl
    | ok p =>
      obtain ⟨s, r⟩ := p
      have hsf := txt_suf _ (Nat.le_refl _) (by simp) ht
      obtain ⟨hr, hrl⟩ := suf_drop hsf.1
      simp only [Option.bind_some, rv]
      rw [show ((0 : Int) != 0) = false by decide, cond_false]
      have hlate := rlate_eq G hG a d n c 4 s ((a.length - r.length : Nat) : Int) keys items hk hl
      rw [show (f13_p0_y a d n c 0 0 [] 0 0 0 4 0 [] (V.mk 0 0 s [] []).kind (V.mk 0 0 s [] []).n (V.mk 0 0 s [] []).s (V.mk 0 0 s [] []).items (V.mk 0 0 s [] []).keys ((a.length - r.length : Nat) : Int) ((0 : Nat) : Int) 0 keys items) = f13_p0_y a d n c 0 0 [] 0 0 0 4 0 [] 0 0 s [] [] ((a.length - r.length : Nat) : Int) 0 0 keys items from rfl, hlate]
      simp only [Option.bind_some, f13_p0_o0_x117_y]
      cases hlt : late keys s with
      | true => simp
      | false =>
        simp only [cond_false, f13_p0_o0_l0_y, f13_p0_o0_r2_2_y, f13_p0_o0_x0_y, f13_p0_o0_r2_5_y, f13_p0_o0_x2_y, f13_p0_o0_x3_y, f13_p0_o0_x13_y, f13_p0_o0_r0_0_y, f13_p0_o0_r0_1_y, f13_p0_o0_r0_2_y, f13_p0_o0_r0_5_y, f13_p0_o0_r0_6_y, f13_p0_o0_r0_7_y, f13_p0_o0_r1_0_y, f13_p0_o0_r1_1_y, f13_p0_o0_r1_2_y, f13_p0_o0_l1_y, Bool.false_eq_true, if_false]
        rw [appOk_lt (by simp; omega), sign_eq]
        have hw2 := wrong_eq a (a.length - r.length)
        rw [← hr] at hw2 ⊢
        simp only [Option.bind_some]
        cases r with
        | nil =>
          rw [show ((-1 : Int) != 58) = true by decide, cond_true]
          simp only at hw2
          rw [hw2]; rfl
        | cons q' r' =>
          have e58 : ((q'.toNat : Int) != 58) = decide (¬ q' = 58) := by
            rw [Bool.eq_iff_iff]; simp only [bne_iff, decide_eq_true_eq]; rw [← UInt8.toNat_inj]; simp only [UInt8.reduceToNat]; omega
          simp only [e58]
          by_cases h58 : q' = 58
          · simp only [h58, not_true_eq_false, decide_false, cond_false, if_true]
            rw [nxb (by omega)]
            have hl1 : (58 :: r' : List UInt8).length ≤ a.length := by
              have := hsf.1.length_le
              simp only [List.length_drop, List.length_cons] at this ⊢; omega
            have : a.length - (58 :: r' : List UInt8).length + 1 = a.length - r'.length := by simp only [List.length_cons] at hl1 ⊢; omega
            rw [this]
          · simp only [h58, not_false_eq_true, decide_true, cond_true, if_false]
            simp only at hw2
            rw [hw2]; rfl
  · simp only [h34, not_false_eq_true, decide_true, cond_true, if_false]
    simp only at hw
    rw [hw]; rfl
theorem rkey_no (G : argsDen f13_ps → Option (argsDen f13_rs)) (hG : Sound Try.prog 13 (pfun G)) (a : List UInt8) (d n c k : Int) (i : Int) (keys : List (List UInt8)) (items : List V) (h4 : k ≠ 4) :
    f13_p1_F G hG (f13_p1_y a i d n c 0 0 [] 0 0 0 k 0 [] keys items) = some (.inr (f13_p1_o1_y a i d n c 0 0 [] 0 0 0 k 0 [] keys items)) := by
  rw [f13_p1_eq, show (k == 4) = false by simpa using h4, cond_false]
end Go.Pe.Try
