/- Several texts in one: PP8, PP9, PP10, PP11, PD1, PD2, PD3, PD4, PD5, PD6. -/
import Derived.Test.YtgghmllnhaahgaaPePM1
import Derived.Test.YtgghmllnhaahgaaPeGP3q
namespace Go.Pe.Try
open Go.Proofs Go.RowKit
set_option maxRecDepth 100000
set_option linter.unusedSimpArgs false
set_option linter.unusedVariables false
theorem lt_t {i n : Nat} (h : i < n) : decide ((i : Int) < (n : Int)) = true := by simp; omega
theorem nxb {i : Nat} (h : i ≤ 100000) : IntKind.i64.wrap ((i : Int) + 1) = ((i + 1 : Nat) : Int) := by rw [wrap64 (by omega) (by omega)]; rfl
theorem less_drop (a b : List UInt8) (i : Nat) (ha : i < a.length) (hb : i < b.length) : Op.bytesLess (a.drop i) (b.drop i) = (decide (a[i] < b[i]) || (a[i] == b[i] && Op.bytesLess (a.drop (i + 1)) (b.drop (i + 1)))) := by
  rw [List.drop_eq_getElem_cons ha, List.drop_eq_getElem_cons hb]; rfl
theorem less_eq (a b : List UInt8) (ha : a.length ≤ 70000) : f30_F (a, (b, ())) = some (Op.bytesLess a b, ()) := by
  rw [f30_eq]
  have key : ∀ (d i : Nat), i + d = a.length → i ≤ b.length → ∀ m, d + 1 ≤ m → ((iter f30_p0_st m (f30_p0_y a b (i : Int))).bind fun o114 => (match o114 with | .inl z115 => some ((decide (((f30_p0_o0_x0 z115).length : Int) < ((f30_p0_o0_x1 z115).length : Int))), ()) | .inr o116 => some ((f30_p0_o1_x4 o116), ()))) = some (Op.bytesLess (a.drop i) (b.drop i), ()) := by
    intro d
    induction d with
    | zero =>
      intro i hi hib m hm
      obtain ⟨m, rfl⟩ : ∃ k, m = k + 1 := ⟨m - 1, by omega⟩
      have : i = a.length := by omega
      subst this
      rw [iter, f30_p0_eq]
      simp only [Int.lt_irrefl, decide_false, cond_false, Option.bind_some, f30_p0_o0_x0_y, f30_p0_o0_x1_y]
      rw [List.drop_of_length_le (Nat.le_refl _)]
      rcases Nat.lt_or_ge a.length b.length with h | h
      · rw [List.drop_eq_getElem_cons h]
        have : decide ((a.length : Int) < (b.length : Int)) = true := by simp; omega
        rw [this]; rfl
      · rw [List.drop_of_length_le h]
        have : decide ((a.length : Int) < (b.length : Int)) = false := by simp; omega
        rw [this]; rfl
    | succ d ih =>
      intro i hi hib m hm
      obtain ⟨m, rfl⟩ : ∃ k, m = k + 1 := ⟨m - 1, by omega⟩
      have hia : i < a.length := by omega
      rw [iter, f30_p0_eq, lt_t hia, cond_true]
      rcases Nat.lt_or_ge i b.length with h | h
      · rw [lt_t h, cond_true, nth_lt hia, nth_lt h, Option.bind_some, Option.bind_some, less_drop a b i hia h]
        by_cases e : a[i] = b[i]
        · have e1 : (((a[i]).toNat : Int) != ((b[i]).toNat : Int)) = false := by simp [e]
          rw [e1, cond_false, nxb (by omega), ih (i + 1) (by omega) (by omega) m (by omega)]
          have e2 : decide (a[i] < b[i]) = false := by simp [e]
          have e3 : (a[i] == b[i]) = true := by simp [e]
          rw [e2, e3]; rfl
        · have hne : (a[i]).toNat ≠ (b[i]).toNat := fun h => e (UInt8.toNat_inj.1 h)
          have e1 : (((a[i]).toNat : Int) != ((b[i]).toNat : Int)) = true := by simp; omega
          have e3 : (a[i] == b[i]) = false := by simp [e]
          rw [e1, cond_true, Option.bind_some, Option.bind_some, Option.bind_some, e3]
          simp only [f30_p0_o1_x4_y, Bool.false_and, Bool.or_false]
          congr 2; rw [Bool.eq_iff_iff]; simp [UInt8.lt_iff_toNat_lt]
      · have : i = b.length := by omega
        have e1 : decide ((i : Int) < (b.length : Int)) = false := by simp; omega
        rw [e1, cond_false, Option.bind_some]
        simp only [f30_p0_o0_x0_y, f30_p0_o0_x1_y]
        have e2 : decide ((a.length : Int) < (b.length : Int)) = false := by simp; omega
        rw [e2, List.drop_of_length_le (l := b) h, List.drop_eq_getElem_cons hia]; rfl
  have := key a.length 0 (by omega) (by omega) (fuelOf _ (f30_p0_y a b (0 : Int))) (by rw [fuel_def]; omega)
  exact this
/-! ### What is left -/
theorem numS_suf {neg : Bool} {t : List UInt8} {v : Int} {r : List UInt8} (h : numS neg t = .ok (v, r)) : r <:+ t := by
  unfold numS at h
  split at h
  · cases h
  · split at h
    · cases h
    · cases h; exact List.dropWhile_suffix _
theorem num_suf {t : List UInt8} {v : Int} {r : List UInt8} (h : num t = .ok (v, r)) : r <:+ t := by
  cases t with
  | nil => cases h
  | cons c s =>
    simp only [num] at h
    split at h
    · exact (numS_suf h).trans (List.suffix_cons _ _)
    · exact numS_suf h
theorem txt_suf : ∀ (k : Nat) {t acc s r : List UInt8}, t.length ≤ k → acc.length ≤ 4000 → txt t acc = .ok (s, r) → r <:+ t ∧ s.length ≤ 4000
  | k, [], _, _, _, _, _, h => by simp [txt] at h
  | 0, c :: r', _, _, _, hk, _, h => by simp at hk
  | k + 1, c :: r', acc, s, r, hk, ha, h => by
    simp only [List.length_cons] at hk
    unfold txt at h
    split at h
    · cases h
    · split at h
      · cases h; exact ⟨List.suffix_cons _ _, ha⟩
      · split at h
        · split at h
          · cases h
          · rename_i c' r''
            simp only [List.length_cons] at hk
            split at h
            · split at h
              · cases h
              · have := txt_suf k (by omega) (by simp; omega) h
                exact ⟨this.1.trans ((List.suffix_cons _ _).trans (List.suffix_cons _ _)), this.2⟩
            · cases h
        · split at h
          · cases h
          · have := txt_suf k (by omega) (by simp; omega) h
            exact ⟨this.1.trans (List.suffix_cons _ _), this.2⟩
def okK (keys : List (List UInt8)) : Prop := ∀ k ∈ keys, k.length ≤ 4000
theorem keyS_suf {keys ks : List (List UInt8)} {t r : List UInt8} (hk : okK keys) (h : keyS keys t = .ok (ks, r)) : r <:+ t ∧ okK ks := by
  cases t with
  | nil => cases h
  | cons c s =>
    simp only [keyS] at h
    split at h
    · split at h
      · cases h
      · rename_i s' r' htx
        have := txt_suf _ (Nat.le_refl _) (by simp) htx
        split at h
        · cases h
        · split at h
          · cases h
          · split at h
            · cases h
              refine ⟨((List.suffix_cons _ _).trans this.1).trans (List.suffix_cons _ _), fun k hkk => ?_⟩
              rcases List.mem_append.1 hkk with h | h
              · exact hk k h
              · simp at h; subst h; exact this.2
            · cases h
    · cases h
theorem suf_drop {a t : List UInt8} {i : Nat} (h : t <:+ a.drop i) : t = a.drop (a.length - t.length) ∧ a.length - t.length ≤ a.length := by
  have h2 : t <:+ a := h.trans (List.drop_suffix _ _)
  exact ⟨List.suffix_iff_eq_drop.1 h2, by omega⟩
/-! ### Errors are no zeros -/
theorem numS_err {neg : Bool} {t : List UInt8} {e : Int} (h : numS neg t = .error e) : e ≠ 0 := by
  unfold numS at h
  split at h
  · cases h; decide
  · split at h
    · cases h; decide
    · cases h
theorem num_err {t : List UInt8} {e : Int} (h : num t = .error e) : e ≠ 0 := by
  cases t with
  | nil => cases h; decide
  | cons c s =>
    simp only [num] at h
    split at h
    · exact numS_err h
    · exact numS_err h
theorem txt_err : ∀ (k : Nat) {t acc : List UInt8} {e : Int}, t.length ≤ k → txt t acc = .error e → e ≠ 0
  | k, [], _, e, _, h => by simp [txt] at h; subst h; decide
  | 0, c :: r', _, _, hk, h => by simp at hk
  | k + 1, c :: r', acc, e, hk, h => by
    simp only [List.length_cons] at hk
    unfold txt at h
    split at h
    · cases h; decide
    · split at h
      · cases h
      · split at h
        · split at h
          · cases h; decide
          · rename_i c' r''
            simp only [List.length_cons] at hk
            split at h
            · split at h
              · cases h; decide
              · exact txt_err k (by omega) h
            · cases h; decide
        · split at h
          · cases h; decide
          · exact txt_err k (by omega) h
theorem keyS_err {keys : List (List UInt8)} {t : List UInt8} {e : Int} (h : keyS keys t = .error e) : e ≠ 0 := by
  cases t with
  | nil => cases h; decide
  | cons c s =>
    simp only [keyS] at h
    split at h
    · split at h
      · rename_i e' htx; cases h; exact txt_err _ (Nat.le_refl _) htx
      · split at h
        · cases h; decide
        · split at h
          · cases h; decide
          · split at h
            · cases h
            · cases h; decide
    · cases h; decide
/-! ### The reference's keys -/
theorem rlate_eq (G : argsDen f13_ps → Option (argsDen f13_rs)) (hG : Sound Try.prog 13 (pfun G)) (a : List UInt8) (d n c : Int) (k : Int) (s : List UInt8) (i : Int) (keys : List (List UInt8)) (items : List V) (hk : okK keys) (hl : keys.length ≤ 100000) :
    f13_p0_F G hG (f13_p0_y a d n c 0 0 [] 0 0 0 k 0 [] 0 0 s [] [] i 0 0 keys items) = some (f13_p0_o0_y a d n c (late keys s) 0 0 [] 0 0 0 k 0 [] 0 0 s [] [] i 0 0 keys items) := by
  rw [f13_p0_eq]
  unfold late
  rcases List.eq_nil_or_concat keys with rfl | ⟨ks, q, hks⟩
  · simp
  · rw [List.concat_eq_append] at hks
    have hlen : keys.length = ks.length + 1 := by rw [hks]; simp
    have h0 : ((keys.length : Int) > 0) := by omega
    have hgl : keys.getLast? = some q := by rw [hks]; simp
    have hgk : keys[Int.toNat (ks.length : Int)]? = some q := by rw [hks]; simp
    have hw : IntKind.i64.wrap ((keys.length : Int) - 1) = (ks.length : Int) := by rw [wrap64 (by omega) (by omega)]; omega
    have hq : q.length ≤ 70000 := by have := hk q (by rw [hks]; simp); omega
    simp only [h0, decide_true, cond_true, hgl]
    rw [hw, within_lt (by omega), hgk, Option.bind_some, less_eq q s hq, Option.bind_some]
theorem rkey_eq (G : argsDen f13_ps → Option (argsDen f13_rs)) (hG : Sound Try.prog 13 (pfun G)) (a : List UInt8) (ha : a.length ≤ 70000) (d n c : Int) (i : Nat) (hi : i ≤ a.length) (keys : List (List UInt8)) (items : List V) (hk : okK keys) (hl : keys.length ≤ 100000) :
    f13_p1_F G hG (f13_p1_y a (i : Int) d n c 0 0 [] 0 0 0 4 0 [] keys items) = some (match keyS keys (a.drop i) with
      | .error e => .inl (f13_p1_o0_y 0 0 [] [] [] 0 0 e)
      | .ok (ks, r) => .inr (f13_p1_o1_y a ((a.length - r.length : Nat) : Int) d n c 0 0 [] 0 0 0 4 0 [] ks items)) := by
  rw [f13_p1_eq, sign_eq]
  rcases drop_cases a i with ⟨h, e⟩ | ⟨h, e⟩
  · have hw := wrong_eq a i
    rw [e] at hw ⊢
    simp only [BEq.rfl, cond_true, Option.bind_some, keyS]
    rw [show ((-1 : Int) != 34) = true by decide, cond_true, hw]; rfl
  have hw := wrong_eq a i
  have htx := rtext_eq a ha (i + 1)
  rw [e] at hw ⊢
  generalize hci : a[i] = q
  simp only [BEq.rfl, cond_true, Option.bind_some, keyS]
  have e34 : ((q.toNat : Int) != 34) = decide (¬ q = 34) := by
    rw [Bool.eq_iff_iff]; simp only [bne_iff, decide_eq_true_eq]; rw [← UInt8.toNat_inj]; simp only [UInt8.reduceToNat]; omega
  rw [e34, nxb (by omega)]
  by_cases h34 : q = 34
  · simp only [h34, not_true_eq_false, decide_false, cond_false, if_true]
    rw [htx]
    cases ht : txt (a.drop (i + 1)) [] with
    | error er =>
      have hne := txt_err _ (Nat.le_refl _) ht
      simp only [Option.bind_some, rv]
      rw [show (er != 0) = true by simpa using hne]; rfl
    | ok p =>
      obtain ⟨s, r⟩ := p
      have hsf := txt_suf _ (Nat.le_refl _) (by simp) ht
      obtain ⟨hr, hrl⟩ := suf_drop hsf.1
      simp only [Option.bind_some, rv]
      rw [show ((0 : Int) != 0) = false by decide, cond_false]
      have hlate := rlate_eq G hG a d n c 4 s ((a.length - r.length : Nat) : Int) keys items hk hl
      rw [show (f13_p0_y a d n c 0 0 [] 0 0 0 4 0 [] (V.mk 0 0 s [] []).kind (V.mk 0 0 s [] []).n (V.mk 0 0 s [] []).s (V.mk 0 0 s [] []).items (V.mk 0 0 s [] []).keys ((a.length - r.length : Nat) : Int) ((0 : Nat) : Int) 0 keys items) = f13_p0_y a d n c 0 0 [] 0 0 0 4 0 [] 0 0 s [] [] ((a.length - r.length : Nat) : Int) 0 0 keys items from rfl, hlate]
      simp only [Option.bind_some, f13_p0_o0_x117_y]
      cases hlt : late keys s with
      | true => simp
      | false =>
        simp only [cond_false, f13_p0_o0_l0_y, f13_p0_o0_r2_2_y, f13_p0_o0_x0_y, f13_p0_o0_r2_5_y, f13_p0_o0_x2_y, f13_p0_o0_x3_y, f13_p0_o0_x13_y, f13_p0_o0_r0_0_y, f13_p0_o0_r0_1_y, f13_p0_o0_r0_2_y, f13_p0_o0_r0_5_y, f13_p0_o0_r0_6_y, f13_p0_o0_r0_7_y, f13_p0_o0_r1_0_y, f13_p0_o0_r1_1_y, f13_p0_o0_r1_2_y, f13_p0_o0_l1_y, Bool.false_eq_true, if_false]
        rw [appOk_lt (by simp; omega), sign_eq]
        have hw2 := wrong_eq a (a.length - r.length)
        rw [← hr] at hw2 ⊢
        simp only [Option.bind_some]
        cases r with
        | nil =>
          rw [show ((-1 : Int) != 58) = true by decide, cond_true]
          simp only at hw2
          rw [hw2]; rfl
        | cons q' r' =>
          have e58 : ((q'.toNat : Int) != 58) = decide (¬ q' = 58) := by
            rw [Bool.eq_iff_iff]; simp only [bne_iff, decide_eq_true_eq]; rw [← UInt8.toNat_inj]; simp only [UInt8.reduceToNat]; omega
          simp only [e58]
          by_cases h58 : q' = 58
          · simp only [h58, not_true_eq_false, decide_false, cond_false, if_true]
            rw [nxb (by omega)]
            have hl1 : (58 :: r' : List UInt8).length ≤ a.length := by
              have := hsf.1.length_le
              simp only [List.length_drop, List.length_cons] at this ⊢; omega
            have : a.length - (58 :: r' : List UInt8).length + 1 = a.length - r'.length := by simp only [List.length_cons] at hl1 ⊢; omega
            rw [this]
          · simp only [h58, not_false_eq_true, decide_true, cond_true, if_false]
            simp only at hw2
            rw [hw2]; rfl
  · simp only [h34, not_false_eq_true, decide_true, cond_true, if_false]
    simp only at hw
    rw [hw]; rfl
theorem rkey_no (G : argsDen f13_ps → Option (argsDen f13_rs)) (hG : Sound Try.prog 13 (pfun G)) (a : List UInt8) (d n c k : Int) (i : Int) (keys : List (List UInt8)) (items : List V) (h4 : k ≠ 4) :
    f13_p1_F G hG (f13_p1_y a i d n c 0 0 [] 0 0 0 k 0 [] keys items) = some (.inr (f13_p1_o1_y a i d n c 0 0 [] 0 0 0 k 0 [] keys items)) := by
  rw [f13_p1_eq, show (k == 4) = false by simpa using h4, cond_false]
end Go.Pe.Try
namespace Go.Pe.Try
open Go.Proofs Go.RowKit
set_option maxRecDepth 100000
set_option linter.unusedSimpArgs false
set_option linter.unusedVariables false
def preK (k : Int) (keys : List (List UInt8)) (t : List UInt8) : Except Int (List (List UInt8) × List UInt8) := if k = 4 then keyS keys t else .ok (keys, t)
theorem itemsS_succ (G : List UInt8 → Nat → Except Int (V × List UInt8 × Nat)) (kk : Nat) (k : Int) (items : List V) (ks : List (List UInt8)) (t : List UInt8) (n : Nat) : itemsS G (kk + 1) ⟨k, 0, [], items, ks⟩ t n = match G t n with
    | .error e => .error e
    | .ok (v, t', n') => match t' with
      | [] => .error 3
      | c :: r => if c = 44 then (match preK k ks r with | .error e => .error e | .ok (ks', r') => itemsS G kk ⟨k, 0, [], items ++ [v], ks'⟩ r' n')
        else if c = clo k then .ok (⟨k, 0, [], items ++ [v], ks⟩, r, n') else .error 20 := by
  rw [itemsS]
  cases G t n with
  | error e => rfl
  | ok p =>
    obtain ⟨v, t', n'⟩ := p
    cases t' with
    | nil => rfl
    | cons c r =>
      simp only [V.kind, V.keys, preK]
      by_cases h : c = 44
      · simp only [h, if_true]
        by_cases h4 : k = 4
        · simp only [h4, if_true]; rfl
        · simp only [h4, if_false]; rfl
      · simp only [h, if_false]; rfl
theorem value_ok {d : Nat} (hd : d ≤ 12) {t : List UInt8} {n : Nat} (hn : n ≤ 2000) (ht : t.length ≤ 70000) {v : V} {t' : List UInt8} {n' : Nat} (h : value d t n = .ok (v, t', n')) : n < n' ∧ n' ≤ 2000 := by
  have := value_run d t n (List.replicate (12 - d) v0) 2002 (by simp; omega) hn (fun f hf => by rw [List.eq_of_mem_replicate hf]; simp [v0, V.items, V.keys]) ht (by omega)
  rw [h] at this
  exact ⟨this.2.1, this.2.2.1⟩
def Res (a : List UInt8) (x : Except Int (V × List UInt8 × Nat)) (o : Option (argsDen f13_rs)) : Prop := match x with
  | .error e => e ≠ 0 ∧ ∃ v j c, o = some (rv v j c e)
  | .ok (v, t', n') => o = some (rv v (a.length - t'.length) n' 0) ∧ t' <:+ a
def Out (a : List UInt8) (x : Except Int (V × List UInt8 × Nat)) (o : Option (OutDen f13_p2_outs)) : Prop := match x with
  | .error e => e ≠ 0 ∧ ∃ v : V, ∃ j c : Nat, o = some (f13_p2_o0_y v.kind v.n v.s v.items v.keys (j : Int) (c : Int) e)
  | .ok (v, t', n') => o = some (f13_p2_o0_y v.kind v.n v.s v.items v.keys ((a.length - t'.length : Nat) : Int) (n' : Int) 0) ∧ t' <:+ a
theorem preK_suf {k : Int} {keys ks : List (List UInt8)} {t r : List UInt8} (hk : okK keys) (h : preK k keys t = .ok (ks, r)) : r <:+ t ∧ okK ks ∧ ks.length ≤ keys.length + 1 := by
  unfold preK at h
  split at h
  · have h1 := keyS_suf hk h
    have h2 := keyS_len h
    exact ⟨h1.1, h1.2, by omega⟩
  · cases h; exact ⟨List.suffix_refl _, hk, by omega⟩
theorem rpre_eq (G : argsDen f13_ps → Option (argsDen f13_rs)) (hG : Sound Try.prog 13 (pfun G)) (a : List UInt8) (ha : a.length ≤ 70000) (d n c k : Int) (i : Nat) (hi : i ≤ a.length) (keys : List (List UInt8)) (items : List V) (hk : okK keys) (hl : keys.length ≤ 100000) :
    f13_p1_F G hG (f13_p1_y a (i : Int) d n c 0 0 [] 0 0 0 k 0 [] keys items) = some (match preK k keys (a.drop i) with
      | .error e => .inl (f13_p1_o0_y 0 0 [] [] [] 0 0 e)
      | .ok (ks, r) => .inr (f13_p1_o1_y a ((a.length - r.length : Nat) : Int) d n c 0 0 [] 0 0 0 k 0 [] ks items)) := by
  unfold preK
  by_cases h4 : k = 4
  · subst h4; simp only [if_true]; exact rkey_eq G hG a ha d n c i hi keys items hk hl
  · simp only [h4, if_false]
    rw [rkey_no G hG a d n c k _ keys items h4]
    have : a.length - (a.drop i).length = i := by simp; omega
    rw [this]
theorem rloop (a : List UInt8) (ha : a.length ≤ 70000) (d : Nat) (hd : d ≤ 11) (G : argsDen f13_ps → Option (argsDen f13_rs)) (hG : Sound Try.prog 13 (pfun G))
    (hS : ∀ i n : Nat, i ≤ a.length → n ≤ 2000 → Res a (value d (a.drop i) n) (G (a, ((i : Int), (((12 - d : Nat) : Int), ((n : Int), ())))))) (k : Int) :
    ∀ (kk i n K : Nat) (keys : List (List UInt8)) (items : List V), i ≤ a.length → n ≤ 2000 → okK keys → keys.length ≤ n + 1 → items.length ≤ n → 2001 ≤ kk + n → 2002 ≤ K + n →
    Out a (match preK k keys (a.drop i) with | .error e => .error e | .ok (ks, r) => itemsS (value d) kk ⟨k, 0, [], items, ks⟩ r n)
      (iter (f13_p2_st G hG) K (f13_p2_y a (i : Int) ((11 - d : Nat) : Int) (n : Int) ((clo k).toNat : Int) 0 0 [] 0 0 0 k 0 [] keys items)) := by
  intro kk
  induction kk with
  | zero => intro i n K keys items _ h2 _ _ _ h6; omega
  | succ kk ih =>
    intro i n K keys items hi hn hk hkl hil hkk hK
    obtain ⟨K, rfl⟩ : ∃ j, K = j + 1 := ⟨K - 1, by omega⟩
    rw [iter, f13_p2_eq, rpre_eq G hG a ha _ _ _ k i hi keys items hk (by omega)]
    cases hp : preK k keys (a.drop i) with
    | error e =>
      have hne : e ≠ 0 := by
        unfold preK at hp
        split at hp
        · exact keyS_err hp
        · cases hp
      exact ⟨hne, v0, 0, 0, by simp [v0, V.kind, V.n, V.s, V.items, V.keys]⟩
    | ok p =>
      obtain ⟨ks, r⟩ := p
      obtain ⟨hsf, hks, hksl⟩ := preK_suf hk hp
      obtain ⟨hr, hrl⟩ := suf_drop hsf
      simp only [Option.bind_some, f13_p1_o1_x0_y, f13_p1_o1_x1_y, f13_p1_o1_x2_y, f13_p1_o1_x3_y, f13_p1_o1_x13_y, f13_p1_o1_r0_0_y, f13_p1_o1_r0_1_y, f13_p1_o1_r0_2_y, f13_p1_o1_r0_5_y, f13_p1_o1_r0_6_y, f13_p1_o1_r0_7_y, f13_p1_o1_r1_0_y, f13_p1_o1_r1_1_y, f13_p1_o1_r1_2_y, f13_p1_o1_l0_y, f13_p1_o1_l1_y]
      rw [itemsS_succ, nxb (by omega), show 11 - d + 1 = 12 - d by omega]
      have hs := hS (a.length - r.length) n (by omega) hn
      rw [← hr] at hs
      cases hv : value d r n with
      | error e =>
        rw [hv] at hs
        obtain ⟨hne, v, j, c, hG1⟩ := hs
        rw [hG1]
        simp only [Option.bind_some, rv]
        rw [show (e != 0) = true by simpa using hne, cond_true]
        exact ⟨hne, v0, 0, 0, rfl⟩
      | ok q =>
        obtain ⟨v, t', n'⟩ := q
        rw [hv] at hs
        obtain ⟨hG1, hts⟩ := hs
        have hvo := value_ok (by omega) hn (by have := hsf.length_le; simp only [List.length_drop] at this; omega) hv
        have htd : t' = a.drop (a.length - t'.length) := List.suffix_iff_eq_drop.1 hts
        have htl := hts.length_le
        rw [hG1]
        simp only [Option.bind_some, rv]
        rw [show ((0 : Int) != 0) = false by decide, cond_false, appOk_lt (by simp; omega), sign_eq, ← htd]
        have hvv : V.mk v.kind v.n v.s v.items v.keys = v := by cases v; rfl
        have hw := wrong_eq a (a.length - t'.length)
        rw [← htd] at hw
        simp only [Option.bind_some, hvv]
        cases t' with
        | nil =>
          simp only at hw ⊢
          have hc : ((-1 : Int) == ((clo k).toNat : Int)) = false := by rw [beq_eq_false_iff_ne]; omega
          rw [hc, cond_false]
          rw [show ((-1 : Int) != 44) = true by decide, cond_true, hw]
          exact ⟨by decide, v0, 0, 0, rfl⟩
        | cons q r2 =>
          simp only [List.length_cons] at htl hw htd ⊢
          have ecl : ((q.toNat : Int) == ((clo k).toNat : Int)) = decide (q = clo k) := by
            rw [Bool.eq_iff_iff]; simp only [beq_iff_eq, decide_eq_true_eq]; rw [← UInt8.toNat_inj]; omega
          have e44 : ((q.toNat : Int) != 44) = decide (¬ q = 44) := by
            rw [Bool.eq_iff_iff]; simp only [bne_iff, decide_eq_true_eq]; rw [← UInt8.toNat_inj]; simp only [UInt8.reduceToNat]; omega
          have hidx : a.length - (r2.length + 1) + 1 = a.length - r2.length := by omega
          have hr2 : r2 <:+ a := (List.suffix_cons _ _).trans hts
          have hr2d : r2 = a.drop (a.length - r2.length) := List.suffix_iff_eq_drop.1 hr2
          rw [ecl, e44, nxb (by omega), hidx]
          by_cases h44 : q = 44
          · subst h44
            have hnc : ¬ (44 : UInt8) = clo k := fun h => clo_ne k h.symm
            simp only [hnc, decide_false, cond_false, Option.bind_some, not_true_eq_false, if_true]
            have := ih (a.length - r2.length) n' K ks (items ++ [v]) (by omega) hvo.2 hks (by omega) (by simp; omega) (by omega) (by omega)
            rw [← hr2d] at this
            exact this
          · by_cases hcl : q = clo k
            · simp only [hcl, decide_true, cond_true, h44, if_false]
              have hc44 : ¬ clo k = 44 := clo_ne k
              rw [if_neg hc44, if_pos trivial]
              exact ⟨rfl, hr2⟩
            · simp only [hcl, decide_false, cond_false, Option.bind_some, h44, not_false_eq_true, decide_true, cond_true, if_false]
              rw [hw]
              exact ⟨by decide, v0, 0, 0, rfl⟩
end Go.Pe.Try
namespace Go.Pe.Try
open Go.Proofs Go.RowKit
set_option maxRecDepth 100000
set_option linter.unusedSimpArgs false
set_option linter.unusedVariables false
theorem f13_next (n : Nat) : (f13_S (n + 1)).1 = f13_b (f13_S n).1 (f13_S n).2 := by kernel_rfl
theorem rvalue (a : List UInt8) (ha : a.length ≤ 70000) : ∀ (d m i n : Nat), d ≤ 12 → d + 1 ≤ m → i ≤ a.length → n ≤ 2000 → Res a (value d (a.drop i) n) ((f13_S m).1 (a, ((i : Int), (((12 - d : Nat) : Int), ((n : Int), ()))))) := by
  intro d
  induction d with
  | zero =>
    intro m i n _ hm hi hn
    obtain ⟨m, rfl⟩ : ∃ j, m = j + 1 := ⟨m - 1, by omega⟩
    rw [f13_next, f13_eq]
    exact ⟨by decide, v0, 0, 0, rfl⟩
  | succ d ih =>
    intro m i n hd hm hi hn
    obtain ⟨m, rfl⟩ : ∃ j, m = j + 1 := ⟨m - 1, by omega⟩
    have hG := fun i n h1 h2 => ih m i n (by omega) (by omega) h1 h2
    rw [f13_next, f13_eq]
    obtain ⟨G, hGd⟩ : ∃ G, G = (f13_S m).1 := ⟨_, rfl⟩
    have hGs : Sound Try.prog 13 (pfun (f13_S m).1) := (f13_S m).2
    have h12 : (((12 - (d + 1) : Nat) : Int) == 12) = false := by rw [beq_eq_false_iff_ne]; omega
    rw [h12, cond_false]
    unfold value beginS
    rw [if_neg (show ¬ 11 - d = 12 by omega)]
    by_cases h20 : n = 2000
    · subst h20
      exact ⟨by decide, v0, 0, 0, rfl⟩
    have h20' : ((n : Int) == 2000) = false := by rw [beq_eq_false_iff_ne]; omega
    rw [h20', cond_false, if_neg h20, nxb (by omega), sign_eq, Option.bind_some]
    have hw := wrong_eq a i
    have htx := rtext_eq a ha (i + 1)
    rcases drop_cases a i with ⟨h, e⟩ | ⟨h, e⟩
    · rw [e] at hw ⊢
      simp only at hw ⊢
      rw [f13_p5_eq]
      rw [show ((-1 : Int) == 45) = false by decide, cond_false, show decide ((-1 : Int) ≥ 48) = false by decide, cond_false]
      simp only [Option.bind_some, f13_p5_o0_x36_y, cond_false, f13_p5_o0_x9_y, f13_p5_o0_x0_y, f13_p5_o0_x1_y, f13_p5_o0_x2_y, f13_p5_o0_x3_y, f13_p5_o0_r0_0_y, f13_p5_o0_r0_1_y, f13_p5_o0_r0_2_y, f13_p5_o0_r0_5_y, f13_p5_o0_r0_6_y, f13_p5_o0_r0_7_y]
      rw [show ((-1 : Int) == 34) = false by decide, cond_false, f13_p4_eq, show ((-1 : Int) != 91) = true by decide, cond_true]
      simp only [Option.bind_some, f13_p4_o0_x59_y, f13_p4_o0_x0_y, f13_p4_o0_x1_y]
      rw [show ((-1 : Int) != 123) = true by decide, cond_true, hw]
      exact ⟨by decide, v0, 0, 0, rfl⟩
    · have hrn := rnumber_eq a ha i
      have hie : i + 1 ≤ a.length := by omega
      rw [e] at hw hrn ⊢
      generalize hci : a[i] = c at hw hrn ⊢
      have hrn := hrn c (a.drop (i + 1)) rfl
      simp only at hw ⊢
      have e45 : ((c.toNat : Int) == 45) = (c == 45) := by
        rw [Bool.eq_iff_iff]; simp only [beq_iff_eq]; rw [← UInt8.toNat_inj]; simp only [UInt8.reduceToNat]; omega
      have e34 : ((c.toNat : Int) == 34) = decide (c = 34) := by
        rw [Bool.eq_iff_iff]; simp only [beq_iff_eq, decide_eq_true_eq]; rw [← UInt8.toNat_inj]; simp only [UInt8.reduceToNat]; omega
      have e91 : ((c.toNat : Int) != 91) = decide (¬ c = 91) := by
        rw [Bool.eq_iff_iff]; simp only [bne_iff, decide_eq_true_eq]; rw [← UInt8.toNat_inj]; simp only [UInt8.reduceToNat]; omega
      have e123 : ((c.toNat : Int) != 123) = decide (¬ c = 123) := by
        rw [Bool.eq_iff_iff]; simp only [bne_iff, decide_eq_true_eq]; rw [← UInt8.toNat_inj]; simp only [UInt8.reduceToNat]; omega
      have e123' : ((c.toNat : Int) == 123) = decide (c = 123) := by
        rw [Bool.eq_iff_iff]; simp only [beq_iff_eq, decide_eq_true_eq]; rw [← UInt8.toNat_inj]; simp only [UInt8.reduceToNat]; omega
      have hp5 : ∀ D : Int, f13_p5_F (f13_S m).1 (f13_S m).2 (f13_p5_y a (i : Int) D ((n + 1 : Nat) : Int) (c.toNat : Int) 0 0 [] 0 0 0) = some (f13_p5_o0_y a (i : Int) D ((n + 1 : Nat) : Int) (c.toNat : Int) (c == 45 || digitB c) 0 0 [] 0 0 0) := by
        intro D
        have h1 : ((c.toNat : Int) ≥ 48) ↔ 48 ≤ c.toNat := by omega
        have h2 : ((c.toNat : Int) ≤ 57) ↔ c.toNat ≤ 57 := by omega
        rw [f13_p5_eq, e45]
        simp only [h1, h2, digitB]
        cases c == 45 with
        | true => rfl
        | false =>
          by_cases h : 48 ≤ c.toNat
          · simp [h]
          · simp [h]
      rw [hp5]
      simp only [Option.bind_some, f13_p5_o0_x36_y, f13_p5_o0_x9_y, f13_p5_o0_x0_y, f13_p5_o0_x1_y, f13_p5_o0_x2_y, f13_p5_o0_x3_y, f13_p5_o0_r0_0_y, f13_p5_o0_r0_1_y, f13_p5_o0_r0_2_y, f13_p5_o0_r0_5_y, f13_p5_o0_r0_6_y, f13_p5_o0_r0_7_y]
      have hsuf1 : a.drop (i + 1) <:+ a := List.drop_suffix _ _
      have hsuf0 : (c :: a.drop (i + 1)) <:+ a := by rw [← hci, ← e]; exact List.drop_suffix _ _
      cases hdig : (c == 45 || digitB c) with
      | true =>
        simp only [cond_true, if_true]
        rw [hrn]
        cases hnum : num (c :: a.drop (i + 1)) with
        | error er => exact ⟨num_err hnum, v0, 0, n + 1, rfl⟩
        | ok p =>
          obtain ⟨v, r⟩ := p
          exact ⟨rfl, (num_suf hnum).trans hsuf0⟩
      | false =>
        simp only [cond_false, Bool.false_eq_true, if_false, e34]
        by_cases h34 : c = 34
        · simp only [h34, decide_true, cond_true, if_true]
          rw [nxb (by omega), htx]
          cases ht : txt (a.drop (i + 1)) [] with
          | error er => exact ⟨txt_err _ (Nat.le_refl _) ht, ⟨2, 0, [], [], []⟩, 0, n + 1, rfl⟩
          | ok p =>
            obtain ⟨s, r⟩ := p
            exact ⟨rfl, (txt_suf _ (Nat.le_refl _) (by simp) ht).1.trans hsuf1⟩
        · simp only [h34, decide_false, cond_false, if_false]
          have hp4 : ∀ D : Int, f13_p4_F (f13_S m).1 (f13_S m).2 (f13_p4_y a (i : Int) D ((n + 1 : Nat) : Int) (c.toNat : Int) 0 0 [] 0 0 0) = some (f13_p4_o0_y a (i : Int) D ((n + 1 : Nat) : Int) (c.toNat : Int) (decide (¬ (c = 91 ∨ c = 123))) 0 0 [] 0 0 0) := by
            intro D
            rw [f13_p4_eq, e91, e123]
            by_cases h91 : c = 91
            · simp [h91]
            · simp [h91]
          rw [hp4]
          simp only [Option.bind_some, f13_p4_o0_x59_y, f13_p4_o0_x9_y, f13_p4_o0_x0_y, f13_p4_o0_x1_y, f13_p4_o0_x2_y, f13_p4_o0_x3_y, f13_p4_o0_r0_0_y, f13_p4_o0_r0_1_y, f13_p4_o0_r0_2_y, f13_p4_o0_r0_5_y, f13_p4_o0_r0_6_y, f13_p4_o0_r0_7_y]
          by_cases hb : c = 91 ∨ c = 123
          · simp only [hb, not_true_eq_false, decide_false, cond_false, if_true]
            have hp3 : ∀ D : Int, f13_p3_F (f13_S m).1 (f13_S m).2 (f13_p3_y a (i : Int) D ((n + 1 : Nat) : Int) (c.toNat : Int) 93 0 0 [] 0 0 0 3 0 []) = some (f13_p3_o0_y a (i : Int) D ((n + 1 : Nat) : Int) ((clo (if c = 123 then 4 else 3)).toNat : Int) 0 0 [] 0 0 0 (if c = 123 then 4 else 3) 0 []) := by
              intro D
              rw [f13_p3_eq, e123']
              by_cases h : c = 123
              · simp [h, clo]
              · simp [h, clo]
            rw [hp3]
            generalize hkk : (if c = 123 then (4 : Int) else 3) = k
            simp only [Option.bind_some, f13_p3_o0_x0_y, f13_p3_o0_x1_y, f13_p3_o0_x2_y, f13_p3_o0_x3_y, f13_p3_o0_x13_y, f13_p3_o0_r0_0_y, f13_p3_o0_r0_1_y, f13_p3_o0_r0_2_y, f13_p3_o0_r0_5_y, f13_p3_o0_r0_6_y, f13_p3_o0_r0_7_y, f13_p3_o0_r1_0_y, f13_p3_o0_r1_1_y, f13_p3_o0_r1_2_y]
            rw [nxb (by omega), sign_eq, Option.bind_some]
            have hloop := rloop a ha d (by omega) (f13_S m).1 (f13_S m).2 hG k 2001 (i + 1) (n + 1) (fuelOf f13_p2_sh (f13_p2_y a ((i + 1 : Nat) : Int) ((11 - d : Nat) : Int) ((n + 1 : Nat) : Int) ((clo k).toNat : Int) 0 0 [] 0 0 0 k 0 [] [] [])) [] [] hie (by omega) (fun q hq => by simp at hq) (by simp) (by simp) (by omega) (by rw [fuel_def]; omega)
            have hfin : ∀ r : List UInt8, r = a.drop (i + 1) → Res a (match openS k r with | .error e => .error e | .ok (.inl (v, r)) => .ok (v, r, n + 1) | .ok (.inr (f, r)) => itemsS (value d) 2001 f r (n + 1))
                ((go (f13_p2_st (f13_S m).1 (f13_S m).2) (f13_p2_y a ((i + 1 : Nat) : Int) ((12 - (d + 1) : Nat) : Int) ((n + 1 : Nat) : Int) ((clo k).toNat : Int) 0 0 [] 0 0 0 k 0 [] [] [])).bind fun o52 => some (((f13_p2_o0_r0_0 o52), ((f13_p2_o0_r0_1 o52), ((f13_p2_o0_r0_2 o52), ((f13_p2_o0_r0_3 o52), ((f13_p2_o0_r0_4 o52), ((f13_p2_o0_r0_5 o52), ((f13_p2_o0_r0_6 o52), ((f13_p2_o0_r0_7 o52), ())))))))), ())) := by
              intro r hr
              subst hr
              have hx : (match openS k (a.drop (i + 1)) with | .error e => .error e | .ok (.inl (v, r)) => .ok (v, r, n + 1) | .ok (.inr (f, r)) => itemsS (value d) 2001 f r (n + 1) : Except Int (V × List UInt8 × Nat)) = (match preK k [] (a.drop (i + 1)) with | .error e => .error e | .ok (ks, r) => itemsS (value d) 2001 ⟨k, 0, [], [], ks⟩ r (n + 1)) := by
                unfold openS preK
                by_cases h4 : k = 4
                · subst h4
                  simp only [if_true]
                  cases keyS [] (a.drop (i + 1)) with
                  | error e => rfl
                  | ok p => rfl
                · simp only [h4, if_false]
              rw [hx, show 12 - (d + 1) = 11 - d by omega]
              unfold go
              cases hm2 : (match preK k [] (a.drop (i + 1)) with | .error e => .error e | .ok (ks, r) => itemsS (value d) 2001 ⟨k, 0, [], [], ks⟩ r (n + 1) : Except Int (V × List UInt8 × Nat)) with
              | error er =>
                have hl2 : Out a (.error er) _ := hm2 ▸ (show Out a (match preK k [] (a.drop (i + 1)) with | .error e => .error e | .ok (ks, r) => itemsS (value d) 2001 ⟨k, 0, [], [], ks⟩ r (n + 1)) _ from hloop)
                obtain ⟨hne, v, j, cc, ho⟩ := hl2
                rw [ho]
                exact ⟨hne, v, j, cc, rfl⟩
              | ok q =>
                obtain ⟨v, t', n'⟩ := q
                have hl2 : Out a (.ok (v, t', n')) _ := hm2 ▸ (show Out a (match preK k [] (a.drop (i + 1)) with | .error e => .error e | .ok (ks, r) => itemsS (value d) 2001 ⟨k, 0, [], [], ks⟩ r (n + 1)) _ from hloop)
                obtain ⟨ho, hts⟩ := hl2
                rw [ho]
                exact ⟨rfl, hts⟩
            cases hr : a.drop (i + 1) with
            | nil =>
              simp only
              have hc : ((-1 : Int) == ((clo k).toNat : Int)) = false := by rw [beq_eq_false_iff_ne]; omega
              rw [hc, cond_false]
              exact hfin [] hr.symm
            | cons q r' =>
              simp only
              have ecl : ((q.toNat : Int) == ((clo k).toNat : Int)) = decide (q = clo k) := by
                rw [Bool.eq_iff_iff]; simp only [beq_iff_eq, decide_eq_true_eq]; rw [← UInt8.toNat_inj]; omega
              rw [ecl]
              by_cases hcl : q = clo k
              · simp only [hcl, decide_true, cond_true, if_true]
                have hl : r'.length + 1 = a.length - (i + 1) := by
                  have := congrArg List.length hr; simp only [List.length_drop, List.length_cons] at this; omega
                have : IntKind.i64.wrap (((i + 1 : Nat) : Int) + 1) = ((a.length - r'.length : Nat) : Int) := by rw [nxb (by omega)]; omega
                rw [this]
                exact ⟨rfl, (List.suffix_cons q r').trans (hr ▸ hsuf1)⟩
              · simp only [hcl, decide_false, cond_false, if_false]
                exact hfin (q :: r') hr.symm
          · simp only [hb, not_false_eq_true, decide_true, cond_true, if_false]
            rw [hw]
            exact ⟨by decide, v0, 0, 0, rfl⟩
end Go.Pe.Try
namespace Go.Pe.Try
open Go.Proofs Go.RowKit
set_option maxRecDepth 100000
set_option linter.unusedSimpArgs false
set_option linter.unusedVariables false
def okV : Nat → V → Prop
  | 0, _ => False
  | d + 1, v => v.items.length ≤ 3000 ∧ v.keys.length ≤ 3000 ∧ ∀ x ∈ v.items, okV d x
theorem items_okV (d : Nat) (hd : d ≤ 12) (hG : ∀ t n v t' n', value d t n = .ok (v, t', n') → t.length ≤ 70000 → n ≤ 2000 → okV d v) :
    ∀ (kk : Nat) (f : V) (t : List UInt8) (n : Nat) (v : V) (t' : List UInt8) (n' : Nat), n ≤ 2000 → t.length ≤ 70000 → (∀ x ∈ f.items, okV d x) → f.items.length ≤ n → f.keys.length ≤ n + 1 → itemsS (value d) kk f t n = .ok (v, t', n') → okV (d + 1) v := by
  intro kk
  induction kk with
  | zero => intro f t n v t' n' _ _ _ _ _ h; cases h
  | succ kk ih =>
    intro f t n v t' n' hn ht hf hfi hfk h
    unfold itemsS at h
    split at h
    · cases h
    · rename_i v1 t1 n1 hv
      have hvo := value_ok hd hn ht hv
      have hvl : t1.length ≤ t.length := by
        have := value_run d t n (List.replicate (12 - d) v0) 2002 (by simp; omega) hn (fun f hf => by rw [List.eq_of_mem_replicate hf]; simp [v0, V.items, V.keys]) ht (by omega)
        rw [hv] at this
        exact this.1
      have hx := hG _ _ _ _ _ hv ht hn
      have hall : ∀ x ∈ (addV f v1).items, okV d x := fun x hxm => by
        have hxm : x ∈ f.items ++ [v1] := hxm
        rcases List.mem_append.1 hxm with h | h
        · exact hf x h
        · simp at h; subst h; exact hx
      have hal : (addV f v1).items.length ≤ n1 := by show (f.items ++ [v1]).length ≤ n1; simp; omega
      have hak : (addV f v1).keys.length ≤ n1 + 1 := by show f.keys.length ≤ n1 + 1; omega
      split at h
      · cases h
      · rename_i c r
        simp only [List.length_cons] at hvl
        split at h
        · split at h
          · split at h
            · cases h
            · rename_i ks r' hks
              have hkl := keyS_len hks
              exact ih (withK (addV f v1) ks) _ _ _ _ _ hvo.2 (by omega) hall hal (show ks.length ≤ n1 + 1 by omega) h
          · exact ih _ _ _ _ _ _ hvo.2 (by omega) hall hal hak h
        · split at h
          · cases h
            exact ⟨by omega, by omega, hall⟩
          · cases h
theorem value_okV : ∀ (d : Nat), d ≤ 12 → ∀ (t : List UInt8) (n : Nat) (v : V) (t' : List UInt8) (n' : Nat), value d t n = .ok (v, t', n') → t.length ≤ 70000 → n ≤ 2000 → okV d v := by
  intro d
  induction d with
  | zero => intro _ t n v t' n' h; cases h
  | succ d ih =>
    intro hd t n v t' n' h ht hn
    unfold value at h
    split at h
    · cases h
    · rename_i v1 r hb
      cases h
      have hleaf : ∀ v r, beginS (11 - d) n t = .ok (.inl (v, r)) → v.items = [] ∧ v.keys = [] := by
        intro v r hb
        unfold beginS at hb
        split at hb
        · cases hb
        · split at hb
          · cases hb
          · cases t with
            | nil => cases hb
            | cons c r0 =>
              simp only at hb
              split at hb
              · split at hb
                · cases hb
                · cases hb; exact ⟨rfl, rfl⟩
              · split at hb
                · split at hb
                  · cases hb
                  · cases hb; exact ⟨rfl, rfl⟩
                · split at hb
                  · generalize (if c = 123 then (4 : Int) else 3) = k at hb
                    cases r0 with
                    | nil => obtain ⟨_, _, e, _⟩ := openS_ok hb; cases e
                    | cons q r' =>
                      simp only at hb
                      split at hb
                      · cases hb; exact ⟨rfl, rfl⟩
                      · obtain ⟨_, _, e, _⟩ := openS_ok hb; cases e
                  · cases hb
      obtain ⟨h1, h2⟩ := hleaf _ _ hb
      exact ⟨by rw [h1]; simp, by rw [h2]; simp, by rw [h1]; simp⟩
    · rename_i f r hb
      have hbo := beginS_ok hb
      simp only at hbo
      exact items_okV d (by omega) (fun t n v t' n' h1 h2 h3 => ih (by omega) t n v t' n' h1 h2 h3) 2001 f r (n + 1) v t' n' (by omega) (by omega) (by rw [hbo.2.2.1]; simp) (by rw [hbo.2.2.1]; simp) (by omega) h
def va (v : V) : Int × Int × List UInt8 × List V × List (List UInt8) × Unit := (v.kind, (v.n, (v.s, (v.items, (v.keys, ())))))
theorem f8_next (n : Nat) : (f8_S (n + 1)).1 = f8_b (f8_S n).1 (f8_S n).2 := by kernel_rfl
theorem same_self : ∀ (d m : Nat) (v : V), okV d v → d ≤ m → (f8_S m).1 (va v, (va v, ())) = some (true, ())
  | 0, m, v, h, _ => h.elim
  | d + 1, m, v, h, hm => by
    obtain ⟨m, rfl⟩ : ∃ j, m = j + 1 := ⟨m - 1, by omega⟩
    obtain ⟨h1, h2, h3⟩ := h
    have hi := fun x hx => same_self d m x (h3 x hx) (by omega)
    rw [f8_next]
    show f8_b _ _ ((v.kind, (v.n, (v.s, (v.items, (v.keys, ()))))), ((v.kind, (v.n, (v.s, (v.items, (v.keys, ()))))), ())) = _
    rw [f8_eq]
    have hp2 : f8_p2_F (f8_S m).1 (f8_S m).2 (f8_p2_y v.kind v.n v.s v.items v.keys v.kind v.n v.s v.items v.keys) = some (f8_p2_o0_y false v.kind v.n v.s v.items v.keys v.kind v.n v.s v.items v.keys) := by
      rw [f8_p2_eq]; simp
    have hk : ∀ X, go (f8_p1_st (f8_S m).1 (f8_S m).2) (f8_p1_y (v.keys.length : Int) 0 v.kind v.n v.s v.items v.keys v.kind v.n v.s v.items v.keys) = X → X = some (.inl (f8_p1_o0_y v.kind v.n v.s v.items v.keys v.kind v.n v.s v.items v.keys)) := by
      intro X hX
      rw [← hX]
      refine go_seq (y := fun i => f8_p1_y (v.keys.length : Int) (i : Int) v.kind v.n v.s v.items v.keys v.kind v.n v.s v.items v.keys) (n := v.keys.length) (fun i hi rec => ?_) (fun rec => ?_) (by rw [fuel_def]; omega)
      · rw [f8_p1_eq, lt_t hi, cond_true, nth_lt hi, Option.bind_some, Option.bind_some, bne_self_eq_false, cond_false, nxb (by omega)]
      · rw [f8_p1_eq]; simp
    have hit : ∀ X, go (f8_p0_st (f8_S m).1 (f8_S m).2) (f8_p0_y (v.items.length : Int) 0 v.kind v.n v.s v.items v.keys v.kind v.n v.s v.items v.keys) = X → X = some (.inl f8_p0_o0_y) := by
      intro X hX
      rw [← hX]
      refine go_seq (y := fun i => f8_p0_y (v.items.length : Int) (i : Int) v.kind v.n v.s v.items v.keys v.kind v.n v.s v.items v.keys) (n := v.items.length) (fun i hi' rec => ?_) (fun rec => ?_) (by rw [fuel_def]; omega)
      · have hs := hi v.items[i] (List.getElem_mem hi')
        unfold va at hs
        rw [f8_p0_eq, lt_t hi', cond_true, nth_lt hi', Option.bind_some, Option.bind_some, hs, Option.bind_some]
        simp only [Bool.not_true, cond_false]
        rw [nxb (by omega)]
      · rw [f8_p0_eq]; simp
    rw [hp2]
    simp only [Option.bind_some, f8_p2_o0_x43_y, cond_false, f8_p2_o0_r0_0_y, f8_p2_o0_r0_1_y, f8_p2_o0_r0_2_y, f8_p2_o0_r0_3_y, f8_p2_o0_r0_4_y, f8_p2_o0_r1_0_y, f8_p2_o0_r1_1_y, f8_p2_o0_r1_2_y, f8_p2_o0_r1_3_y, f8_p2_o0_r1_4_y]
    rw [hk _ rfl]
    simp only [Option.bind_some, f8_p1_o0_r0_0_y, f8_p1_o0_r0_1_y, f8_p1_o0_r0_2_y, f8_p1_o0_r0_3_y, f8_p1_o0_r0_4_y, f8_p1_o0_r1_0_y, f8_p1_o0_r1_1_y, f8_p1_o0_r1_2_y, f8_p1_o0_r1_3_y, f8_p1_o0_r1_4_y]
    rw [hit _ rfl]
    rfl
/-! ### Both parsers -/
def parseS (s : List UInt8) : V × Int := if 65536 < s.length then (v0, 2) else match value 12 s 0 with
  | .error e => (v0, e)
  | .ok (v, t', _) => if t' = [] then (v, 0) else (v0, 20)
theorem parse_eq (s : List UInt8) : f5_F (s, ()) = some (va (parseS s).1, ((parseS s).2, ())) := by
  unfold f5_F parseS
  by_cases h : 65536 < s.length
  · simp only [h, if_true]; rfl
  · simp only [h, if_false]
    rw [read_eq s (by omega)]
    cases value 12 s 0 with
    | error e => rfl
    | ok p =>
      obtain ⟨v, t', n⟩ := p
      simp only [Option.bind_some, h11_o_r0_0_y]
      by_cases ht : t' = []
      · simp only [ht, if_true]; rfl
      · simp only [ht, if_false]; rfl
theorem rparse_eq (s : List UInt8) : f6_F (s, ()) = some (va (parseS s).1, ((parseS s).2, ())) := by
  rw [f6_eq]
  unfold parseS
  by_cases h : 65536 < s.length
  · have : ((s.length : Int) > 65536) := by omega
    simp only [this, h, decide_true, cond_true, if_true]; rfl
  · have : ¬ ((s.length : Int) > 65536) := by omega
    simp only [this, h, decide_false, cond_false, if_false]
    have hr := rvalue s (by omega) 12 recN 0 0 (by omega) (by rw [recN_eq]; omega) (by omega) (by omega)
    have hf : (f13_S recN).1 (s, (((0 : Nat) : Int), (((12 - 12 : Nat) : Int), (((0 : Nat) : Int), ())))) = f13_F (s, (0, (0, (0, ())))) := rfl
    rw [hf, List.drop_zero] at hr
    cases hv : value 12 s 0 with
    | error e =>
      rw [hv] at hr
      obtain ⟨hne, v, j, c, ho⟩ := hr
      rw [ho]
      simp only [Option.bind_some, rv]
      rw [show (e != 0) = true by simpa using hne]; rfl
    | ok p =>
      obtain ⟨v, t', n⟩ := p
      rw [hv] at hr
      obtain ⟨ho, hts⟩ := hr
      have hl := hts.length_le
      rw [ho]
      simp only [Option.bind_some, rv]
      rw [show ((0 : Int) != 0) = false by decide, cond_false]
      by_cases ht : t' = []
      · subst ht
        have : ¬ (((s.length - ([] : List UInt8).length : Nat) : Int) < (s.length : Int)) := by simp
        simp only [this, decide_false, cond_false, if_true]; rfl
      · have h0 : 0 < t'.length := List.length_pos_iff.2 ht
        have : (((s.length - t'.length : Nat) : Int) < (s.length : Int)) := by omega
        simp only [this, decide_true, cond_true, ht, if_false]; rfl
theorem parseS_okV (s : List UInt8) : okV 12 (parseS s).1 := by
  have hz : okV 12 v0 := ⟨by simp [v0, V.items], by simp [v0, V.keys], by simp [v0, V.items]⟩
  unfold parseS
  split
  · exact hz
  · split
    · exact hz
    · rename_i h v t' n hv
      split
      · exact value_okV 12 (Nat.le_refl _) s 0 v t' n hv (by omega) (by omega)
      · exact hz
theorem alive_eq : f7_F () = some (true, ()) := by
  rw [f7_eq, parse_eq]
  have : parseS [91, 49, 44, 34, 97, 34, 93] = (⟨3, 0, [], [⟨1, 1, [], [], []⟩, ⟨2, 0, [97], [], []⟩], []⟩, 0) := by kernel_rfl
  rw [this]
  rfl
theorem law (s : List UInt8) : f3_F (s, ()) = some (true, ()) := by
  rw [f3_eq]
  have hm : minI (s.length : Int) (66000 : Int) = ((min s.length 66000 : Nat) : Int) := minI_nat s.length 66000
  rw [hm, cutHi_nat' _ _ _ (Nat.min_le_left _ _)]
  generalize s.take (min s.length 66000) = t
  rw [parse_eq, rparse_eq, alive_eq]
  have hs : f8_F (va (parseS t).1, (va (parseS t).1, ())) = some (true, ()) := same_self 12 recN _ (parseS_okV t) (by rw [recN_eq]; omega)
  simp only [Option.bind_some, cond_true, BEq.rfl]
  unfold va at hs ⊢
  simp only at hs ⊢
  rw [hs]
  rfl
end Go.Pe.Try
namespace Go.Pe.Try
open Go.Proofs Go.RowKit
set_option maxRecDepth 100000
set_option linter.unusedSimpArgs false
set_option linter.unusedVariables false
def deepE (d : Nat) : Int := if d ≤ 12 then 0 else 21
def deepB (d : Nat) : Bool := ((parseS (Lib.repeatL [91] d ++ Lib.repeatL [93] d)).2 == deepE d) && ((parseS ((Lib.repeatL [91] (d - 1) ++ [55]) ++ Lib.repeatL [93] (d - 1))).2 == deepE d)
theorem deep_all : ((List.range 40).all fun d => deepB (d + 1)) = true := by kernel_rfl
theorem deep_eq (d : Nat) (h1 : 1 ≤ d) (h2 : d ≤ 40) : (parseS (Lib.repeatL [91] d ++ Lib.repeatL [93] d)).2 = deepE d ∧ (parseS ((Lib.repeatL [91] (d - 1) ++ [55]) ++ Lib.repeatL [93] (d - 1))).2 = deepE d := by
  have := List.all_eq_true.1 deep_all (d - 1) (by simp; omega)
  rw [show d - 1 + 1 = d by omega] at this
  simpa [deepB] using this
end Go.Pe.Try
namespace Go.Pe.Try
open Go.Proofs Go.RowKit
set_option maxRecDepth 100000
set_option linter.unusedSimpArgs false
set_option linter.unusedVariables false
theorem txt_lt : ∀ (k : Nat) {t acc s r : List UInt8}, t.length ≤ k → txt t acc = .ok (s, r) → r.length < t.length
  | k, [], _, _, _, _, h => by simp [txt] at h
  | 0, c :: r', _, _, _, hk, h => by simp at hk
  | k + 1, c :: r', acc, s, r, hk, h => by
    simp only [List.length_cons] at hk ⊢
    unfold txt at h
    split at h
    · cases h
    · split at h
      · cases h; omega
      · split at h
        · split at h
          · cases h
          · rename_i c' r''
            simp only [List.length_cons] at hk ⊢
            split at h
            · split at h
              · cases h
              · have := txt_lt k (by omega) h; omega
            · cases h
        · split at h
          · cases h
          · have := txt_lt k (by omega) h; omega
theorem txt_cut : ∀ (k : Nat) {p q acc s r : List UInt8}, p.length ≤ k → txt (p ++ q) acc = .ok (s, r) → (∃ p', r = p' ++ q ∧ txt p acc = .ok (s, p')) ∨ (r.length < q.length ∧ txt p acc = .error 3)
  | k, [], q, acc, s, r, _, h => .inr ⟨txt_lt _ (Nat.le_refl _) h, by simp [txt]⟩
  | 0, c :: p, _, _, _, _, hk, h => by simp at hk
  | k + 1, c :: p, q, acc, s, r, hk, h => by
    simp only [List.length_cons] at hk
    rw [List.cons_append] at h
    unfold txt at h ⊢
    by_cases h32 : c.toNat < 32
    · simp [h32] at h
    simp only [h32, if_false] at h ⊢
    by_cases h34 : c = 34
    · simp only [h34, if_true] at h ⊢
      cases h; exact .inl ⟨p, rfl, rfl⟩
    simp only [h34, if_false] at h ⊢
    by_cases h92 : c = 92
    · simp only [h92, if_true] at h ⊢
      cases p with
      | nil =>
        simp only [List.nil_append] at h
        refine .inr ⟨?_, rfl⟩
        cases q with
        | nil => cases h
        | cons c' r'' =>
          simp only at h
          split at h
          · split at h
            · cases h
            · have := txt_lt _ (Nat.le_refl _) h; simp only [List.length_cons]; omega
          · cases h
      | cons c' p' =>
        simp only [List.cons_append] at h ⊢
        simp only [List.length_cons] at hk
        by_cases hm : c' = 34 ∨ c' = 92
        · simp only [hm, if_true] at h ⊢
          by_cases h4 : acc.length = 4000
          · simp [h4] at h
          · simp only [h4, if_false] at h ⊢
            exact txt_cut k (by omega) h
        · simp [hm] at h
    · simp only [h92, if_false] at h ⊢
      by_cases h4 : acc.length = 4000
      · simp [h4] at h
      · simp only [h4, if_false] at h ⊢
        exact txt_cut k (by omega) h
theorem keyS_lt {keys ks : List (List UInt8)} {t r : List UInt8} (h : keyS keys t = .ok (ks, r)) : r.length < t.length := by
  have := (keyS_len h).1
  cases t with
  | nil => cases h
  | cons c s =>
    simp only [keyS] at h
    split at h
    · split at h
      · cases h
      · rename_i s' r' htx
        have := txt_len _ (Nat.le_refl _) htx
        split at h
        · cases h
        · split at h
          · cases h
          · split at h
            · cases h; simp only [List.length_cons] at *; omega
            · cases h
    · cases h
theorem keyS_cut {keys ks : List (List UInt8)} {p q r : List UInt8} (h : keyS keys (p ++ q) = .ok (ks, r)) : (∃ p', r = p' ++ q ∧ keyS keys p = .ok (ks, p')) ∨ (r.length < q.length ∧ keyS keys p = .error 3) := by
  cases p with
  | nil => exact .inr ⟨keyS_lt h, rfl⟩
  | cons c p =>
    rw [List.cons_append] at h
    simp only [keyS] at h ⊢
    by_cases hc : c = 34
    · simp only [hc, if_true] at h ⊢
      cases htx : txt (p ++ q) [] with
      | error e => rw [htx] at h; cases h
      | ok x =>
        obtain ⟨s, r1⟩ := x
        rw [htx] at h
        simp only at h
        by_cases hl : late keys s = true
        · simp [hl] at h
        simp only [hl, Bool.false_eq_true, if_false] at h
        rcases txt_cut _ (Nat.le_refl _) htx with ⟨p', rfl, ht⟩ | ⟨hlt, ht⟩
        · rw [ht]
          simp only [hl, Bool.false_eq_true, if_false]
          cases p' with
          | nil =>
            refine .inr ⟨?_, rfl⟩
            simp only [List.nil_append] at h
            cases q with
            | nil => cases h
            | cons d q' =>
              simp only at h
              split at h
              · cases h; simp
              · cases h
          | cons d p'' =>
            simp only [List.cons_append] at h ⊢
            by_cases hd : d = 58
            · simp only [hd, if_true] at h ⊢
              cases h; exact .inl ⟨p'', rfl, rfl⟩
            · simp [hd] at h
        · rw [ht]
          refine .inr ⟨?_, rfl⟩
          cases r1 with
          | nil => cases h
          | cons d r2 =>
            simp only at h
            split at h
            · cases h; simp only [List.length_cons] at hlt; omega
            · cases h
    · simp [hc] at h
end Go.Pe.Try
namespace Go.Pe.Try
open Go.Proofs Go.RowKit
set_option maxRecDepth 100000
set_option linter.unusedSimpArgs false
set_option linter.unusedVariables false
theorem tw_app (p q : List UInt8) : (p.dropWhile digitB ≠ [] ∧ (p ++ q).takeWhile digitB = p.takeWhile digitB ∧ (p ++ q).dropWhile digitB = p.dropWhile digitB ++ q) ∨
    (p.dropWhile digitB = [] ∧ p.takeWhile digitB = p ∧ (p ++ q).takeWhile digitB = p ++ q.takeWhile digitB ∧ (p ++ q).dropWhile digitB = q.dropWhile digitB) := by
  induction p with
  | nil => exact .inr ⟨rfl, rfl, rfl, rfl⟩
  | cons c p ih =>
    simp only [List.cons_append, List.takeWhile_cons, List.dropWhile_cons]
    cases h : digitB c with
    | false => exact .inl ⟨by simp, by simp, by simp⟩
    | true =>
      simp only [if_true]
      rcases ih with ⟨h1, h2, h3⟩ | ⟨h1, h2, h3, h4⟩
      · exact .inl ⟨h1, by rw [h2], h3⟩
      · exact .inr ⟨h1, by rw [h2], by rw [h3], h4⟩
theorem dval_app (l x : List UInt8) : dval l ≤ dval (l ++ x) := by
  induction x generalizing l with
  | nil => simp
  | cons c x ih =>
    have := ih (l ++ [c])
    rw [List.append_assoc] at this
    exact Nat.le_trans (dval_mono l c) this
theorem numS_cut {neg : Bool} {p q : List UInt8} {v : Int} {r : List UInt8} (h : numS neg (p ++ q) = .ok (v, r)) :
    (∃ p', r = p' ++ q ∧ numS neg p = .ok (v, p')) ∨ (r.length < q.length ∧ ((p = [] ∧ numS neg p = .error 20) ∨ (p ≠ [] ∧ ∃ v', numS neg p = .ok (v', [])))) := by
  rcases tw_app p q with ⟨h1, h2, h3⟩ | ⟨h1, h2, h3, h4⟩
  · unfold numS at h ⊢
    rw [h2, h3] at h
    split at h
    · cases h
    · rename_i hb
      split at h
      · cases h
      · rename_i hc
        cases h
        exact .inl ⟨_, rfl, by rw [if_neg hb, if_neg hc]⟩
  · unfold numS at h ⊢
    rw [h3, h4] at h
    rw [h1, h2]
    obtain ⟨x, hx⟩ : ∃ x, x = q.takeWhile digitB := ⟨_, rfl⟩
    have hxq := tw_dw q
    rw [← hx] at h hxq
    split at h
    · cases h
    · rename_i hb
      split at h
      · cases h
      · rename_i hc
        cases h
        cases x with
        | nil =>
          simp only [List.append_nil] at hb hc ⊢
          refine .inl ⟨[], by simpa using hxq, ?_⟩
          rw [if_neg hb, if_neg hc]
        | cons y x =>
          refine .inr ⟨by have := congrArg List.length hxq; simp only [List.cons_append, List.length_cons, List.length_append] at this; omega, ?_⟩
          cases p with
          | nil => exact .inl ⟨rfl, by simp [badNum]⟩
          | cons c p =>
            refine .inr ⟨by simp, ?_⟩
            have hne : c ≠ 48 := by
              intro e
              apply hb
              simp [badNum, e]; omega
            have hb' : ¬ badNum neg (c :: p) = true := by
              have : (c :: p == ([48] : List UInt8)) = false := by simp [hne]
              simp [badNum, hne]
            have hl : ¬ (13 < (c :: p).length ∨ 1099511627776 < dval (c :: p)) := by
              intro e
              apply hc
              rcases e with e | e
              · left; simp only [List.length_append, List.length_cons] at e ⊢; omega
              · right; exact Nat.lt_of_lt_of_le e (dval_app _ _)
            rw [if_neg hb', if_neg hl]
            exact ⟨_, rfl⟩
theorem num_lt {t : List UInt8} {v : Int} {r : List UInt8} (h : num t = .ok (v, r)) : r.length < t.length := by
  cases t with
  | nil => cases h
  | cons c s =>
    simp only [num] at h
    split at h
    · have := numS_len h; simp only [List.length_cons]; omega
    · have hd : (c :: s).takeWhile digitB ≠ [] := by
        intro e
        unfold numS at h
        rw [e] at h
        simp [badNum] at h
      unfold numS at h
      split at h
      · cases h
      · split at h
        · cases h
        · cases h
          have := congrArg List.length (tw_dw (c :: s))
          rw [List.length_append] at this
          have h0 : 0 < ((c :: s).takeWhile digitB).length := List.length_pos_iff.2 hd
          omega
theorem num_cut {p q : List UInt8} {v : Int} {r : List UInt8} (hp : p ≠ []) (h : num (p ++ q) = .ok (v, r)) :
    (∃ p', r = p' ++ q ∧ num p = .ok (v, p')) ∨ (r.length < q.length ∧ ((p = [45] ∧ num p = .error 20) ∨ ∃ v', num p = .ok (v', []))) := by
  cases p with
  | nil => exact absurd rfl hp
  | cons c p =>
    rw [List.cons_append] at h
    simp only [num] at h ⊢
    by_cases h45 : c = 45
    · simp only [h45, if_true] at h ⊢
      rcases numS_cut h with ⟨p', h1, h2⟩ | ⟨h1, ⟨rfl, h2⟩ | ⟨_, v', h2⟩⟩
      · exact .inl ⟨p', h1, h2⟩
      · exact .inr ⟨h1, .inl ⟨rfl, h2⟩⟩
      · exact .inr ⟨h1, .inr ⟨v', h2⟩⟩
    · simp only [h45, if_false] at h ⊢
      rw [← List.cons_append] at h
      rcases numS_cut h with ⟨p', h1, h2⟩ | ⟨h1, ⟨h0, _⟩ | ⟨_, v', h2⟩⟩
      · exact .inl ⟨p', h1, h2⟩
      · cases h0
      · exact .inr ⟨h1, .inr ⟨v', h2⟩⟩
end Go.Pe.Try
namespace Go.Pe.Try
open Go.Proofs Go.RowKit
set_option maxRecDepth 100000
set_option linter.unusedSimpArgs false
set_option linter.unusedVariables false
def Err (p : List UInt8) (e : Int) : Prop := e = 3 ∨ (p.getLast? = some 45 ∧ e = 20) ∨ (p.getLast? = some 91 ∧ e = 21)
theorem getLast_suf {p p2 : List UInt8} (h : p2 <:+ p) {c : UInt8} (hl : p2.getLast? = some c) : p.getLast? = some c := by
  obtain ⟨x, rfl⟩ := h
  cases p2 with
  | nil => cases hl
  | cons a l => rw [List.getLast?_append, hl]; rfl
theorem Err.suf {p p2 : List UInt8} {e : Int} (h : Err p2 e) (hs : p2 <:+ p) : Err p e := by
  rcases h with h | ⟨h1, h2⟩ | ⟨h1, h2⟩
  · exact .inl h
  · exact .inr (.inl ⟨getLast_suf hs h1, h2⟩)
  · exact .inr (.inr ⟨getLast_suf hs h1, h2⟩)
/-! ### How much is counted -/
theorem openS_lt {k : Int} {r : List UInt8} {f : V} {r' : List UInt8} (h : openS k r = .ok (.inr (f, r'))) : r'.length ≤ r.length := by
  obtain ⟨_, _, e, h1, _⟩ := openS_ok h
  cases e; exact h1
theorem beginS_lt {d n : Nat} {t : List UInt8} {x : (V × List UInt8) ⊕ (V × List UInt8)} (h : beginS d n t = .ok x) : match x with | .inl (v, r) => r.length < t.length | .inr (f, r) => r.length < t.length := by
  unfold beginS at h
  split at h
  · cases h
  · split at h
    · cases h
    · cases t with
      | nil => cases h
      | cons c r =>
        simp only at h
        generalize (if c = 123 then (4 : Int) else 3) = k at h
        split at h
        · split at h
          · cases h
          · rename_i v r' hnum
            cases h; exact num_lt hnum
        · split at h
          · split at h
            · cases h
            · rename_i s r' htx
              cases h; have := txt_lt _ (Nat.le_refl _) htx; simp only [List.length_cons]; omega
          · split at h
            · cases r with
              | nil =>
                obtain ⟨f, r', rfl, h1, h2, h3⟩ := openS_ok h
                simp only [List.length_cons, List.length_nil] at h1 ⊢; omega
              | cons d r' =>
                simp only at h
                split at h
                · cases h; simp only [List.length_cons]; omega
                · obtain ⟨f, r', rfl, h1, h2, h3⟩ := openS_ok h
                  simp only [List.length_cons] at h1 ⊢; omega
            · cases h
theorem items_count (G : List UInt8 → Nat → Except Int (V × List UInt8 × Nat)) (hG : ∀ t n v r n', G t n = .ok (v, r, n') → 2 * n' + r.length ≤ 2 * n + t.length + 1) :
    ∀ (kk : Nat) (f : V) (t : List UInt8) (n : Nat) (v : V) (r : List UInt8) (n' : Nat), itemsS G kk f t n = .ok (v, r, n') → 2 * n' + r.length ≤ 2 * n + t.length := by
  intro kk
  induction kk with
  | zero => intro f t n v r n' h; cases h
  | succ kk ih =>
    intro f t n v r n' h
    unfold itemsS at h
    split at h
    · cases h
    · rename_i v1 t1 n1 hv
      have h1 := hG _ _ _ _ _ hv
      split at h
      · cases h
      · rename_i c r1
        simp only [List.length_cons] at h1
        split at h
        · split at h
          · split at h
            · cases h
            · rename_i ks r2 hks
              have := (keyS_len hks).1
              have := ih _ _ _ _ _ _ h
              omega
          · have := ih _ _ _ _ _ _ h
            omega
        · split at h
          · cases h; omega
          · cases h
theorem value_count : ∀ (d : Nat) (t : List UInt8) (n : Nat) (v : V) (r : List UInt8) (n' : Nat), value d t n = .ok (v, r, n') → 2 * n' + r.length ≤ 2 * n + t.length + 1 := by
  intro d
  induction d with
  | zero => intro t n v r n' h; cases h
  | succ d ih =>
    intro t n v r n' h
    unfold value at h
    split at h
    · cases h
    · rename_i v1 r1 hb
      cases h
      have := beginS_lt hb
      simp only at this; omega
    · rename_i f r1 hb
      have h1 := beginS_lt hb
      simp only at h1
      have := items_count (value d) ih 2001 f r1 (n + 1) v r n' h
      omega
theorem txt_sufx : ∀ (k : Nat) {t acc s r : List UInt8}, t.length ≤ k → txt t acc = .ok (s, r) → r <:+ t
  | k, [], _, _, _, _, h => by simp [txt] at h
  | 0, c :: r', _, _, _, hk, h => by simp at hk
  | k + 1, c :: r', acc, s, r, hk, h => by
    simp only [List.length_cons] at hk
    unfold txt at h
    split at h
    · cases h
    · split at h
      · cases h; exact List.suffix_cons _ _
      · split at h
        · split at h
          · cases h
          · rename_i c' r''
            simp only [List.length_cons] at hk
            split at h
            · split at h
              · cases h
              · exact (txt_sufx k (by omega) h).trans ((List.suffix_cons _ _).trans (List.suffix_cons _ _))
            · cases h
        · split at h
          · cases h
          · exact (txt_sufx k (by omega) h).trans (List.suffix_cons _ _)
theorem keyS_sufx {keys ks : List (List UInt8)} {t r : List UInt8} (h : keyS keys t = .ok (ks, r)) : r <:+ t := by
  cases t with
  | nil => cases h
  | cons c s =>
    simp only [keyS] at h
    split at h
    · split at h
      · cases h
      · rename_i s' r' htx
        have := txt_sufx _ (Nat.le_refl _) htx
        split at h
        · cases h
        · split at h
          · cases h
          · split at h
            · cases h; exact ((List.suffix_cons _ _).trans this).trans (List.suffix_cons _ _)
            · cases h
    · cases h
/-! ### Cut values -/
def Cut (G : List UInt8 → Nat → Except Int (V × List UInt8 × Nat)) (m : Nat) : Prop := ∀ (p q : List UInt8) (n : Nat) (v : V) (r : List UInt8) (n' : Nat), 2 * n + (p ++ q).length ≤ m → G (p ++ q) n = .ok (v, r, n') →
  (∃ p', r = p' ++ q ∧ p' <:+ p ∧ G p n = .ok (v, p', n')) ∨ (∃ e, G p n = .error e ∧ Err p e) ∨ (v.kind = 1 ∧ ∃ v' n'', G p n = .ok (v', [], n''))
theorem items_cut (G : List UInt8 → Nat → Except Int (V × List UInt8 × Nat)) (m : Nat) (hC : Cut G m) (hG : ∀ t n v r n', G t n = .ok (v, r, n') → 2 * n' + r.length ≤ 2 * n + t.length + 1) :
    ∀ (kk : Nat) (f : V) (p q : List UInt8) (n : Nat) (v : V) (r : List UInt8) (n' : Nat), 2 * n + (p ++ q).length ≤ m → itemsS G kk f (p ++ q) n = .ok (v, r, n') →
    (∃ p', r = p' ++ q ∧ p' <:+ p ∧ itemsS G kk f p n = .ok (v, p', n')) ∨ ∃ e, itemsS G kk f p n = .error e ∧ Err p e := by
  intro kk
  induction kk with
  | zero => intro f p q n v r n' _ h; cases h
  | succ kk ih =>
    intro f p q n v r n' hm h
    unfold itemsS at h ⊢
    cases hv : G (p ++ q) n with
    | error e => rw [hv] at h; cases h
    | ok x =>
      obtain ⟨v1, t1, n1⟩ := x
      rw [hv] at h
      have hcnt := hG _ _ _ _ _ hv
      rcases hC p q n v1 t1 n1 hm hv with ⟨p1, rfl, hs1, hp⟩ | ⟨e, hp, he⟩ | ⟨_, v', n'', hp⟩
      · rw [hp]
        simp only at h ⊢
        cases p1 with
        | nil => exact .inr ⟨3, rfl, .inl rfl⟩
        | cons c p2 =>
          simp only [List.cons_append, List.length_append, List.length_cons] at h hcnt hm ⊢
          have hs2 : p2 <:+ p := (List.suffix_cons _ _).trans hs1
          by_cases h44 : c = 44
          · simp only [h44, if_true] at h ⊢
            by_cases h4 : f.kind = 4
            · simp only [h4, if_true] at h ⊢
              cases hks : keyS f.keys (p2 ++ q) with
              | error e => rw [hks] at h; cases h
              | ok y =>
                obtain ⟨ks, r2⟩ := y
                rw [hks] at h
                simp only at h
                have hkl := (keyS_len hks).1
                rcases keyS_cut hks with ⟨p3, rfl, hk⟩ | ⟨_, hk⟩
                · rw [hk]
                  simp only
                  have hs3 : p3 <:+ p2 := by
                    have := keyS_sufx hk; exact this
                  simp only [List.length_append] at hkl
                  rcases ih _ p3 q n1 v r n' (by simp only [List.length_append]; omega) h with ⟨p', h1, h2, h3⟩ | ⟨e, h1, h2⟩
                  · exact .inl ⟨p', h1, h2.trans (hs3.trans hs2), h3⟩
                  · exact .inr ⟨e, h1, h2.suf (hs3.trans hs2)⟩
                · rw [hk]; exact .inr ⟨3, rfl, .inl rfl⟩
            · simp only [h4, if_false] at h ⊢
              rcases ih _ p2 q n1 v r n' (by simp only [List.length_append]; omega) h with ⟨p', h1, h2, h3⟩ | ⟨e, h1, h2⟩
              · exact .inl ⟨p', h1, h2.trans hs2, h3⟩
              · exact .inr ⟨e, h1, h2.suf hs2⟩
          · simp only [h44, if_false] at h ⊢
            by_cases hcl : c = clo f.kind
            · rw [if_pos hcl] at h ⊢
              cases h; exact .inl ⟨p2, rfl, hs2, rfl⟩
            · rw [if_neg hcl] at h; cases h
      · rw [hp]; exact .inr ⟨e, rfl, he⟩
      · rw [hp]; exact .inr ⟨3, rfl, .inl rfl⟩
end Go.Pe.Try
namespace Go.Pe.Try
open Go.Proofs Go.RowKit
set_option maxRecDepth 100000
set_option linter.unusedSimpArgs false
set_option linter.unusedVariables false
theorem beginS_nil {D n : Nat} (hD : D ≠ 12) (hn : n ≠ 2000) : beginS D n [] = .error 3 := by
  unfold beginS; rw [if_neg hD, if_neg hn]
theorem openS_cut {k : Int} {p q : List UInt8} {x : (V × List UInt8) ⊕ (V × List UInt8)} (h : openS k (p ++ q) = .ok x) :
    (∃ f p', x = .inr (f, p' ++ q) ∧ p' <:+ p ∧ openS k p = .ok (.inr (f, p'))) ∨ openS k p = .error 3 := by
  unfold openS at h ⊢
  by_cases h4 : k = 4
  · simp only [h4, if_true] at h ⊢
    cases hk : keyS [] (p ++ q) with
    | error e => rw [hk] at h; cases h
    | ok y =>
      obtain ⟨ks, r⟩ := y
      rw [hk] at h
      cases h
      rcases keyS_cut hk with ⟨p', rfl, h1⟩ | ⟨_, h1⟩
      · rw [h1]; exact .inl ⟨_, p', rfl, keyS_sufx h1, rfl⟩
      · rw [h1]; exact .inr rfl
  · simp only [h4, if_false] at h ⊢
    cases h; exact .inl ⟨_, p, rfl, List.suffix_refl _, rfl⟩
theorem begin_cut {D n : Nat} {p q : List UInt8} {x : (V × List UInt8) ⊕ (V × List UInt8)} (hp : p ≠ []) (h : beginS D n (p ++ q) = .ok x) :
    (∃ v p', x = .inl (v, p' ++ q) ∧ p' <:+ p ∧ beginS D n p = .ok (.inl (v, p'))) ∨
    (∃ f p', x = .inr (f, p' ++ q) ∧ p' <:+ p ∧ p'.length < p.length ∧ beginS D n p = .ok (.inr (f, p'))) ∨
    (∃ e, beginS D n p = .error e ∧ Err p e) ∨
    (∃ v r v', x = .inl (v, r) ∧ v.kind = 1 ∧ beginS D n p = .ok (.inl (v', []))) ∨
    (p.getLast? = some 91 ∧ ∃ f, beginS D n p = .ok (.inr (f, []))) := by
  cases p with
  | nil => exact absurd rfl hp
  | cons c p1 =>
    rw [List.cons_append] at h
    unfold beginS at h ⊢
    by_cases hD : D = 12
    · rw [if_pos hD] at h; cases h
    rw [if_neg hD] at h ⊢
    by_cases hn : n = 2000
    · rw [if_pos hn] at h; cases h
    rw [if_neg hn] at h ⊢
    simp only at h ⊢
    by_cases hdg : (c == 45 || digitB c) = true
    · rw [if_pos hdg] at h ⊢
      cases hnum : num (c :: (p1 ++ q)) with
      | error e => rw [hnum] at h; cases h
      | ok y =>
        obtain ⟨v, r⟩ := y
        rw [hnum] at h
        cases h
        rcases num_cut (p := c :: p1) (by simp) hnum with ⟨p', rfl, h1⟩ | ⟨_, ⟨h0, h1⟩ | ⟨v', h1⟩⟩
        · rw [h1]; exact .inl ⟨_, p', rfl, num_suf h1, rfl⟩
        · rw [h1, h0]; exact .inr (.inr (.inl ⟨20, rfl, .inr (.inl ⟨rfl, rfl⟩)⟩))
        · rw [h1]; exact .inr (.inr (.inr (.inl ⟨_, _, _, rfl, rfl, rfl⟩)))
    · rw [if_neg hdg] at h ⊢
      by_cases h34 : c = 34
      · rw [if_pos h34] at h ⊢
        cases htx : txt (p1 ++ q) [] with
        | error e => rw [htx] at h; cases h
        | ok y =>
          obtain ⟨s, r⟩ := y
          rw [htx] at h
          cases h
          rcases txt_cut _ (Nat.le_refl _) htx with ⟨p', rfl, h1⟩ | ⟨_, h1⟩
          · rw [h1]; exact .inl ⟨_, p', rfl, (txt_sufx _ (Nat.le_refl _) h1).trans (List.suffix_cons _ _), rfl⟩
          · rw [h1]; exact .inr (.inr (.inl ⟨3, rfl, .inl rfl⟩))
      · rw [if_neg h34] at h ⊢
        by_cases hb : c = 91 ∨ c = 123
        · rw [if_pos hb] at h ⊢
          obtain ⟨k, hk⟩ : ∃ k, k = (if c = 123 then (4 : Int) else 3) := ⟨_, rfl⟩
          rw [← hk] at h ⊢
          cases p1 with
          | nil =>
            simp only
            by_cases h123 : c = 123
            · rw [if_pos h123] at hk
              subst hk
              exact .inr (.inr (.inl ⟨3, rfl, .inl rfl⟩))
            · rw [if_neg h123] at hk
              subst hk
              have h91 : c = 91 := hb.resolve_right h123
              subst h91
              exact .inr (.inr (.inr (.inr ⟨rfl, _, rfl⟩)))
          | cons d p2 =>
            simp only [List.cons_append] at h ⊢
            by_cases hd : d = clo k
            · rw [if_pos hd] at h ⊢
              cases h
              exact .inl ⟨_, p2, rfl, (List.suffix_cons _ _).trans (List.suffix_cons _ _), rfl⟩
            · rw [if_neg hd] at h ⊢
              rw [← List.cons_append] at h
              rcases openS_cut h with ⟨f, p', h1, h2, h3⟩ | h3
              · exact .inr (.inl ⟨f, p', h1, h2.trans (List.suffix_cons _ _), by have := h2.length_le; simp only [List.length_cons] at this ⊢; omega, h3⟩)
              · exact .inr (.inr (.inl ⟨3, h3, .inl rfl⟩))
        · rw [if_neg hb] at h; cases h
theorem value_cut : ∀ d : Nat, Cut (value d) (3012 - d) := by
  intro d
  induction d with
  | zero => intro p q n v r n' _ h; cases h
  | succ d ih =>
    intro p q n v r n' hm h
    have hn2 : n ≠ 2000 := by omega
    by_cases hp : p = []
    · subst hp
      refine .inr (.inl ⟨3, ?_, .inl rfl⟩)
      unfold value
      rw [beginS_nil (by omega) hn2]
    unfold value at h ⊢
    cases hb : beginS (11 - d) n (p ++ q) with
    | error e => rw [hb] at h; cases h
    | ok x =>
      rw [hb] at h
      rcases begin_cut hp hb with ⟨v1, p', rfl, hs, h1⟩ | ⟨f, p', rfl, hs, hl, h1⟩ | ⟨e, h1, h2⟩ | ⟨v1, r1, v', rfl, hk, h1⟩ | ⟨hgl, f, h1⟩
      · rw [h1]; cases h; exact .inl ⟨p', rfl, hs, rfl⟩
      · rw [h1]
        simp only at h ⊢
        rcases items_cut (value d) (3012 - d) ih (value_count d) 2001 f p' q (n + 1) v r n' (by simp only [List.length_append] at hm ⊢; omega) h with ⟨p2, g1, g2, g3⟩ | ⟨e, g1, g2⟩
        · exact .inl ⟨p2, g1, g2.trans hs, g3⟩
        · exact .inr (.inl ⟨e, g1, g2.suf hs⟩)
      · rw [h1]; exact .inr (.inl ⟨e, rfl, h2⟩)
      · rw [h1]; cases h; exact .inr (.inr ⟨hk, _, _, rfl⟩)
      · rw [h1]
        refine .inr (.inl ?_)
        simp only
        rw [show itemsS (value d) 2001 f [] (n + 1) = itemsS (value d) (2000 + 1) f [] (n + 1) from rfl, itemsS]
        cases d with
        | zero => exact ⟨21, rfl, .inr (.inr ⟨hgl, rfl⟩)⟩
        | succ d =>
          have : value (d + 1) [] (n + 1) = .error 3 := by
            unfold value
            rw [beginS_nil (by omega) (by omega)]
          rw [this]
          exact ⟨3, rfl, .inl rfl⟩
/-- Of a text that parses and is no number, a part of it tells of its end. -/
theorem parse_cut (p q : List UInt8) (hq : q ≠ []) (hl : (p ++ q).length ≤ 3000) (h0 : (parseS (p ++ q)).2 = 0) (hk : (parseS (p ++ q)).1.kind ≠ 1) : Err p (parseS p).2 := by
  have hlp : p.length ≤ (p ++ q).length := by simp
  unfold parseS at h0 hk ⊢
  rw [if_neg (by omega)] at h0 hk ⊢
  cases hv : value 12 (p ++ q) 0 with
  | error e =>
    rw [hv] at h0
    have := (rvalue (p ++ q) (by omega) 12 recN 0 0 (by omega) (by rw [recN_eq]; omega) (by omega) (by omega))
    rw [List.drop_zero, hv] at this
    exact absurd h0 this.1
  | ok x =>
    obtain ⟨v, r, n'⟩ := x
    rw [hv] at h0 hk
    simp only at h0 hk
    by_cases hr : r = []
    · simp only [hr, if_true] at h0 hk
      subst hr
      rcases value_cut 12 p q 0 v [] n' (by omega) hv with ⟨p', h1, _, _⟩ | ⟨e, h1, h2⟩ | ⟨h1, _⟩
      · exact absurd (List.append_eq_nil_iff.1 h1.symm).2 hq
      · rw [h1]; exact h2
      · exact absurd h1 hk
    · simp only [hr, if_false] at h0; cases h0
end Go.Pe.Try
namespace Go.Pe.Try
open Go.Proofs Go.RowKit
set_option maxRecDepth 100000
set_option linter.unusedSimpArgs false
set_option linter.unusedVariables false
theorem rep_len (c : UInt8) : ∀ n, (Lib.repeatL [c] n).length = n
  | 0 => rfl
  | n + 1 => by simp [Lib.repeatL, rep_len c n]
theorem rep_eq (c : UInt8) (n : Nat) (h : n ≤ 100) : repeatF ([c], ((n : Int), ())) = some (Lib.repeatL [c] n, ()) := by
  unfold repeatF
  rw [if_pos (show 0 ≤ (n : Int) ∧ (n : Int) ≤ 9223372036854775807 ∧ [c].length * (n : Int).toNat ≤ 140737488355328 from ⟨by omega, by omega, by simp only [List.length_cons, List.length_nil, Int.toNat_natCast]; omega⟩)]
  show some (Lib.repeatL [c] (Int.toNat (n : Int)), ()) = _
  rw [Int.toNat_natCast]
theorem p2_eq (d : Nat) (s : List UInt8) (x : Int) : f4_p2_F (f4_p2_y (d : Int) s x (deepE d) (deepE d)) = some (f4_p2_o0_y s x false) := by
  rw [f4_p2_eq, alive_eq]
  unfold deepE
  by_cases h : d ≤ 12
  · have h1 : ((d : Int) ≤ 12) := by omega
    have h2 : ¬ ((d : Int) > 12) := by omega
    simp [h, h1, h2]
  · have h1 : ¬ ((d : Int) ≤ 12) := by omega
    have h2 : ((d : Int) > 12) := by omega
    simp [h, h1, h2]
theorem lawDeep (a0 : Int) (a1 : List UInt8) (a2 : Int) : f4_F (a0, (a1, (a2, ()))) = some (true, ()) := by
  rw [f4_eq]
  obtain ⟨d, hd, h1, h2⟩ : ∃ d : Nat, minI (maxI a0 (1 : Int)) (40 : Int) = (d : Int) ∧ 1 ≤ d ∧ d ≤ 40 := by
    have hb : 1 ≤ minI (maxI a0 (1 : Int)) (40 : Int) ∧ minI (maxI a0 (1 : Int)) (40 : Int) ≤ 40 := by
      rw [minI_eq, maxI_eq]; (repeat' split) <;> omega
    exact ⟨(minI (maxI a0 (1 : Int)) (40 : Int)).toNat, by omega, by omega, by omega⟩
  have hw : IntKind.i64.wrap ((d : Int) - 1) = ((d - 1 : Nat) : Int) := by rw [wrap64 (by omega) (by omega)]; omega
  obtain ⟨hd1, hd2⟩ := deep_eq d h1 h2
  rw [hd, hw, rep_eq 91 d (by omega), rep_eq 93 d (by omega), rep_eq 91 (d - 1) (by omega), rep_eq 93 (d - 1) (by omega)]
  simp only [Option.bind_some]
  rw [if_pos (by rw [rep_len, rep_len]; omega), parse_eq]
  simp only [Option.bind_some]
  rw [if_pos (by rw [rep_len]; simp; omega), if_pos (by rw [List.length_append, rep_len, rep_len]; simp; omega), parse_eq]
  simp only [Option.bind_some]
  rw [hd1, hd2, p2_eq]
  simp only [Option.bind_some, f4_p2_o0_x59_y, cond_false, f4_p2_o0_x1_y, f4_p2_o0_x2_y]
  have hm : minI (a1.length : Int) (3000 : Int) = ((min a1.length 3000 : Nat) : Int) := minI_nat a1.length 3000
  rw [hm, cutHi_nat' _ _ _ (Nat.min_le_left _ _)]
  have htl : (a1.take (min a1.length 3000)).length ≤ 3000 := by simp; omega
  generalize a1.take (min a1.length 3000) = t at htl
  rw [parse_eq]
  simp only [Option.bind_some, va]
  rw [f4_p1_eq]
  by_cases he : (parseS t).2 = 0
  rotate_left
  · have : ((parseS t).2 != 0) = true := by simpa using he
    rw [this]; rfl
  have he' : ((parseS t).2 != 0) = false := by simpa using he
  rw [he', cond_false]
  by_cases hk : (parseS t).1.kind = 1
  · have : ((parseS t).1.kind == 1) = true := by simpa using hk
    rw [this]; rfl
  have hk' : ((parseS t).1.kind == 1) = false := by simpa using hk
  rw [hk', cond_false]
  by_cases ht : t.length = 0
  · have : ((t.length : Int) == 0) = true := by simpa using ht
    rw [this]; rfl
  have ht' : ((t.length : Int) == 0) = false := by rw [beq_eq_false_iff_ne]; omega
  rw [ht']
  simp only [Option.bind_some, f4_p1_o0_x88_y, cond_false, f4_p1_o0_x1_y, f4_p1_o0_x2_y]
  obtain ⟨k, hk2, hk3⟩ : ∃ k : Nat, minI (maxI a2 (0 : Int)) (maxI (IntKind.i64.wrap ((t.length : Int) - (1 : Int))) (0 : Int)) = (k : Int) ∧ k < t.length := by
    have hwl : IntKind.i64.wrap ((t.length : Int) - 1) = (t.length : Int) - 1 := wrap64 (by omega) (by omega)
    have hb : 0 ≤ minI (maxI a2 (0 : Int)) (maxI (IntKind.i64.wrap ((t.length : Int) - (1 : Int))) (0 : Int)) ∧ minI (maxI a2 (0 : Int)) (maxI (IntKind.i64.wrap ((t.length : Int) - (1 : Int))) (0 : Int)) < (t.length : Int) := by
      rw [hwl, minI_eq, maxI_eq, maxI_eq]; (repeat' split) <;> omega
    exact ⟨(minI (maxI a2 (0 : Int)) (maxI (IntKind.i64.wrap ((t.length : Int) - (1 : Int))) (0 : Int))).toNat, by omega, by omega⟩
  rw [hk2, cutHi_nat' _ _ _ (by omega), parse_eq]
  simp only [Option.bind_some]
  have hsplit : t.take k ++ t.drop k = t := List.take_append_drop k t
  have hqne : t.drop k ≠ [] := by
    intro e
    have := congrArg List.length e
    simp at this; omega
  have herr := parse_cut (t.take k) (t.drop k) hqne (by rw [hsplit]; exact htl) (by rw [hsplit]; exact he) (by rw [hsplit]; exact hk)
  generalize (parseS (t.take k)).2 = e at herr
  rw [f4_p0_eq]
  rcases Nat.eq_zero_or_pos k with h0 | h0
  · subst h0
    have : ¬ (((0 : Nat) : Int) > 0) := by omega
    simp only [this, decide_false, cond_false, Option.bind_some, f4_p0_o0_x119_y, f4_p0_o0_x14_y]
    rcases herr with rfl | ⟨h, _⟩ | ⟨h, _⟩
    · rfl
    · simp at h
    · simp at h
  · have hgt : ((k : Int) > 0) := by omega
    have hwk : IntKind.i64.wrap ((k : Int) - 1) = ((k - 1 : Nat) : Int) := by rw [wrap64 (by omega) (by omega)]; omega
    have hlt : k - 1 < t.length := by omega
    have hgl : (t.take k).getLast? = some t[k - 1] := by
      rw [List.getLast?_eq_getElem?, List.length_take, List.getElem?_take_of_lt (by omega)]
      rw [show min k t.length - 1 = k - 1 by omega, List.getElem?_eq_getElem hlt]
    have e45 : ((t[k - 1].toNat : Int) == 45) = decide (t[k - 1] = 45) := by
      rw [Bool.eq_iff_iff]; simp only [beq_iff_eq, decide_eq_true_eq]; rw [← UInt8.toNat_inj]; simp only [UInt8.reduceToNat]; omega
    have e91 : ((t[k - 1].toNat : Int) == 91) = decide (t[k - 1] = 91) := by
      rw [Bool.eq_iff_iff]; simp only [beq_iff_eq, decide_eq_true_eq]; rw [← UInt8.toNat_inj]; simp only [UInt8.reduceToNat]; omega
    rw [hwk, nth_lt hlt]
    simp only [hgt, decide_true, cond_true, Option.bind_some, e45, e91]
    unfold Err at herr
    rw [hgl] at herr
    simp only [Option.some.injEq] at herr
    rcases herr with rfl | ⟨h, rfl⟩ | ⟨h, rfl⟩
    · by_cases h45 : t[k - 1] = 45
      · simp [h45]
      · by_cases h91 : t[k - 1] = 91
        · simp [h91]
        · simp [h45, h91]
    · simp [h]
    · simp [h]
end Go.Pe.Try
