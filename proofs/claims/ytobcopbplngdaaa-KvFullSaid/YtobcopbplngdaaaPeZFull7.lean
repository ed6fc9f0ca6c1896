/- Texts of the proof, what is used of them: K6, K7, X17a, K2, K8, K9, K10, K11, K12, K13, K14, Open, Open2, K15. -/
import Derived.Sort.Walk0
import Derived.SliceStrings
import Derived.SizedLaws
import Derived.WideShapes
import Derived.Test.YtobcopbplngdaaaPeZFull6
section
namespace Go.Pe.Try
open Go.Proofs Go.RowKit Go.Pe.Kv
set_option maxRecDepth 100000
set_option linter.unusedSimpArgs false
set_option linter.unusedVariables false
theorem wrap_add (i c : Nat) (h : i < 4611686018427387904) (hc : c ≤ 2) : IntKind.i64.wrap ((i : Int) + (c : Int)) = ((i + c : Nat) : Int) := by rw [wrap64 (by omega) (by omega)]; rfl
def okOne (a b : Str) : Bool := decide (1 ≤ a.length ∧ a.length ≤ 200 ∧ b.length ≤ 3000)
def okP : List Str → Bool
  | a :: b :: r => okOne a b && okP r
  | _ => true
def pairsB (l : List Str) : Bool := decide (l ≠ [] ∧ l.length % 2 = 0 ∧ l.length ≤ 64) && okP l
theorem drop2 {l : List Str} {i : Nat} (h : i + 1 < l.length) : l.drop i = l[i] :: l[i + 1] :: l.drop (i + 2) := by
  rw [List.drop_eq_getElem_cons (by omega), List.drop_eq_getElem_cons (i := i + 1) h]
theorem nth_next {l : List Str} {i : Nat} (h : i + 1 < l.length) (hb : l.length < 4611686018427387904) : nth l (IntKind.i64.wrap ((i : Int) + (1 : Int))) = some l[i + 1] := by
  rw [show (1 : Int) = ((1 : Nat) : Int) from rfl, wrap_add i 1 (by omega) (by omega), nth_lt h]
theorem pairs_guard (l : List Str) (i : Nat) (h : i + 1 < l.length) (hb : l.length ≤ 1000) : f41_p0_F (f41_p0_y l i) = some (f41_p0_o0_y l i (!okOne l[i] l[i + 1])) := by
  rw [f41_p0_eq, nth_lt (by omega), Option.bind_some, nth_next h (by omega), Option.bind_some, Option.bind_some]
  unfold okOne
  by_cases h1 : 1 ≤ l[i].length
  · rw [show decide ((l[i].length : Int) < 1) = false from by simp only [decide_eq_false_iff_not]; omega, cond_false]
    by_cases h2 : l[i].length ≤ 200
    · rw [show decide ((l[i].length : Int) > 200) = false from by simp only [decide_eq_false_iff_not]; omega, cond_false]
      have : decide ((l[i + 1].length : Int) > 3000) = !decide (1 ≤ l[i].length ∧ l[i].length ≤ 200 ∧ l[i + 1].length ≤ 3000) := by
        by_cases h3 : l[i + 1].length ≤ 3000
        · rw [show decide ((l[i + 1].length : Int) > 3000) = false from by simp only [decide_eq_false_iff_not]; omega, decide_eq_true ⟨h1, h2, h3⟩]; rfl
        · rw [show decide ((l[i + 1].length : Int) > 3000) = true from by simp only [decide_eq_true_eq]; omega, decide_eq_false fun h => h3 h.2.2]; rfl
      rw [this]
    · rw [show decide ((l[i].length : Int) > 200) = true from by simp only [decide_eq_true_eq]; omega, cond_true, decide_eq_false fun h => h2 h.2.1]; rfl
  · rw [show decide ((l[i].length : Int) < 1) = true from by simp only [decide_eq_true_eq]; omega, cond_true, decide_eq_false fun h => h1 h.1]; rfl
theorem pairs_loop (l : List Str) (hb : l.length ≤ 1000) : ∀ (d i : Nat), i + 2 * d = l.length → ∀ n, d + 1 ≤ n →
    iter f41_p1_st n (f41_p1_y l i) = some (bif okP (l.drop i) then .inl f41_p1_o0_y else .inr (f41_p1_o1_y false)) := by
  intro d
  induction d with
  | zero =>
    intro i hi n hn
    obtain ⟨n, rfl⟩ : ∃ k, n = k + 1 := ⟨n - 1, by omega⟩
    rw [iter, f41_p1_eq, show decide ((i : Int) < (l.length : Int)) = false from by simp; omega, cond_false, List.drop_eq_nil_of_le (by omega)]; rfl
  | succ d ih =>
    intro i hi n hn
    obtain ⟨n, rfl⟩ : ∃ k, n = k + 1 := ⟨n - 1, by omega⟩
    rw [iter, f41_p1_eq, show decide ((i : Int) < (l.length : Int)) = true from by simp; omega, cond_true, pairs_guard l i (by omega) hb, Option.bind_some]
    rw [show ∀ b, f41_p0_o0_x46 (f41_p0_o0_y l i b) = b from fun _ => rfl, drop2 (by omega)]
    cases hk : okOne l[i] l[i + 1]
    · simp only [okP, hk, Bool.not_false, cond_true, Bool.false_and, cond_false]
    · simp only [okP, hk, Bool.not_true, cond_false, Bool.true_and]
      show iter f41_p1_st n (f41_p1_y l (IntKind.i64.wrap ((i : Int) + ((2 : Nat) : Int)))) = _
      rw [wrap_add i 2 (by omega) (by omega), ih (i + 2) (by omega) n (by omega)]
theorem pairs_eq (l : List Str) (hb : l.length ≤ 1000) : f41_F (l, ()) = some (pairsB l, ()) := by
  rw [f41_eq, f41_p2_eq]
  unfold pairsB
  by_cases h1 : l = []
  · subst h1; rfl
  rw [show ((l.length : Int) == 0) = false from by simp [h1], cond_false]
  have e2 : Int.tmod (l.length : Int) 2 = ((l.length % 2 : Nat) : Int) := rfl
  rw [e2]
  by_cases h2 : l.length % 2 = 0
  · rw [show (((l.length % 2 : Nat) : Int) != 0) = false from by rw [h2]; rfl, cond_false, Option.bind_some]
    rw [show ∀ b, f41_p2_o0_x17 (f41_p2_o0_y l b) = b from fun _ => rfl]
    by_cases h3 : l.length ≤ 64
    · rw [show decide ((l.length : Int) > 64) = false from by simp; omega, cond_false, decide_eq_true ⟨h1, h2, h3⟩]
      have : go f41_p1_st (f41_p1_y l 0) = some (bif okP l then .inl f41_p1_o0_y else .inr (f41_p1_o1_y false)) := by
        refine go_le (m := l.length + 1) (fun n hn => ?_) (by rw [fuel_def]; omega)
        exact pairs_loop l hb (l.length / 2) 0 (by omega) n (by omega)
      show (((go f41_p1_st (f41_p1_y l 0)).bind _)) = _
      rw [this, Option.bind_some]
      cases okP l <;> rfl
    · rw [show decide ((l.length : Int) > 64) = true from by simp; omega, cond_true, decide_eq_false fun h => h3 h.2.2]; rfl
  · rw [show (((l.length % 2 : Nat) : Int) != 0) = true from by rw [bne_iff_ne]; omega, cond_true, Option.bind_some, decide_eq_false fun h => h2 h.2.1]; rfl
def ents : List Str → Option (List (List Str))
  | [] => some []
  | e :: r => match parts e.length 64 e with
    | some p => if pairsB p then (ents r).map (p :: ·) else none
    | none => none
theorem parts_len : ∀ (k c : Nat) (s : Str) (r : List Str), parts k c s = some r → r.length ≤ c
  | 0, c, s, r, h => by
    simp only [parts] at h
    split at h
    · cases h; simp
    · cases h
  | k + 1, c, s, r, h => by
    simp only [parts] at h
    split at h
    · cases h; simp
    split at h
    · cases h
    split at h
    · cases h
    split at h
    · cases h
    obtain ⟨r', hr, rfl⟩ := Option.map_eq_some_iff.1 h
    have := parts_len k (c - 1) _ r' hr
    simp only [List.length_cons]; omega
theorem parse_small : ∀ (k : Nat) (s : Str) (r : List Str), parse k s = some r → (∀ e ∈ r, e.length ≤ 4096) ∧ r.length ≤ s.length
  | 0, s, r, h => by
    simp only [parse] at h
    split at h
    · cases h; simp
    · cases h
  | k + 1, s, r, h => by
    simp only [parse] at h
    split at h
    · cases h; simp
    split at h
    · cases h
    split at h
    · cases h
    rename_i h1 h2 h3
    obtain ⟨r', hr, rfl⟩ := Option.map_eq_some_iff.1 h
    obtain ⟨g1, g2⟩ := parse_small k _ r' hr
    refine ⟨fun e he => ?_, ?_⟩
    · rcases List.mem_cons.1 he with rfl | he
      · simp; omega
      · exact g1 e he
    · simp only [List.length_cons, List.length_drop] at g2 ⊢; omega
theorem ents_guard (x5 : Int) (p : List Str) (x10 : Int) (l : List Str) (x17 x18 : Int) (acc : List (List Str)) (hp : p.length ≤ 1000) (h0 : x10 = 0) : f29_p0_F (f29_p0_y x5 p x10 l x17 x18 acc) = some (f29_p0_o0_y x5 p l x17 x18 (!pairsB p) acc) := by
  rw [f29_p0_eq, h0, show ((0 : Int) != 0) = false from rfl, cond_false, pairs_eq p hp, Option.bind_some]
theorem ents_guard1 (x5 : Int) (p : List Str) (x10 : Int) (l : List Str) (x17 x18 : Int) (acc : List (List Str)) (h0 : x10 = 22 ∨ x10 = 3) : f29_p0_F (f29_p0_y x5 p x10 l x17 x18 acc) = some (f29_p0_o0_y x5 p l x17 x18 true acc) := by
  rw [f29_p0_eq, show (x10 != 0) = true from by rcases h0 with rfl | rfl <;> rfl, cond_true]
theorem ents_loop (x5 : Int) (l : List Str) (hl : l.length ≤ 1000000) (hs : ∀ e ∈ l, e.length ≤ 4096) : ∀ (d i : Nat), i + d = l.length → ∀ n, d + 1 ≤ n → ∀ acc : List (List Str), acc.length ≤ i →
    iter f29_p1_st n (f29_p1_y x5 l l.length i acc) = some (match ents (l.drop i) with | some r => .inl (f29_p1_o0_y x5 (acc ++ r)) | none => .inr (f29_p1_o1_y false)) := by
  intro d
  induction d with
  | zero =>
    intro i hi n hn acc ha
    obtain ⟨n, rfl⟩ : ∃ k, n = k + 1 := ⟨n - 1, by omega⟩
    rw [iter, f29_p1_eq, show decide ((i : Int) < (l.length : Int)) = false from by simp; omega, cond_false, List.drop_eq_nil_of_le (by omega)]
    simp [ents]
  | succ d ih =>
    intro i hi n hn acc ha
    obtain ⟨n, rfl⟩ : ∃ k, n = k + 1 := ⟨n - 1, by omega⟩
    have hil : i < l.length := by omega
    have he := hs _ (List.getElem_mem hil)
    rw [iter, f29_p1_eq, show decide ((i : Int) < (l.length : Int)) = true from by simp; omega, cond_true, nth_lt hil, Option.bind_some, List.drop_eq_getElem_cons hil]
    obtain ⟨e, hee, hu⟩ := unpack_eq l[i] (by omega)
    rw [hu, Option.bind_some]
    cases hp : parts l[i].length 64 l[i] with
    | none =>
      dsimp only
      rw [ents_guard1 _ _ _ _ _ _ _ hee, Option.bind_some]
      simp only [ents, hp]; rfl
    | some p =>
      have hpl := parts_len _ _ _ _ hp
      dsimp only
      rw [ents_guard _ _ _ _ _ _ _ (by omega) rfl, Option.bind_some]
      rw [show ∀ b, f29_p0_o0_x33 (f29_p0_o0_y x5 p l l.length i b acc) = b from fun _ => rfl]
      cases hk : pairsB p
      · simp only [ents, hp, hk]; rfl
      · simp only [Bool.not_true, cond_false]
        show appOk (acc.length + 1) (iter f29_p1_st n (f29_p1_y x5 l l.length (IntKind.i64.wrap ((i : Int) + ((1 : Nat) : Int))) (acc ++ [p]))) = _
        rw [appOk_lt (by omega), wrap_add i 1 (by omega) (by omega), ih (i + 1) (by omega) n (by omega) _ (by simp; omega)]
        simp only [ents, hp, hk, if_true]
        cases ents (l.drop (i + 1)) with
        | none => rfl
        | some r => simp
def rows (t : Str) : Option (List (List Str)) := (parse t.length t).bind ents
theorem entries_eq (t : Str) (ht : t.length ≤ 100000) : f29_F (t, ()) = some (match rows t with | some r => (r, (true, ())) | none => ([], (false, ()))) := by
  rw [f29_eq, read_eq t (by omega), Option.bind_some]
  unfold rows
  cases hp : parse t.length t with
  | none =>
    dsimp only
    have : go f29_p1_st (f29_p1_y 41 [] (0 : Int) 0 []) = some (.inl (f29_p1_o0_y 41 [])) := by
      refine go_le (m := 1) (fun n hn => ?_) (by rw [fuel_def]; omega)
      exact ents_loop 41 [] (by simp) (by simp) 0 0 rfl n hn [] (by simp)
    show ((go f29_p1_st (f29_p1_y 41 [] (0 : Int) 0 [])).bind _) = _
    rw [this]; rfl
  | some l =>
    obtain ⟨h1, h2⟩ := parse_small _ _ _ hp
    dsimp only
    have : go f29_p1_st (f29_p1_y 0 l l.length 0 []) = some (match ents l with | some r => .inl (f29_p1_o0_y 0 r) | none => .inr (f29_p1_o1_y false)) := by
      refine go_le (m := l.length + 1) (fun n hn => ?_) (by rw [fuel_def]; omega)
      have := ents_loop 0 l (by omega) h1 l.length 0 (by omega) n hn [] (by simp)
      simpa using this
    rw [this, Option.bind_some, Option.bind_some]
    cases ents l with
    | none => rfl
    | some r => rfl
end Go.Pe.Try
end
section
namespace Go.Pe.Try
open Go.Proofs Go.RowKit Go.Pe.Kv
set_option maxRecDepth 100000
set_option linter.unusedSimpArgs false
set_option linter.unusedVariables false
def E (M : List PR) : List (Unit × (Str × Str)) := M.map fun x => ((), x)
theorem mpairs_E (M : List PR) : mpairs .str .str false (E M) = M := by
  show (M.map fun x => ((), x)).map (kv (k := .str) (v := .str) false) = M
  rw [List.map_map]
  have : (kv (k := .str) (v := .str) false ∘ fun x : PR => ((), x)) = id := rfl
  rw [this, List.map_id]
theorem mput_E (M : List PR) (a b : Str) : mput .str .str false (E M) a b = E (mapPut eqS a b M) := by
  show ((mapPut (keyEq .str) a b (mpairs .str .str false (E M))).map (ent (k := .str) (v := .str) false)) = _
  rw [mpairs_E]; rfl
theorem mdel_E (M : List PR) (a : Str) : mdel .str .str false (E M) a = E (mapDel eqS a M) := by
  show ((mapDel (keyEq .str) a (mpairs .str .str false (E M))).map (ent (k := .str) (v := .str) false)) = _
  rw [mpairs_E]; rfl
theorem mget_E (M : List PR) (a : Str) : mget .str .str false (E M) a = mapGet eqS a M := by
  show mapGet (keyEq .str) a (mpairs .str .str false (E M)) = _
  rw [mpairs_E]
theorem over_step (l : List Str) (i : Nat) (h : i + 1 < l.length) (hb : l.length ≤ 1000) (hs : ∀ s ∈ l, s.length ≤ 4611686018427387904) (M : List PR) (hM : M.length ≤ 1000000) :
    h30_p0_F (h30_p0_y l i (E M)) = some (h30_p0_o0_y l i (E (Kv.step M l[i] l[i + 1]))) := by
  rw [h30_p0_eq, nth_lt (by omega), Option.bind_some, nth_next h (by omega), Option.bind_some, Option.bind_some, mpairs_E, appOk_lt (by omega)]
  have hk := hs _ (List.getElem_mem (l := l) (n := i) (by omega))
  show lenOk l[i].length _ = _
  rw [lenOk, if_pos hk, mput_E]
  unfold Kv.step
  by_cases hb : l[i + 1] = []
  · rw [show (l[i + 1] == ([] : List UInt8)) = true from by rw [hb]; rfl, cond_true, if_pos hb, Option.bind_some, mdel_E]
  · rw [show (l[i + 1] == ([] : List UInt8)) = false from by simp [hb], cond_false, if_neg hb]
theorem over_loop (l : List Str) (hb : l.length ≤ 1000) (hs : ∀ s ∈ l, s.length ≤ 4611686018427387904) : ∀ (d i : Nat), i + 2 * d = l.length → ∀ n, d + 1 ≤ n → ∀ M : List PR, M.length + d ≤ 1000000 →
    iter h30_p1_st n (h30_p1_y l i (E M)) = some (h30_p1_o0_y (E (overM M (l.drop i)))) := by
  intro d
  induction d with
  | zero =>
    intro i hi n hn M hM
    obtain ⟨n, rfl⟩ : ∃ k, n = k + 1 := ⟨n - 1, by omega⟩
    rw [iter, h30_p1_eq, show decide ((i : Int) < (l.length : Int)) = false from by simp; omega, cond_false, List.drop_eq_nil_of_le (by omega)]; rfl
  | succ d ih =>
    intro i hi n hn M hM
    obtain ⟨n, rfl⟩ : ∃ k, n = k + 1 := ⟨n - 1, by omega⟩
    rw [iter, h30_p1_eq, show decide ((i : Int) < (l.length : Int)) = true from by simp; omega, cond_true, over_step l i (by omega) hb hs M (by omega), Option.bind_some, drop2 (by omega)]
    show iter h30_p1_st n (h30_p1_y l (IntKind.i64.wrap ((i : Int) + ((2 : Nat) : Int))) (E (Kv.step M l[i] l[i + 1]))) = _
    have := step_len M l[i] l[i + 1]
    rw [wrap_add i 2 (by omega) (by omega), ih (i + 2) (by omega) n (by omega) _ (by omega)]
    rfl
theorem over_eq (l : List Str) (hb : l.length ≤ 1000) (he : l.length % 2 = 0) (hs : ∀ s ∈ l, s.length ≤ 4611686018427387904) (M : List PR) (hM : M.length ≤ 900000) : h30_F (h30_y l (E M)) = some (h30_o_y (E (overM M l))) := by
  rw [h30_eq]
  have : go h30_p1_st (h30_p1_y l 0 (E M)) = some (h30_p1_o0_y (E (overM M l))) := by
    refine go_le (m := l.length + 1) (fun n hn => ?_) (by rw [fuel_def]; omega)
    exact over_loop l hb hs (l.length / 2) 0 (by omega) n (by omega) M (by omega)
  rw [this]; rfl
theorem overM_len : ∀ (l : List Str) (M : List PR), (overM M l).length ≤ M.length + l.length
  | [], M => by simp [overM]
  | [_], M => by simp [overM]
  | a :: b :: r, M => by
    have := overM_len r (Kv.step M a b)
    have h2 := step_len M a b
    simp only [overM, List.length_cons]; omega
theorem over_len (a b : Str) : ∀ (done : Bool) (A : List PR), (ov a b done A).length ≤ A.length + (if done then 0 else 1)
  | done, [] => by cases done <;> simp [ov]
  | done, x :: r => by
    have h1 := over_len a b true r
    have h2 := over_len a b false r
    have e1 : ∀ (c : Prop) [Decidable c] (x : PR), (if c then [x] else []).length ≤ 1 := fun c _ x => by split <;> simp
    have := e1 (x.1 ≠ a) x
    simp only [if_true, Bool.false_eq_true, if_false] at h1 h2
    cases done
    · cases hlt : decide (x.1 < a) <;> simp only [ov, hlt, List.length_append, Bool.not_false, Bool.not_true, Bool.and_true, Bool.and_false, Bool.or_true, Bool.or_false, if_true, Bool.false_eq_true, if_false, List.length_cons, List.length_nil] <;> omega
    · simp only [ov, List.length_append, Bool.not_true, Bool.false_and, Bool.or_false, if_true, Bool.false_eq_true, if_false, List.length_cons, List.length_nil]; omega
theorem all_keys {n : Nat} : ∀ (l : List Str) (A : List PR), (∀ s ∈ l, s.length ≤ n) → (∀ x ∈ A, x.1.length ≤ n ∧ x.2.length ≤ n) → ∀ x ∈ Kv.all A l, x.1.length ≤ n ∧ x.2.length ≤ n
  | [], A, _, h => h
  | [_], A, _, h => h
  | a :: b :: r, A, hl, h => by
    refine all_keys r (Kv.over A a b) (fun s hs => hl s (by simp [hs])) fun x hx => ?_
    obtain ⟨k, v⟩ := x
    rcases (over_mem A a b k v).1 hx with ⟨_, hx⟩ | ⟨_, rfl, rfl⟩
    · exact h _ hx
    · exact ⟨hl _ (by simp), hl _ (by simp)⟩
theorem all_len : ∀ (l : List Str) (A : List PR), (Kv.all A l).length ≤ A.length + l.length
  | [], A => by simp [Kv.all]
  | [_], A => by simp [Kv.all]
  | a :: b :: r, A => by
    have h1 := all_len r (Kv.over A a b)
    have h2 := over_len a b (b == []) A
    have : (Kv.over A a b).length ≤ A.length + 1 := by unfold Kv.over; split at h2 <;> omega
    simp only [Kv.all, List.length_cons]; omega
end Go.Pe.Try
end
section
namespace Go.Pe.X17
abbrev Sec := List UInt8
abbrev Wr := Int × List UInt8
def badS (s : Sec) : Bool := (s.length : Int) != 128
def badW (n : Nat) (w : Wr) : Bool := decide (w.1 < 0) || (decide (w.1 ≥ (n : Int)) || (w.2.length : Int) != 128)
def right (S : List Sec) (D : List Wr) : Bool := !(decide ((S.length : Int) < 4)) && (!(decide ((S.length : Int) > 64)) && (!(decide ((D.length : Int) > 200)) && (!S.any badS && !D.any (badW S.length))))
structure Right (S : List Sec) (D : List Wr) : Prop where
  lo : 4 ≤ S.length
  hi : S.length ≤ 64
  few : D.length ≤ 200
  sec : ∀ s ∈ S, s.length = 128
  wr : ∀ w ∈ D, 0 ≤ w.1 ∧ w.1 < (S.length : Int) ∧ w.2.length = 128
theorem right_iff {S : List Sec} {D : List Wr} : right S D = true ↔ Right S D := by
  unfold right
  simp only [Bool.and_eq_true, Bool.not_eq_true', decide_eq_false_iff_not, List.any_eq_false, badS, badW, bne_iff_ne, Bool.or_eq_true, decide_eq_true_eq, Classical.not_not, not_or]
  constructor
  · rintro ⟨h1, h2, h3, h4, h5⟩
    exact ⟨by omega, by omega, by omega, fun s hs => by have := h4 s hs; omega, fun w hw => by have := h5 w hw; omega⟩
  · rintro ⟨h1, h2, h3, h4, h5⟩
    exact ⟨by omega, by omega, by omega, fun s hs => by have := h4 s hs; omega, fun w hw => by have := h5 w hw; omega⟩
def stand (at_ : Int) (s : Sec) (w : Wr) : Sec := bif w.1 == at_ then w.2 else s
def stands (S : List Sec) (D : List Wr) (k : Nat) : Sec := D.foldl (stand k) (S.getD k [])
def put (S : List Sec) (w : Wr) : List Sec := S.set w.1.toNat w.2
theorem puts_len (D : List Wr) : ∀ S : List Sec, (D.foldl put S).length = S.length := by
  induction D with
  | nil => intro S; rfl
  | cons w D ih => intro S; rw [List.foldl_cons, ih]; simp [put]
theorem puts_right {S : List Sec} {D : List Wr} (h : Right S D) : Right (D.foldl put S) [] := by
  have key : ∀ (D : List Wr) (S : List Sec), (∀ s ∈ S, s.length = 128) → (∀ w ∈ D, w.2.length = 128) → ∀ s ∈ D.foldl put S, s.length = 128 := by
    intro D
    induction D with
    | nil => intro S h _; exact h
    | cons w D ih =>
      intro S h1 h2
      refine ih (put S w) (fun s hs => ?_) fun v hv => h2 v (by simp [hv])
      rcases List.mem_or_eq_of_mem_set hs with h | h
      · exact h1 s h
      · rw [h]; exact h2 w (by simp)
  exact ⟨by rw [puts_len]; exact h.lo, by rw [puts_len]; exact h.hi, by simp, key D S h.sec fun w hw => (h.wr w hw).2.2, by simp⟩
end Go.Pe.X17
end
section
namespace Go.Pe.Try
open Go.Proofs Go.RowKit Go.Pe.X17
set_option maxRecDepth 100000
set_option linter.unusedSimpArgs false
set_option linter.unusedVariables false
abbrev Wr := Go.Pe.X17.Wr
theorem find_any {α : Type} (l : List α) (p : α → Bool) : (∃ k, l.findIdx? p = some k ∧ l.any p = true) ∨ (l.findIdx? p = none ∧ l.any p = false) := by
  cases h : l.findIdx? p with
  | none =>
    rw [List.findIdx?_eq_none_iff] at h
    exact .inr ⟨rfl, by rw [List.any_eq_false]; intro x hx; simp [h x hx]⟩
  | some k =>
    rw [List.findIdx?_eq_some_iff_getElem] at h
    obtain ⟨hk, hp, _⟩ := h
    exact .inl ⟨k, rfl, List.any_eq_true.2 ⟨_, List.getElem_mem hk, hp⟩⟩
theorem h56_is (S : List Sec) (h : S.length ≤ 1000) : h56_F (h56_y S) = some (h56_o_y (S.any badS)) := by
  rw [h56_eq, h74_eq]
  have hl := go_scan (step := h74_p0_st) (l := S) (fun i => h74_p0_y S (S.length : Int) (i : Int)) badS (fun k => some (.inr (h74_p0_o1_y (k : Int)))) (some (.inl h74_p0_o0_y)) (fun i hi rec => by
    rw [h74_p0_eq, nth_lt hi, wrap64 (by omega) (by omega)]
    have : decide ((i : Int) < (S.length : Int)) = true := by simp; exact hi
    rw [this]
    simp only [cond_true, Option.bind_some, f54_eq]
    rfl) (fun rec => by rw [h74_p0_eq]; simp) (by rw [fuel_def]; omega)
  simp only [Int.ofNat_zero, Int.natCast_zero] at hl
  rw [hl]
  rcases find_any S badS with ⟨k, e, e2⟩ | ⟨e, e2⟩
  · rw [e, e2]
    simp only [Option.bind_some, h74_p0_o1_x4_y, h74_o_x0_y]
    have : decide ((k : Int) ≥ 0) = true := by simp
    rw [this]
  · rw [e, e2]
    simp only [Option.bind_some, h74_o_x0_y]
    rfl
theorem h55_is (w : Wr) (n : Int) : h55_F (h55_y w.1 w.2 n) = some (h55_o_y (decide (w.1 < 0) || (decide (w.1 ≥ n) || (w.2.length : Int) != 128)) n) := by
  rw [h55_eq]
  cases decide (w.1 < 0)
  · cases decide (w.1 ≥ n)
    · simp only [cond_false, Bool.false_or]; rw [f54_eq]; rfl
    · simp only [cond_false, cond_true, Bool.false_or, Bool.true_or]
  · simp only [cond_true, Bool.true_or]
theorem h57_is (D : List Wr) (n : Nat) (h : D.length ≤ 1000) : h57_F (h57_y D (n : Int)) = some (h57_o_y (D.any (badW n)) (n : Int)) := by
  rw [h57_eq, h75_eq]
  have hl := go_scan (step := h75_p0_st) (l := D) (fun i => h75_p0_y D (D.length : Int) (i : Int) (n : Int)) (badW n) (fun k => some (.inr (h75_p0_o1_y (k : Int) (n : Int)))) (some (.inl (h75_p0_o0_y (n : Int)))) (fun i hi rec => by
    rw [h75_p0_eq, nth_lt hi, wrap64 (by omega) (by omega)]
    have : decide ((i : Int) < (D.length : Int)) = true := by simp; exact hi
    rw [this]
    simp only [cond_true, Option.bind_some, h55_is, h55_o_x0_y, h55_o_r0_0_y]
    rfl) (fun rec => by rw [h75_p0_eq]; simp) (by rw [fuel_def]; omega)
  simp only [Int.natCast_zero] at hl
  rw [hl]
  rcases find_any D (badW n) with ⟨k, e, e2⟩ | ⟨e, e2⟩
  · rw [e, e2]
    simp only [Option.bind_some, h75_p0_o1_x4_y, h75_p0_o1_r0_0_y, h75_o_x0_y, h75_o_r0_0_y]
    have : decide ((k : Int) ≥ 0) = true := by simp
    rw [this]
  · rw [e, e2]
    simp only [Option.bind_some, h75_p0_o0_r0_0_y, h75_o_x0_y, h75_o_r0_0_y]
    rfl
theorem right_is (S : List Sec) (D : List Wr) (hS : S.length ≤ 1000) (hD : D.length ≤ 1000) : f25_F ((S, (D, ())), ()) = some (right S D, ()) := by
  rw [f25_eq, f25_p0_eq]
  unfold right
  cases decide ((S.length : Int) < 4)
  · cases decide ((S.length : Int) > 64)
    · cases decide ((D.length : Int) > 200)
      · simp only [cond_false, Option.bind_some, f25_p0_o0_x20_y, f25_p0_o0_r0_0_y, f25_p0_o0_r0_1_y, f25_p0_o0_r1_0_y, h56_is S hS, h57_is D _ hD, h56_o_x0_y, h57_o_x0_y]
        cases S.any badS <;> simp
      · simp
    · simp
  · simp
theorem nilEq_same {α S : Type} (xs : List α) (a : Option S) : nilEq xs a a = a := by
  unfold nilEq; split <;> simp
theorem clone_w (D : List Wr) (h : D.length ≤ 1000) : h47_F (h47_y D) = some (h47_o_y D) := by
  rw [h47_eq, appOk_lt (by simp only [List.length_nil]; omega)]
  cases D with
  | nil => exact nilEq_same _ _
  | cons w D => unfold nilEq; simp
theorem clone_s (S : List Sec) (h : S.length ≤ 1000) : h73_F (h73_y S) = some (h73_o_y S) := by
  rw [h73_eq, appOk_lt (by simp only [List.length_nil]; omega)]
  cases S with
  | nil => exact nilEq_same _ _
  | cons w D => unfold nilEq; simp
abbrev disk (S : List Sec) (D : List Wr) (e : Int) : Option ((List Sec × List Wr × Unit) × Int × Unit) := some ((S, (D, ())), (e, ()))
theorem put_is {S : List Sec} {D : List Wr} (h : Right S D) {k : Nat} (hk : k < S.length) {data : Sec} (hd : data.length = 128) (hf : D.length < 200) : f19_F ((S, (D, ())), ((k : Int), (data, ()))) = disk S (D ++ [((k : Int), data)]) 0 := by
  have h1 := h.hi
  rw [f19_eq, f19_p0_eq, right_is S D (by omega) (by omega), right_iff.2 h]
  have e1 : decide ((k : Int) < 0) = false := by simp
  have e2 : decide ((k : Int) ≥ (S.length : Int)) = false := by simp; omega
  have e3 : ((data.length : Int) != 128) = false := by simp; omega
  have e4 : ((D.length : Int) == 200) = false := by simp; omega
  rw [e1, e2, e3]
  simp only [Option.bind_some, Bool.not_true, cond_false, f19_p0_o0_x8_y, f19_p0_o0_r0_1_y, f19_p0_o0_x1_y, f19_p0_o0_x2_y, f19_p0_o0_r0_0_y]
  rw [e4, clone_w D (by omega)]
  simp only [cond_false, Option.bind_some, h47_o_l0_y]
  rw [appOk_lt (by simp; omega)]
theorem safe_all {S : List Sec} {D : List Wr} (h : Right S D) : h48_F (h48_y S D) = some (h48_o_y (D.foldl put S)) := by
  have h1 := h.hi; have h2 := h.few
  rw [h48_eq, clone_s S (by omega)]
  simp only [Option.bind_some, h73_o_l0_y]
  have hl := (go_foldi (step := h48_p1_st) (l := D) (fun i s => h48_p1_y D (D.length : Int) (i : Int) s) (fun _ => put) (fun _ s => s.length = S.length) (s0 := S) (fin := fun s => some (h48_p1_o0_y s)) rfl (fun i s hi hI => by
    refine ⟨by simpa [put] using hI, fun rec => ?_⟩
    rw [h48_p1_eq]
    have : decide ((i : Int) < (D.length : Int)) = true := by simp; exact hi
    rw [this]
    obtain ⟨g0, g1, _⟩ := h.wr _ (List.getElem_mem hi)
    have hb : h48_p0_F (h48_p0_y D (D.length : Int) (i : Int) s) = some (h48_p0_o0_y D (D.length : Int) (i : Int) (put s D[i])) := by
      rw [h48_p0_eq, nth_lt hi]
      simp only [Option.bind_some, f49_eq]
      have hn : D[i].1.toNat < s.length := by omega
      have e : D[i].1 = ((D[i].1.toNat : Nat) : Int) := by omega
      have hw : ∀ K : Option h48_p0_o0.den, within D[i].1 s.length K = K := fun K => by rw [e, within_lt hn]
      rw [f49_eq]
      simp only [Option.bind_some, cond_true]
      refine (hw _).trans ?_
      rw [List.getElem?_eq_getElem hn]
      rfl
    simp only [cond_true]
    rw [hb]
    simp only [Option.bind_some, h48_p0_o0_x12_y, h48_p0_o0_x13_y, h48_p0_o0_x14_y, h48_p0_o0_l0_y]
    rw [wrap64 (by omega) (by omega)]
    rfl) (fun s hI rec => by rw [h48_p1_eq]; simp) (by rw [fuel_def]; omega)).1
  simp only [Int.natCast_zero, Int.ofNat_zero] at hl
  rw [hl, foldi_eq]
  rfl
theorem sync_is {S : List Sec} {D : List Wr} (h : Right S D) : f20_F ((S, (D, ())), ()) = disk (D.foldl put S) [] 0 := by
  have h1 := h.hi; have h2 := h.few
  rw [f20_eq, right_is S D (by omega) (by omega), right_iff.2 h]
  simp only [Option.bind_some, Bool.not_true, cond_false, safe_all h, h48_o_l0_y]
end Go.Pe.Try
end
section
namespace Go.Pe.Try
open Go.Proofs Go.RowKit Go.Pe.Kv Go.Pe.X17
set_option maxRecDepth 100000
set_option linter.unusedSimpArgs false
set_option linter.unusedVariables false
theorem equal_loop (l m : List Str) (hl : l.length = m.length) (hb : l.length ≤ 900000) : ∀ (d i : Nat), i + d = l.length → ∀ n, d + 1 ≤ n →
    iter f40_p0_st n (f40_p0_y l m l.length i) = some (if l.drop i = m.drop i then .inl f40_p0_o0_y else .inr (f40_p0_o1_y false)) := by
  intro d
  induction d with
  | zero =>
    intro i hi n hn
    obtain ⟨n, rfl⟩ : ∃ k, n = k + 1 := ⟨n - 1, by omega⟩
    rw [iter, f40_p0_eq]
    have h1 : l.drop i = [] := List.drop_eq_nil_of_le (by omega)
    have h2 : m.drop i = [] := List.drop_eq_nil_of_le (by omega)
    have h3 : decide ((i : Int) < (l.length : Int)) = false := by simp; omega
    rw [h3, h1, h2]; rfl
  | succ d ih =>
    intro i hi n hn
    obtain ⟨n, rfl⟩ : ∃ k, n = k + 1 := ⟨n - 1, by omega⟩
    rw [iter, f40_p0_eq]
    have h3 : decide ((i : Int) < (l.length : Int)) = true := by simp; omega
    have hil : i < l.length := by omega
    have him : i < m.length := by omega
    rw [h3, cond_true, nth_lt hil, nth_lt him]
    simp only [Option.bind_some]
    have hdl := List.drop_eq_getElem_cons hil
    have hdm := List.drop_eq_getElem_cons him
    by_cases he : l[i] = m[i]
    · have : (l[i] != m[i]) = false := by simp [he]
      rw [this, cond_false]
      have hw : IntKind.i64.wrap ((i : Int) + 1) = ((i + 1 : Nat) : Int) := by rw [wrap64 (by omega) (by omega)]; rfl
      rw [hw, ih (i + 1) (by omega) n (by omega)]
      have : (l.drop (i + 1) = m.drop (i + 1)) = (l.drop i = m.drop i) := by rw [hdl, hdm, he]; simp only [List.cons.injEq, true_and]
      simp only [this]
    · have h5 : (l[i] != m[i]) = true := by simp [he]
      rw [h5, cond_true]
      have : ¬ (l.drop i = m.drop i) := by rw [hdl, hdm]; intro h; exact he (List.cons.inj h).1
      rw [if_neg this]
theorem equal_self (l : List Str) (hb : l.length ≤ 900000) : f40_F (l, (l, ())) = some (true, ()) := by
  rw [f40_eq, show ((l.length : Int) != (l.length : Int)) = false from by simp, cond_false]
  have h2 : go f40_p0_st (f40_p0_y l l l.length 0) = some (.inl f40_p0_o0_y) := by
    refine go_le (m := l.length + 1) (fun n hn => ?_) (by rw [fuel_def]; omega)
    have := equal_loop l l rfl hb l.length 0 (by omega) n hn
    simpa using this
  rw [h2]; rfl
theorem same_loop (l m : List Str) (hl : l.length = m.length) (hb : l.length ≤ 900000) : ∀ (d i : Nat), i + d = l.length → ∀ n, d + 1 ≤ n →
    iter f16_p0_st n (f16_p0_y l m l.length i) = some (if l.drop i = m.drop i then .inl f16_p0_o0_y else .inr (f16_p0_o1_y false)) := by
  intro d
  induction d with
  | zero =>
    intro i hi n hn
    obtain ⟨n, rfl⟩ : ∃ k, n = k + 1 := ⟨n - 1, by omega⟩
    rw [iter, f16_p0_eq]
    have h1 : l.drop i = [] := List.drop_eq_nil_of_le (by omega)
    have h2 : m.drop i = [] := List.drop_eq_nil_of_le (by omega)
    have h3 : decide ((i : Int) < (l.length : Int)) = false := by simp; omega
    rw [h3, h1, h2]; rfl
  | succ d ih =>
    intro i hi n hn
    obtain ⟨n, rfl⟩ : ∃ k, n = k + 1 := ⟨n - 1, by omega⟩
    rw [iter, f16_p0_eq]
    have h3 : decide ((i : Int) < (l.length : Int)) = true := by simp; omega
    have hil : i < l.length := by omega
    have him : i < m.length := by omega
    rw [h3, cond_true, nth_lt hil, nth_lt him]
    simp only [Option.bind_some]
    have hdl := List.drop_eq_getElem_cons hil
    have hdm := List.drop_eq_getElem_cons him
    by_cases he : l[i] = m[i]
    · have : (l[i] != m[i]) = false := by simp [he]
      rw [this, cond_false]
      have hw : IntKind.i64.wrap ((i : Int) + 1) = ((i + 1 : Nat) : Int) := by rw [wrap64 (by omega) (by omega)]; rfl
      rw [hw, ih (i + 1) (by omega) n (by omega)]
      have : (l.drop (i + 1) = m.drop (i + 1)) = (l.drop i = m.drop i) := by rw [hdl, hdm, he]; simp only [List.cons.injEq, true_and]
      simp only [this]
    · have h5 : (l[i] != m[i]) = true := by simp [he]
      rw [h5, cond_true]
      have : ¬ (l.drop i = m.drop i) := by rw [hdl, hdm]; intro h; exact he (List.cons.inj h).1
      rw [if_neg this]
theorem same_eq (l m : List Str) (hb : l.length ≤ 900000) : f16_F (l, (m, ())) = some (decide (l = m), ()) := by
  rw [f16_eq]
  by_cases hl : l.length = m.length
  · have h1 : ((l.length : Int) != (m.length : Int)) = false := by simp [hl]
    rw [h1, cond_false]
    have h2 : go f16_p0_st (f16_p0_y l m l.length 0) = some (if l = m then .inl f16_p0_o0_y else .inr (f16_p0_o1_y false)) := by
      refine go_le (m := l.length + 1) (fun n hn => ?_) (by rw [fuel_def]; omega)
      have := same_loop l m hl hb l.length 0 (by omega) n hn
      simpa using this
    rw [h2]
    by_cases h : l = m
    · rw [if_pos h, decide_eq_true h]; rfl
    · rw [if_neg h, decide_eq_false h]; rfl
  · have h1 : ((l.length : Int) != (m.length : Int)) = true := by simp; omega
    rw [h1, cond_true]
    have : l ≠ m := fun h => hl (by rw [h])
    simp [this]
theorem cmpless_eq (x y : Str) : f66_F (x, (y, ())) = some (decide (x < y), ()) := by
  rw [f66_eq, f81_eq, Option.bind_some, show (x != x) = false from by simp, cond_false, Go.Proofs.bytesLess_eq]
theorem mid_eq (i j : Nat) (h : i + j < 4611686018427387904) : IntKind.i64.wrap (Int.fdiv (IntKind.u64.wrap (IntKind.i64.wrap ((i : Int) + (j : Int)))) (2 ^ (min (Int.toNat (1 : Int)) 64))) = (((i + j) / 2 : Nat) : Int) := by
  have e : (2 : Int) ^ (min (Int.toNat (1 : Int)) 64) = 2 := by decide
  rw [e, wrap64 (x := (i : Int) + j) (by omega) (by omega), wrapU64 (by omega) (by omega)]
  have e2 : Int.fdiv ((i : Int) + (j : Int)) 2 = (((i + j) / 2 : Nat) : Int) := by
    rw [Int.fdiv_eq_ediv_of_nonneg _ (by decide)]; omega
  rw [e2, wrap64 (by omega) (by omega)]
theorem search_loop (xs : List Str) (t : Str) (hb : xs.length ≤ 900000) (hso : xs.Pairwise (· < ·)) : ∀ (d i j : Nat), j - i ≤ d → i ≤ j → j ≤ xs.length → (∀ k (h : k < xs.length), k < i → xs[k] < t) → (∀ k (h : k < xs.length), j ≤ k → ¬ xs[k] < t) → ∀ n, d + 1 ≤ n →
    ∃ m : Nat, m ≤ xs.length ∧ (∀ k (h : k < xs.length), k < m → xs[k] < t) ∧ (∀ k (h : k < xs.length), m ≤ k → ¬ xs[k] < t) ∧ iter f33_p0_st n (f33_p0_y xs t xs.length i j) = some (f33_p0_o0_y xs t xs.length m) := by
  intro d
  induction d with
  | zero =>
    intro i j hd hij hj h1 h2 n hn
    obtain ⟨n, rfl⟩ : ∃ k, n = k + 1 := ⟨n - 1, by omega⟩
    rw [iter, f33_p0_eq, show decide ((i : Int) < (j : Int)) = false from by simp; omega, cond_false]
    obtain rfl : i = j := by omega
    exact ⟨i, hj, h1, h2, rfl⟩
  | succ d ih =>
    intro i j hd hij hj h1 h2 n hn
    obtain ⟨n, rfl⟩ : ∃ k, n = k + 1 := ⟨n - 1, by omega⟩
    rw [iter, f33_p0_eq]
    by_cases hlt : i < j
    · rw [show decide ((i : Int) < (j : Int)) = true from by simp; omega, cond_true, mid_eq i j (by omega)]
      have hm : (i + j) / 2 < xs.length := by omega
      have mono : ∀ a b (ha : a < xs.length) (hb' : b < xs.length), a < b → xs[a] < xs[b] := fun a b ha hb' hab => List.pairwise_iff_getElem.1 hso a b ha hb' hab
      rw [nth_lt hm, Option.bind_some, cmpless_eq, Option.bind_some]
      by_cases hc : xs[(i + j) / 2] < t
      · rw [decide_eq_true hc, cond_true]
        rw [show IntKind.i64.wrap ((((i + j) / 2 : Nat) : Int) + (1 : Int)) = (((i + j) / 2 + 1 : Nat) : Int) from wrap_add _ 1 (by omega) (by omega)]
        refine ih ((i + j) / 2 + 1) j (by omega) (by omega) hj (fun k hk hk2 => ?_) h2 n (by omega)
        rcases Nat.lt_or_ge k ((i + j) / 2) with h | h
        · exact List.lt_trans (mono k _ hk hm h) hc
        · obtain rfl : k = (i + j) / 2 := by omega
          exact hc
      · rw [decide_eq_false hc, cond_false]
        refine ih i ((i + j) / 2) (by omega) (by omega) (by omega) h1 (fun k hk hk2 => ?_) n (by omega)
        rcases Nat.lt_or_ge ((i + j) / 2) k with h | h
        · intro h3; exact hc (List.lt_trans (mono _ k hm hk h) h3)
        · obtain rfl : k = (i + j) / 2 := by omega
          exact hc
    · rw [show decide ((i : Int) < (j : Int)) = false from by simp; omega, cond_false]
      obtain rfl : i = j := by omega
      exact ⟨i, hj, h1, h2, rfl⟩
theorem search_out (xs : List Str) (t : Str) (hb : xs.length ≤ 900000) (hso : xs.Pairwise (· < ·)) : ∃ m : Nat, m ≤ xs.length ∧ (∀ k (h : k < xs.length), k < m → xs[k] < t) ∧ (∀ k (h : k < xs.length), m ≤ k → ¬ xs[k] < t) ∧
    f33_F (xs, (t, ())) = some ((m : Int), (decide (xs[m]? = some t), ())) := by
  obtain ⟨m, h1, h2, h3, h4⟩ := search_loop xs t hb hso xs.length 0 xs.length (by omega) (by omega) (Nat.le_refl _) (fun k _ h => by omega) (fun k h h' => by omega) (fuelOf f33_p0_sh (f33_p0_y xs t xs.length 0 xs.length)) (by rw [fuel_def]; omega)
  refine ⟨m, h1, h2, h3, ?_⟩
  have : go f33_p0_st (f33_p0_y xs t xs.length 0 xs.length) = some (f33_p0_o0_y xs t xs.length m) := h4
  rw [f33_eq, this, Option.bind_some]
  show (bif decide ((m : Int) < (xs.length : Int)) then ((nth xs (m : Int)).bind fun y193 => bif (y193 == t) then (some ((m : Int), (true, ()))) else ((nth xs (m : Int)).bind fun y194 => (f67_F (y194, ())).bind fun r195 => bif r195.1 then ((f67_F (t, ())).bind fun r196 => some ((m : Int), (r196.1, ()))) else (some ((m : Int), (false, ()))))) else (some ((m : Int), (false, ())))) = _
  by_cases hm : m < xs.length
  · rw [show decide ((m : Int) < (xs.length : Int)) = true from by simp; omega, cond_true, nth_lt hm, Option.bind_some, Option.bind_some, f67_eq, Option.bind_some, List.getElem?_eq_getElem hm]
    by_cases he : xs[m] = t
    · simp [he]
    · rw [show (xs[m] == t) = false from by simp [he]]; simp [he]
  · rw [show decide ((m : Int) < (xs.length : Int)) = false from by simp; omega, cond_false, List.getElem?_eq_none (by omega)]; simp
theorem search_hit {A : List PR} (hA : A.length ≤ 900000) (hso : Sorted A) {i : Nat} (h : i < A.length) : f33_F (A.map (·.1), (A[i].1, ())) = some ((i : Int), (true, ())) := by
  have hp : (A.map (·.1)).Pairwise (· < ·) := List.pairwise_map.2 hso
  obtain ⟨m, h1, h2, h3, h4⟩ := search_out (A.map (·.1)) A[i].1 (by simpa using hA) hp
  have hil : i < (A.map (·.1)).length := by simpa using h
  have e : m = i := by
    rcases Nat.lt_trichotomy m i with h5 | h5 | h5
    · have h6 := h3 m (by omega) (Nat.le_refl _)
      have := List.pairwise_iff_getElem.1 hp m i (by omega) hil h5
      simp only [List.getElem_map] at this h6
      exact absurd this h6
    · exact h5
    · have := h2 i hil h5
      simp only [List.getElem_map] at this
      exact absurd this (lt_irr _)
  subst e
  rw [h4]
  simp [List.getElem?_eq_getElem h]
def texts (l : List Str) : List Str := (l.take 66).map fun s => s.take 3100
theorem texts_loop (L : List Str) (hL : L.length ≤ 66) : ∀ (d i : Nat), i + d = L.length → ∀ n, d + 1 ≤ n →
    iter f9_p0_st n (f9_p0_y L.length i ((L.take i).map (fun s => s.take 3100) ++ L.drop i)) = some (f9_p0_o0_y (L.map fun s => s.take 3100)) := by
  intro d
  induction d with
  | zero =>
    intro i hi n hn
    obtain ⟨n, rfl⟩ : ∃ k, n = k + 1 := ⟨n - 1, by omega⟩
    rw [iter, f9_p0_eq, show decide ((i : Int) < (L.length : Int)) = false from by simp; omega, cond_false, List.drop_eq_nil_of_le (by omega), List.take_of_length_le (by omega), List.append_nil]
  | succ d ih =>
    intro i hi n hn
    obtain ⟨n, rfl⟩ : ∃ k, n = k + 1 := ⟨n - 1, by omega⟩
    have hil : i < L.length := by omega
    have hlen : ((L.take i).map (fun s => s.take 3100) ++ L.drop i).length = L.length := by simp; omega
    have hg : ((L.take i).map (fun s => s.take 3100) ++ L.drop i)[i]? = some L[i] := by
      rw [List.getElem?_append_right (by simp; omega), List.getElem?_drop]
      simp only [List.length_map, List.length_take]
      rw [show i + (i - min i L.length) = i by omega, List.getElem?_eq_getElem hil]
    rw [iter, f9_p0_eq, show decide ((i : Int) < (L.length : Int)) = true from by simp; omega, cond_true, hlen, within_lt hil, Int.toNat_natCast, hg, Option.bind_some, show (3100 : Int) = ((3100 : Nat) : Int) from rfl, cut_min, within_lt hil, Option.bind_some]
    rw [show IntKind.i64.wrap ((i : Int) + (1 : Int)) = ((i + 1 : Nat) : Int) from wrap_add i 1 (by omega) (by omega)]
    have hset : ((L.take i).map (fun s => s.take 3100) ++ L.drop i).set i (L[i].take 3100) = (L.take (i + 1)).map (fun s => s.take 3100) ++ L.drop (i + 1) := by
      rw [List.set_append_right _ _ (by simp; omega)]
      simp only [List.length_map, List.length_take]
      rw [show i - min i L.length = 0 by omega, List.drop_eq_getElem_cons hil, List.set_cons_zero, List.take_succ_eq_append_getElem hil, List.map_append]
      simp
    rw [hset, ih (i + 1) (by omega) n (by omega)]
theorem texts_eq (l : List Str) : f9_F (l, ()) = some (texts l, ()) := by
  rw [f9_eq, show (66 : Int) = ((66 : Nat) : Int) from rfl, cut_min, appOk_lt (by simp; omega), List.nil_append]
  have : go f9_p0_st (f9_p0_y (l.take 66).length 0 (l.take 66)) = some (f9_p0_o0_y ((l.take 66).map fun s => s.take 3100)) := by
    refine go_le (m := (l.take 66).length + 1) (fun n hn => ?_) (by rw [fuel_def]; simp; omega)
    have := texts_loop (l.take 66) (by simp; omega) (l.take 66).length 0 (by omega) n hn
    simpa using this
  rw [this]; rfl
theorem texts_len (l : List Str) : (texts l).length ≤ 66 ∧ ∀ s ∈ texts l, s.length ≤ 3100 := by
  refine ⟨by simp [texts]; omega, fun s hs => ?_⟩
  obtain ⟨t, _, rfl⟩ := List.mem_map.1 hs
  simp; omega
end Go.Pe.Try
end
section
namespace Go.Pe.Try
open Go.Proofs Go.RowKit Go.Pe.Kv Go.Pe.X17
set_option maxRecDepth 100000
set_option linter.unusedSimpArgs false
set_option linter.unusedVariables false
def tell (S : List Str) (k : Nat) : Nat × Nat := tl (S.getD (atH S k) []) (logH S k).length
def selH (S : List Str) : Nat := if (tell S 1).1 > (tell S 0).1 then 1 else 0
def textH (S : List Str) (k used : Nat) : Str := (logH S k).flatten.take used
theorem logH_mem {S : List Str} {k : Nat} : ∀ s ∈ logH S k, s ∈ S := fun s hs => List.mem_of_mem_take (List.mem_of_mem_drop hs)
theorem sel_eq (S : List Str) (h : Right S []) : go f13_p4_st (f13_p4_y 0 S [] 0 0 0 S [] 0 0 0) = some (f13_p4_o0_y S [] 0 0 0 S [] (selH S) (tell S (selH S)).1 (tell S (selH S)).2) := by
  have h1 := h.lo; have h2 := h.hi
  refine go_le (m := 3) (fun n hn => ?_) (by rw [fuel_def]; omega)
  obtain ⟨n, rfl⟩ : ∃ k, n = k + 3 := ⟨n - 3, by omega⟩
  have t0 := tells_eq S [] 0 (by omega) h1 h2 h.sec
  have t1 := tells_eq S [] 1 (by omega) h1 h2 h.sec
  have t0' : f26_F ((S, (([] : List (Int × Str)), ())), ((0 : Int), ())) = some (((tell S 0).1 : Int), (((tell S 0).2 : Int), ())) := t0
  have t1' : f26_F ((S, (([] : List (Int × Str)), ())), ((1 : Int), ())) = some (((tell S 1).1 : Int), (((tell S 1).2 : Int), ())) := t1
  rw [iter, f13_p4_eq, show decide ((0 : Int) < 2) = true from rfl, cond_true, f13_p2_eq, t0', Option.bind_some]
  have key : ∀ (h0 t u : Int), iter f13_p4_st (n + 2) (f13_p4_y 1 S [] 0 0 0 S [] h0 t u) = some (bif decide (((tell S 1).1 : Int) > t) then f13_p4_o0_y S [] 0 0 0 S [] 1 ((tell S 1).1 : Int) ((tell S 1).2 : Int) else f13_p4_o0_y S [] 0 0 0 S [] h0 t u) := by
    intro h0 t u
    rw [iter, f13_p4_eq, show decide ((1 : Int) < 2) = true from rfl, cond_true, f13_p2_eq, t1', Option.bind_some]
    cases decide (((tell S 1).1 : Int) > t)
    · rw [cond_false, cond_false, Option.bind_some]
      show iter f13_p4_st (n + 1) (f13_p4_y 2 S [] 0 0 0 S [] h0 t u) = _
      rw [iter, f13_p4_eq, show decide ((2 : Int) < 2) = false from rfl, cond_false]
    · rw [cond_true, cond_true, Option.bind_some]
      show iter f13_p4_st (n + 1) (f13_p4_y 2 S [] 0 0 0 S [] 1 ((tell S 1).1 : Int) ((tell S 1).2 : Int)) = _
      rw [iter, f13_p4_eq, show decide ((2 : Int) < 2) = false from rfl, cond_false]
  have fin : ∀ (t u : Nat), t = (tell S 0).1 → u = (tell S 0).2 → (bif decide (((tell S 1).1 : Int) > (t : Int)) then f13_p4_o0_y S [] 0 0 0 S [] 1 ((tell S 1).1 : Int) ((tell S 1).2 : Int) else f13_p4_o0_y S [] 0 0 0 S [] 0 t u) = f13_p4_o0_y S [] 0 0 0 S [] (selH S) (tell S (selH S)).1 (tell S (selH S)).2 := by
    intro t u ht hu
    subst ht; subst hu
    unfold selH
    by_cases hc : (tell S 1).1 > (tell S 0).1
    · rw [decide_eq_true (by omega : ((tell S 1).1 : Int) > ((tell S 0).1 : Int)), cond_true, if_pos hc]; rfl
    · rw [decide_eq_false (by omega : ¬ ((tell S 1).1 : Int) > ((tell S 0).1 : Int)), cond_false, if_neg hc]; rfl
  by_cases h0 : (tell S 0).1 = 0
  · have hu := (tl_bound (S.getD (atH S 0) []) (logH S 0).length).2.2 h0
    rw [show decide (((tell S 0).1 : Int) > 0) = false from by simp [h0], cond_false, Option.bind_some]
    show iter f13_p4_st (n + 2) (f13_p4_y 1 S [] 0 0 0 S [] 0 ((0 : Nat) : Int) ((0 : Nat) : Int)) = _
    rw [key, fin 0 0 h0.symm hu.symm]
  · rw [show decide (((tell S 0).1 : Int) > 0) = true from by simp; omega, cond_true, Option.bind_some]
    show iter f13_p4_st (n + 2) (f13_p4_y 1 S [] 0 0 0 S [] 0 ((tell S 0).1 : Int) ((tell S 0).2 : Int)) = _
    rw [key, fin _ _ rfl rfl]
def allR (A : List PR) (rs : List (List Str)) : List PR := rs.foldl Kv.all A
def overR (M : List PR) (rs : List (List Str)) : List PR := rs.foldl overM M
theorem is_rows : ∀ (rs : List (List Str)) {A M : List PR}, Is A M → Is (allR A rs) (overR M rs)
  | [], _, _, h => h
  | r :: rs, _, _, h => is_rows rs (h.all r)
theorem pairs_spec {l : List Str} (h : pairsB l = true) : l ≠ [] ∧ l.length % 2 = 0 ∧ l.length ≤ 64 ∧ okP l = true := by
  unfold pairsB at h
  simp only [Bool.and_eq_true, decide_eq_true_eq] at h
  exact ⟨h.1.1, h.1.2.1, h.1.2.2, h.2⟩
theorem okP_mem : ∀ {l : List Str}, okP l = true → l.length % 2 = 0 → ∀ s ∈ l, s.length ≤ 3000
  | [], _, _ => by simp
  | [_], _, h => by simp at h
  | a :: b :: r, h, he => by
    simp only [okP, okOne, Bool.and_eq_true, decide_eq_true_eq] at h
    intro s hs
    rcases List.mem_cons.1 hs with rfl | hs
    · omega
    rcases List.mem_cons.1 hs with rfl | hs
    · omega
    · exact okP_mem h.2 (by simp only [List.length_cons] at he; omega) s hs
theorem ents_ok : ∀ {l : List Str} {rs : List (List Str)}, ents l = some rs → (∀ r ∈ rs, pairsB r = true) ∧ rs.length = l.length
  | [], rs, h => by simp only [ents, Option.some.injEq] at h; subst h; simp
  | e :: l, rs, h => by
    simp only [ents] at h
    cases hp : parts e.length 64 e with
    | none => rw [hp] at h; cases h
    | some p =>
      rw [hp] at h
      dsimp only at h
      split at h
      · rename_i hk
        obtain ⟨r', hr, rfl⟩ := Option.map_eq_some_iff.1 h
        obtain ⟨h1, h2⟩ := ents_ok hr
        refine ⟨fun r hm => ?_, by simp [h2]⟩
        rcases List.mem_cons.1 hm with rfl | hm
        · exact hk
        · exact h1 r hm
      · cases h
theorem rows_ok {t : Str} {rs : List (List Str)} (h : rows t = some rs) : (∀ r ∈ rs, pairsB r = true) ∧ rs.length ≤ t.length := by
  unfold rows at h
  obtain ⟨l, hl, h⟩ := Option.bind_eq_some_iff.1 h
  obtain ⟨h1, h2⟩ := ents_ok h
  exact ⟨h1, by rw [h2]; exact (parse_small _ _ _ hl).2⟩
theorem allR_len : ∀ (rs : List (List Str)) (A : List PR), (∀ r ∈ rs, r.length ≤ 64) → (allR A rs).length ≤ A.length + 64 * rs.length
  | [], A, _ => by simp [allR]
  | r :: rs, A, h => by
    have h1 := allR_len rs (Kv.all A r) fun x hx => h x (by simp [hx])
    have h2 := all_len r A
    have h3 := h r (by simp)
    simp only [allR, List.foldl_cons, List.length_cons] at h1 ⊢; omega
theorem allR_sz : ∀ (rs : List (List Str)) (A : List PR), (∀ r ∈ rs, ∀ s ∈ r, s.length ≤ 3000) → (∀ x ∈ A, x.1.length ≤ 3000 ∧ x.2.length ≤ 3000) → ∀ x ∈ allR A rs, x.1.length ≤ 3000 ∧ x.2.length ≤ 3000
  | [], A, _, h => h
  | r :: rs, A, h, hA => allR_sz rs (Kv.all A r) (fun x hx => h x (by simp [hx])) (all_keys r A (h r (by simp)) hA)
theorem rows_loop (rs : List (List Str)) (hl : rs.length ≤ 10000) (hp : ∀ r ∈ rs, pairsB r = true) (r1 r2 r3 : Int) (S : List Str) (D : List (Int × Str)) (r4 r5 r6 : Int) : ∀ (d i : Nat), i + d = rs.length → ∀ n, d + 1 ≤ n → ∀ M : List PR, M.length + 64 * d ≤ 900000 →
    iter f13_p1_st n (f13_p1_y rs rs.length i r1 r2 r3 S D r4 r5 r6 (E M)) = some (f13_p1_o0_y r1 r2 r3 S D r4 r5 r6 (E (overR M (rs.drop i)))) := by
  intro d
  induction d with
  | zero =>
    intro i hi n hn M hM
    obtain ⟨n, rfl⟩ : ∃ k, n = k + 1 := ⟨n - 1, by omega⟩
    rw [iter, f13_p1_eq, show decide ((i : Int) < (rs.length : Int)) = false from by simp; omega, cond_false, List.drop_eq_nil_of_le (by omega)]; rfl
  | succ d ih =>
    intro i hi n hn M hM
    obtain ⟨n, rfl⟩ : ∃ k, n = k + 1 := ⟨n - 1, by omega⟩
    have hil : i < rs.length := by omega
    have hpr := hp _ (List.getElem_mem hil)
    obtain ⟨_, p2, p3, p4⟩ := pairs_spec hpr
    have hm := okP_mem p4 p2
    rw [iter, f13_p1_eq, show decide ((i : Int) < (rs.length : Int)) = true from by simp; omega, cond_true, nth_lt hil, Option.bind_some, over_eq _ (by omega) p2 (fun s hs => by have := hm s hs; omega) M (by omega), Option.bind_some]
    rw [show ∀ l0, h30_o_l0 (h30_o_y l0) = l0 from fun _ => rfl, show IntKind.i64.wrap ((i : Int) + (1 : Int)) = ((i + 1 : Nat) : Int) from wrap_add i 1 (by omega) (by omega)]
    have := overM_len rs[i] M
    rw [ih (i + 1) (by omega) n (by omega) _ (by omega), List.drop_eq_getElem_cons hil]; rfl
theorem keys_loop (A M : List PR) (h : Is A M) (hA : A.length ≤ 900000) (r1 r2 r3 : Int) (S : List Str) (D : List (Int × Str)) (r4 r5 r6 : Int) : ∀ (d i : Nat), i + d = A.length → ∀ n, d + 1 ≤ n →
    iter f13_p0_st n (f13_p0_y A.length i r1 r2 r3 S D r4 r5 r6 (E M) (A.map (·.1)) ((A.take i).map (·.1)) ((A.take i).map (·.2))) = some (f13_p0_o0_y r1 r2 r3 S D r4 r5 r6 (A.map (·.1)) (A.map (·.2))) := by
  intro d
  induction d with
  | zero =>
    intro i hi n hn
    obtain ⟨n, rfl⟩ : ∃ k, n = k + 1 := ⟨n - 1, by omega⟩
    rw [iter, f13_p0_eq, show decide ((i : Int) < (A.length : Int)) = false from by simp; omega, cond_false, List.take_of_length_le (by omega)]
  | succ d ih =>
    intro i hi n hn
    obtain ⟨n, rfl⟩ : ∃ k, n = k + 1 := ⟨n - 1, by omega⟩
    have hil : i < A.length := by omega
    have hil2 : i < (A.map (·.1)).length := by simpa using hil
    have hv := h.val (List.getElem_mem hil)
    rw [iter, f13_p0_eq, show decide ((i : Int) < (A.length : Int)) = true from by simp; omega, cond_true, within_lt hil2, Int.toNat_natCast, List.getElem?_eq_getElem hil2, Option.bind_some, List.getElem_map, mget_E, hv]
    rw [appOk_lt (by simp; omega), appOk_lt (by simp; omega), show IntKind.i64.wrap ((i : Int) + (1 : Int)) = ((i + 1 : Nat) : Int) from wrap_add i 1 (by omega) (by omega)]
    have e1 : (A.take i).map (·.1) ++ [A[i].1] = (A.take (i + 1)).map (·.1) := by rw [List.take_succ_eq_append_getElem hil, List.map_append]; rfl
    have e2 : (A.take i).map (·.2) ++ [(some A[i].2).getD []] = (A.take (i + 1)).map (·.2) := by rw [List.take_succ_eq_append_getElem hil, List.map_append]; rfl
    rw [e1, e2, ih (i + 1) (by omega) n (by omega)]
structure Store (S : List Str) (A : List PR) (h t u : Nat) : Prop where
  right : Right S []
  half : selH S = h
  tells : tell S h = (t, u)
  pos : 1 ≤ t
  held : ∃ rs, rows (textH S h u) = some rs ∧ A = allR [] rs
theorem selH_le (S : List Str) : selH S ≤ 1 := by unfold selH; split <;> omega
theorem Store.hle {S A h t u} (s : Store S A h t u) : h ≤ 1 := by rw [← s.half]; exact selH_le S
theorem Store.used {S A h t u} (s : Store S A h t u) : u ≤ 128 * (logH S h).length ∧ t ≤ 1099511627776 := by
  have := tl_bound (S.getD (atH S h) []) (logH S h).length
  have e : tell S h = (t, u) := s.tells
  unfold tell at e
  rw [e] at this
  exact ⟨this.2.1, this.1⟩
theorem uni_of {S : List Str} (h : Right S []) (k : Nat) : X18.Uni (logH S k) := fun s hs => h.sec s (logH_mem s hs)
theorem text_len {S : List Str} (hr : Right S []) {k : Nat} (hk : k ≤ 1) (u : Nat) : (textH S k u).length ≤ 4000 := by
  have hL := logH_len S k hk hr.lo
  have := hr.hi
  have hf := X18.flat_len (uni_of hr k)
  unfold textH
  rw [List.length_take]; omega
theorem Store.sizes {S A h t u} (s : Store S A h t u) : A.length ≤ 256000 ∧ (∀ x ∈ A, x.1.length ≤ 3000 ∧ x.2.length ≤ 3000) ∧ Sorted A := by
  obtain ⟨rs, hr, rfl⟩ := s.held
  obtain ⟨h1, h2⟩ := rows_ok hr
  have h3 := text_len s.right s.hle u
  refine ⟨?_, ?_, (is_rows rs Is.nil).so⟩
  · have := allR_len rs [] fun r hm => (pairs_spec (h1 r hm)).2.2.1
    simp only [List.length_nil] at this; omega
  · exact allR_sz rs [] (fun r hm => okP_mem (pairs_spec (h1 r hm)).2.2.2 (pairs_spec (h1 r hm)).2.1) (by simp)
abbrev kvOf (S : List Str) (A : List PR) (h t u : Nat) : List Str × List (Int × Str) × List Str × List Str × Int × Int × Int × Unit := (S, ([], (A.map (·.1), (A.map (·.2), ((h : Int), ((t : Int), ((u : Int), ())))))))
theorem open_eq {S A h t u} (s : Store S A h t u) : f13_F ((S, (([] : List (Int × Str)), ())), ()) = some (kvOf S A h t u, ((0 : Int), ())) := by
  have hr := s.right
  have h1 := hr.lo; have h2 := hr.hi
  have hle := s.hle
  obtain ⟨hu, ht⟩ := s.used
  have hL := logH_len S h hle h1
  rw [f13_eq, f13_p5_eq, right_is S [] (by omega) (by simp), Option.bind_some, right_iff.2 hr]
  rw [show (!(true, ()).1) = false from rfl, cond_false, Option.bind_some]
  show (bif decide ((([] : List (Int × Str)).length : Int) > 0) then _ else ((go f13_p4_st (f13_p4_y 0 S [] 0 0 0 S [] 0 0 0)).bind _)) = _
  rw [show decide ((([] : List (Int × Str)).length : Int) > 0) = false from rfl, cond_false, sel_eq S hr, Option.bind_some, s.half, s.tells]
  show ((f27_F ((S, (([] : List (Int × Str)), ())), ((h : Int), ()))).bind _) = _
  rw [half_eq S [] h hle h1 h2, Option.bind_some]
  show ((f28_F (logH S h, ((u : Int), ()))).bind _) = _
  rw [text_ok (uni_of hr h) (by omega) hu, Option.bind_some]
  obtain ⟨rs, hrs, hA⟩ := s.held
  have htl := text_len hr hle u
  show ((f29_F (textH S h u, ())).bind _) = _
  rw [entries_eq _ (by omega), hrs, Option.bind_some]
  obtain ⟨hp, hlen⟩ := rows_ok hrs
  show ((f13_p3_F (f13_p3_y rs true 0 0 0 S [] (h : Int) (t : Int) (u : Int))).bind _) = _
  rw [f13_p3_eq, show ((t : Int) == 0) = false from by rw [beq_eq_false_iff_ne]; have := s.pos; omega, cond_false, Option.bind_some]
  show ((go f13_p1_st (f13_p1_y rs rs.length 0 0 0 0 S [] (h : Int) (t : Int) (u : Int) [])).bind _) = _
  have hgo : go f13_p1_st (f13_p1_y rs rs.length 0 0 0 0 S [] (h : Int) (t : Int) (u : Int) []) = some (f13_p1_o0_y 0 0 0 S [] (h : Int) (t : Int) (u : Int) (E (overR [] rs))) := by
    refine go_le (m := rs.length + 1) (fun n hn => ?_) (by rw [fuel_def]; omega)
    exact rows_loop rs (by omega) hp 0 0 0 S [] h t u rs.length 0 (by omega) n hn [] (by simp; omega)
  rw [hgo, Option.bind_some]
  show ((h32_F (h32_y (E (overR [] rs)))).bind _) = _
  rw [h32_eq, Option.bind_some]
  have his : Is A (overR [] rs) := by rw [hA]; exact is_rows rs Is.nil
  have hsz := s.sizes
  have hk : sortedKeys (mpairs .str .str false (E (overR [] rs))) = A.map (·.1) := by rw [mpairs_E]; exact his.keys
  show ((go f13_p0_st (f13_p0_y ((sortedKeys (mpairs .str .str false (E (overR [] rs)))).length : Int) 0 0 0 0 S [] (h : Int) (t : Int) (u : Int) (E (overR [] rs)) (sortedKeys (mpairs .str .str false (E (overR [] rs)))) [] [])).bind _) = _
  rw [hk, List.length_map]
  have hgo2 : go f13_p0_st (f13_p0_y A.length 0 0 0 0 S [] (h : Int) (t : Int) (u : Int) (E (overR [] rs)) (A.map (·.1)) [] []) = some (f13_p0_o0_y 0 0 0 S [] (h : Int) (t : Int) (u : Int) (A.map (·.1)) (A.map (·.2))) := by
    refine go_le (m := A.length + 1) (fun n hn => ?_) (by rw [fuel_def]; omega)
    exact keys_loop A _ his (by omega) 0 0 0 S [] h t u A.length 0 (by omega) n hn
  rw [hgo2]; rfl
theorem right_eq {S A h t u} (s : Store S A h t u) : f17_F (kvOf S A h t u, ()) = some (true, ()) := by
  have hsz := s.sizes
  rw [f17_eq, open_eq s, Option.bind_some]
  dsimp only
  rw [show (((0 : Int)) == 0) = true from rfl, cond_true, show ((h : Int) == (h : Int)) = true from by simp, cond_true, show ((t : Int) == (t : Int)) = true from by simp, cond_true, show ((u : Int) == (u : Int)) = true from by simp, cond_true, equal_self _ (by simp; omega), Option.bind_some]
  dsimp only
  rw [cond_true, equal_self _ (by simp; omega)]; rfl
theorem get_hit {S A h t u} (s : Store S A h t u) {i : Nat} (hi : i < A.length) : f14_F (kvOf S A h t u, (A[i].1, ())) = some (A[i].2, ((0 : Int), ())) := by
  have hsz := s.sizes
  rw [f14_eq, right_eq s, Option.bind_some, show (!((true, ()) : Bool × Unit).1) = false from rfl, cond_false]
  rw [search_hit (by omega) hsz.2.2 hi, Option.bind_some]
  show ((nth (A.map (·.2)) (i : Int)).bind _) = _
  rw [nth_lt (by simpa using hi), Option.bind_some, List.getElem_map]
end Go.Pe.Try
end
section
namespace Go.Pe.Try
open Go.Proofs Go.RowKit Go.Pe.Kv Go.Pe.X17
set_option maxRecDepth 100000
set_option linter.unusedSimpArgs false
set_option linter.unusedVariables false
abbrev PWr := Int × List UInt8
def hdH (S : List Str) (k : Nat) : Str := S.getD (atH S k) []
theorem tell_eq (S : List Str) (k : Nat) : tell S k = tl (hdH S k) (logH S k).length := rfl
theorem atH_set (S : List Str) (i : Nat) (x : Str) (k : Nat) : atH (S.set i x) k = atH S k := by simp [atH]
theorem logH_set (S : List Str) (i : Nat) (x : Str) (k : Nat) : logH (S.set i x) k = if i < atH S k + 1 then logH S k else (logH S k).set (i - (atH S k + 1)) x := by
  unfold logH atH
  rw [List.length_set, List.take_set, List.drop_set]
theorem hdH_set (S : List Str) (i : Nat) (x : Str) (k : Nat) (hk : k ≤ 1) (h1 : 4 ≤ S.length) : hdH (S.set i x) k = if i = atH S k then x else hdH S k := by
  have := atH_lt S k hk h1
  unfold hdH
  rw [atH_set, List.getD_eq_getElem?_getD, List.getD_eq_getElem?_getD, List.getElem?_set]
  split
  · rename_i e
    rw [if_pos (by omega)]; rfl
  · rfl
theorem set_past {α : Type} (l : List α) (i : Nat) (x : α) (h : l.length ≤ i) : l.set i x = l := List.set_eq_of_length_le h
structure View (S S' : List Str) (h : Nat) (L : List Str) : Prop where
  len : S'.length = S.length
  log : logH S' h = L
  oth : logH S' (1 - h) = logH S (1 - h)
  hd0 : hdH S' 0 = hdH S 0
  hd1 : hdH S' 1 = hdH S 1
theorem View.refl (S : List Str) (h : Nat) : View S S h (logH S h) := ⟨rfl, rfl, rfl, rfl, rfl⟩
theorem View.set {S S' : List Str} {h : Nat} {L : List Str} (v : View S S' h L) (hh : h ≤ 1) (h1 : 4 ≤ S.length) (hL : L.length = S.length / 2 - 1) {j : Nat} (hj : j < L.length) (x : Str) : View S (S'.set (atH S h + 1 + j) x) h (L.set j x) := by
  have ea : ∀ k, atH S' k = atH S k := fun k => by simp [atH, v.len]
  have h1' : 4 ≤ S'.length := by rw [v.len]; exact h1
  have a0 : atH S 0 = 0 := by simp [atH]
  have a1 : atH S 1 = S.length / 2 := by simp [atH]
  refine ⟨by simp [v.len], ?_, ?_, ?_, ?_⟩
  · rw [logH_set, ea, if_neg (by omega), v.log]
    congr 1; omega
  · rw [logH_set, ea, v.oth]
    have hl := logH_len S (1 - h) (by omega) h1
    have : h = 0 ∨ h = 1 := by omega
    rcases this with rfl | rfl
    · simp only [Nat.sub_zero, a0, a1] at *
      rw [if_pos (by omega)]
    · simp only [Nat.sub_self, a0, a1] at *
      rw [if_neg (by omega)]
      exact set_past _ _ _ (by omega)
  · rw [hdH_set _ _ _ _ (by omega) h1', ea, a0, if_neg (by omega), v.hd0]
  · rw [hdH_set _ _ _ _ (by omega) h1', ea, a1, v.hd1]
    have : h = 0 ∨ h = 1 := by omega
    rcases this with rfl | rfl
    · rw [if_neg (by rw [a0]; omega)]
    · rw [if_neg (by rw [a1]; omega)]
def placed (at_ : Nat) (l : List PWr) : List PWr := l.map fun w => (w.1 + ((at_ : Int) + 1), w.2)
def Ws (n : Nat) (l : List PWr) : Prop := ∀ w ∈ l, ∃ j : Nat, j < n ∧ w.1 = (j : Int) ∧ w.2.length = 128
theorem placed_view {S : List Str} {h : Nat} (hh : h ≤ 1) (h1 : 4 ≤ S.length) : ∀ (l : List PWr), Ws (logH S h).length l → ∀ {S' : List Str} {L : List Str}, View S S' h L → L.length = (logH S h).length →
    View S ((placed (atH S h) l).foldl X17.put S') h (X18.put L l)
  | [], _, _, _, v, _ => v
  | w :: l, hw, S', L, v, hL => by
    obtain ⟨j, hj, e, hl⟩ := hw w (by simp)
    have hLn := logH_len S h hh h1
    have v2 := v.set hh h1 (by omega) (j := j) (by omega) w.2
    have e2 : X17.put S' (w.1 + ((atH S h : Int) + 1), w.2) = S'.set (atH S h + 1 + j) w.2 := by
      unfold X17.put
      congr 1
      simp only [e]; omega
    have e3 : L.set w.1.toNat w.2 = L.set j w.2 := by rw [e]; rfl
    show View S ((placed (atH S h) l).foldl X17.put (X17.put S' (w.1 + ((atH S h : Int) + 1), w.2))) h (X18.put (L.set w.1.toNat w.2) l)
    rw [e2, e3]
    exact placed_view hh h1 l (fun x hx => hw x (by simp [hx])) v2 (by simp [hL])
theorem placed_wr {S : List Str} {h : Nat} (hh : h ≤ 1) (h1 : 4 ≤ S.length) {l : List PWr} (hw : Ws (logH S h).length l) : ∀ w ∈ placed (atH S h) l, 0 ≤ w.1 ∧ w.1 < (S.length : Int) ∧ w.2.length = 128 := by
  intro w hm
  obtain ⟨x, hx, rfl⟩ := List.mem_map.1 hm
  obtain ⟨j, hj, e, hl⟩ := hw x hx
  have hLn := logH_len S h hh h1
  have : h = 0 ∨ h = 1 := by omega
  refine ⟨by simp only; omega, ?_, hl⟩
  simp only [e]
  rcases this with rfl | rfl <;> simp only [atH] <;> omega
theorem head_view {S : List Str} {h : Nat} (hh : h ≤ 1) (h1 : 4 ≤ S.length) (x : Str) : (S.set (atH S h) x).length = S.length ∧ (∀ k, k ≤ 1 → logH (S.set (atH S h) x) k = logH S k) ∧ hdH (S.set (atH S h) x) h = x ∧ hdH (S.set (atH S h) x) (1 - h) = hdH S (1 - h) := by
  have a0 : atH S 0 = 0 := by simp [atH]
  have a1 : atH S 1 = S.length / 2 := by simp [atH]
  refine ⟨by simp, fun k hk => ?_, ?_, ?_⟩
  · rw [logH_set]
    have hl := logH_len S k hk h1
    have g1 : h = 0 ∨ h = 1 := by omega
    have g2 : k = 0 ∨ k = 1 := by omega
    split
    · rfl
    · rename_i g3
      refine set_past _ _ _ ?_
      rcases g1 with rfl | rfl <;> rcases g2 with rfl | rfl <;> simp only [a0, a1] at * <;> omega
  · rw [hdH_set _ _ _ _ hh h1, if_pos rfl]
  · rw [hdH_set _ _ _ _ (by omega) h1, if_neg]
    have : h = 0 ∨ h = 1 := by omega
    rcases this with rfl | rfl
    · simp only [Nat.sub_zero, a0, a1]; omega
    · simp only [Nat.sub_self, a0, a1]; omega
theorem be4_num (s : List UInt8) (h : s.length = 4) : be4 (num s) = s := by
  match s, h with
  | [a, b, c, d], _ =>
    have ha := a.toNat_lt; have hb := b.toNat_lt; have hc := c.toNat_lt; have hd := d.toNat_lt
    simp only [num, be4, List.foldl_cons, List.foldl_nil, List.cons.injEq, and_true]
    refine ⟨?_, ?_, ?_, ?_⟩ <;> apply UInt8.toNat_inj.1 <;> rw [UInt8.toNat_ofNat'] <;> omega
theorem parse_inv : ∀ (k : Nat) (s : Str) (r : List Str), parse k s = some r → s = r.flatMap frame
  | 0, s, r, h => by
    simp only [parse] at h
    split at h
    · rename_i h0; cases h; simpa using h0
    · cases h
  | k + 1, s, r, h => by
    simp only [parse] at h
    split at h
    · rename_i h0; cases h; simpa using h0
    split at h
    · cases h
    split at h
    · cases h
    rename_i h1 h2 h3
    obtain ⟨r', hr, rfl⟩ := Option.map_eq_some_iff.1 h
    have ih := parse_inv k _ r' hr
    rw [List.flatMap_cons, ← ih, frame]
    have hlen : ((s.drop 4).take (num (s.take 4))).length = num (s.take 4) := by rw [List.length_take]; omega
    rw [hlen, be4_num _ (by rw [List.length_take]; omega), List.append_assoc, List.take_append_drop, List.take_append_drop]
theorem parse_of (l : List Str) (h : ∀ s ∈ l, s.length ≤ 4096) : parse (l.flatMap frame).length (l.flatMap frame) = some l := parse_frames l _ h (Nat.le_refl _)
theorem ents_app : ∀ (a b : List Str) {x y : List (List Str)}, ents a = some x → ents b = some y → ents (a ++ b) = some (x ++ y)
  | [], b, x, y, h1, h2 => by simp only [ents, Option.some.injEq] at h1; subst h1; simpa using h2
  | e :: a, b, x, y, h1, h2 => by
    simp only [ents] at h1
    cases hp : parts e.length 64 e with
    | none => rw [hp] at h1; cases h1
    | some p =>
      rw [hp] at h1
      dsimp only at h1
      split at h1
      · rename_i hk
        obtain ⟨r', hr, rfl⟩ := Option.map_eq_some_iff.1 h1
        have := ents_app a b hr h2
        simp only [List.cons_append, ents, hp, hk, if_true, this, Option.map_some]
      · cases h1
theorem ents_pack {l : List Str} (hp : pairsB l = true) : ents [pack l] = some [l] := by
  obtain ⟨_, h2, h3, h4⟩ := pairs_spec hp
  have hm := okP_mem h4 h2
  simp only [ents, parts_pack l _ 64 (fun s hs => by have := hm s hs; omega) h3 (Nat.le_refl _), hp, if_true, Option.map_some]
theorem rows_app {t : Str} {rs : List (List Str)} (h : rows t = some rs) {l : List Str} (hp : pairsB l = true) (hl : (pack l).length ≤ 4096) : rows (t ++ frame (pack l)) = some (rs ++ [l]) := by
  unfold rows at h ⊢
  obtain ⟨es, he, h⟩ := Option.bind_eq_some_iff.1 h
  have hinv := parse_inv _ _ _ he
  have hs := (parse_small _ _ _ he).1
  have e : t ++ frame (pack l) = (es ++ [pack l]).flatMap frame := by rw [List.flatMap_append, ← hinv]; simp
  rw [e, parse_of _ (fun s hs' => by
    rcases List.mem_append.1 hs' with h5 | h5
    · exact hs s h5
    · simp only [List.mem_singleton] at h5; rw [h5]; exact hl)]
  exact ents_app _ _ h (ents_pack hp)
theorem allR_app (A : List PR) (a b : List (List Str)) : allR A (a ++ b) = allR (allR A a) b := by simp [allR]
def Good (A : List PR) : Prop := ∀ x ∈ A, okOne x.1 x.2 = true ∧ x.2 ≠ []
theorem over_good {A : List PR} (h : Good A) {a b : Str} (ho : okOne a b = true) : Good (Kv.over A a b) := by
  rintro ⟨k, v⟩ hx
  rcases (over_mem A a b k v).1 hx with ⟨_, hx⟩ | ⟨hb, rfl, rfl⟩
  · exact h _ hx
  · exact ⟨ho, hb⟩
theorem all_good : ∀ {l : List Str} {A : List PR}, okP l = true → Good A → Good (Kv.all A l)
  | [], _, _, h => h
  | [_], _, _, h => h
  | a :: b :: r, A, ho, h => by
    simp only [okP, Bool.and_eq_true] at ho
    exact all_good (l := r) ho.2 (over_good h ho.1)
theorem allR_good : ∀ {rs : List (List Str)} {A : List PR}, (∀ r ∈ rs, pairsB r = true) → Good A → Good (allR A rs)
  | [], _, _, h => h
  | r :: rs, A, hr, h => allR_good (rs := rs) (fun x hx => hr x (by simp [hx])) (all_good (pairs_spec (hr r (by simp))).2.2.2 h)
theorem Store.good {S A h t u} (s : Store S A h t u) : Good A := by
  obtain ⟨rs, hr, rfl⟩ := s.held
  exact allR_good (rows_ok hr).1 (fun x hx => by cases hx)
theorem rebuild_mem : ∀ (A B : List PR), Sorted A → (∀ x ∈ A, x.2 ≠ []) → ∀ k v, (k, v) ∈ allR B (A.map fun x => [x.1, x.2]) ↔ (k, v) ∈ A ∨ ((k, v) ∈ B ∧ k ∉ A.map (·.1))
  | [], B, _, _, k, v => by simp [allR]
  | x :: A, B, h, hv, k, v => by
    obtain ⟨a, b⟩ := x
    have hx := (List.pairwise_cons.1 h).1
    have ih := rebuild_mem A (Kv.over B a b) (List.pairwise_cons.1 h).2 (fun y hy => hv y (by simp [hy])) k v
    have hb : b ≠ [] := hv (a, b) (by simp)
    have hna : ∀ v, (a, v) ∉ A := fun v hm => lt_irr a (hx _ hm)
    have hnk : a ∉ A.map (·.1) := fun hm => by
      obtain ⟨⟨a', v'⟩, h1, h2⟩ := List.mem_map.1 hm
      simp only at h2; subst h2; exact hna _ h1
    show (k, v) ∈ allR (Kv.over B a b) (A.map fun x => [x.1, x.2]) ↔ _
    rw [ih, over_mem]
    simp only [List.mem_cons, Prod.mk.injEq, List.map_cons]
    by_cases hk : k = a
    · subst hk
      simp [hna, hnk, hb]
    · simp [hk]
theorem rebuild {A : List PR} (h : Sorted A) (hv : ∀ x ∈ A, x.2 ≠ []) : allR [] (A.map fun x => [x.1, x.2]) = A := by
  refine sorted_ext ?_ h fun k v => ?_
  · exact (is_rows _ Is.nil).so
  · rw [rebuild_mem A [] h hv]; simp
def wholeA (A : List PR) : Str := (A.map fun x => pack [x.1, x.2]).flatMap frame
theorem pack2_len (x : PR) : (pack [x.1, x.2]).length = 8 + x.1.length + x.2.length := by
  simp only [pack, List.flatMap_cons, List.flatMap_nil, List.append_nil, List.length_append, frame_len]; omega
theorem pack2_small {A : List PR} (h : Good A) {x : PR} (hx : x ∈ A) : (pack [x.1, x.2]).length ≤ 4096 := by
  have := (h x hx).1
  simp only [okOne, decide_eq_true_eq] at this
  rw [pack2_len]; omega
theorem pairs2 {A : List PR} (h : Good A) {x : PR} (hx : x ∈ A) : pairsB [x.1, x.2] = true := by
  simp [pairsB, okP, (h x hx).1]
theorem ents_whole : ∀ {A : List PR}, Good A → ents (A.map fun x => pack [x.1, x.2]) = some (A.map fun x => [x.1, x.2])
  | [], _ => rfl
  | x :: A, h => by
    have h1 := ents_pack (pairs2 h (x := x) (by simp))
    have h2 := ents_whole (A := A) fun y hy => h y (by simp [hy])
    exact ents_app [pack [x.1, x.2]] _ h1 h2
theorem rows_whole {A : List PR} (h : Good A) : rows (wholeA A) = some (A.map fun x => [x.1, x.2]) := by
  unfold rows wholeA
  rw [parse_of _ (fun s hs => by obtain ⟨x, hx, rfl⟩ := List.mem_map.1 hs; exact pack2_small h hx)]
  exact ents_whole h
end Go.Pe.Try
end
section
namespace Go.Pe.Try
open Go.Proofs Go.RowKit Go.Pe.Kv Go.Pe.X17
set_option maxRecDepth 100000
set_option linter.unusedSimpArgs false
set_option linter.unusedVariables false
def pA (A : List PR) : List PR := A.foldl (fun M x => mapPut eqS x.1 x.2 M) []
theorem pA_rows : ∀ (A M : List PR), (∀ x ∈ A, x.2 ≠ []) → A.foldl (fun M x => mapPut eqS x.1 x.2 M) M = overR M (A.map fun x => [x.1, x.2])
  | [], _, _ => rfl
  | x :: A, M, h => by
    have := pA_rows A (mapPut eqS x.1 x.2 M) fun y hy => h y (by simp [hy])
    rw [List.foldl_cons, this]
    show _ = overR (Kv.step M x.1 x.2) (A.map fun x => [x.1, x.2])
    rw [Kv.step, if_neg (h x (by simp))]
theorem pA_is {A : List PR} (h : Sorted A) (hv : ∀ x ∈ A, x.2 ≠ []) : Is A (pA A) := by
  unfold pA
  rw [pA_rows A [] hv]
  have := is_rows (A.map fun x => [x.1, x.2]) Is.nil
  rwa [rebuild h hv] at this
theorem pA_take (A : List PR) (i : Nat) (h : i < A.length) : pA (A.take (i + 1)) = mapPut eqS A[i].1 A[i].2 (pA (A.take i)) := by
  unfold pA
  rw [List.take_succ_eq_append_getElem h, List.foldl_append]; rfl
theorem put_len1 (M : List PR) (a b : Str) : (mapPut eqS a b M).length ≤ M.length + 1 := by
  have := congrArg List.length (put_keys a b M)
  rw [List.length_map] at this
  rw [this]; split <;> simp
theorem pA_len (A : List PR) : ∀ i, i ≤ A.length → (pA (A.take i)).length ≤ i
  | 0, _ => by simp [pA]
  | i + 1, h => by
    rw [pA_take A i (by omega)]
    have := pA_len A i (by omega)
    have h2 := put_len1 (pA (A.take i)) (A[i]'(by omega)).1 (A[i]'(by omega)).2
    omega
theorem fill_loop (l : List Str) (A : List PR) (hA : A.length ≤ 256000) (hs : ∀ x ∈ A, x.1.length ≤ 3000) (S : List Str) (D : List PWr) (h t u : Int) : ∀ (d i : Nat), i + d = A.length → ∀ n, d + 1 ≤ n →
    iter f46_p1_st n (f46_p1_y l (A.map (·.1)) A.length i S D (A.map (·.1)) (A.map (·.2)) h t u (E (pA (A.take i)))) = some (f46_p1_o0_y l (E (pA A))) := by
  intro d
  induction d with
  | zero =>
    intro i hi n hn
    obtain ⟨n, rfl⟩ : ∃ k, n = k + 1 := ⟨n - 1, by omega⟩
    rw [iter, f46_p1_eq, show decide ((i : Int) < (A.length : Int)) = false from by simp; omega, cond_false, List.take_of_length_le (by omega)]
  | succ d ih =>
    intro i hi n hn
    obtain ⟨n, rfl⟩ : ∃ k, n = k + 1 := ⟨n - 1, by omega⟩
    have hil : i < A.length := by omega
    have hk := hs _ (List.getElem_mem hil)
    have hpl := pA_len A i (by omega)
    rw [iter, f46_p1_eq, show decide ((i : Int) < (A.length : Int)) = true from by simp; omega, cond_true, nth_lt (by simpa using hil), nth_lt (by simpa using hil), Option.bind_some, Option.bind_some, mpairs_E, appOk_lt (by omega)]
    simp only [List.getElem_map]
    show lenOk A[i].1.length _ = _
    rw [lenOk, if_pos (by omega), mput_E, ← pA_take A i hil, show IntKind.i64.wrap ((i : Int) + (1 : Int)) = ((i + 1 : Nat) : Int) from wrap_add i 1 (by omega) (by omega), ih (i + 1) (by omega) n (by omega)]
theorem wholeA_take (A : List PR) (i : Nat) (h : i < A.length) : wholeA (A.take (i + 1)) = wholeA (A.take i) ++ frame (pack [A[i].1, A[i].2]) := by
  unfold wholeA
  rw [List.take_succ_eq_append_getElem h, List.map_append, List.flatMap_append]; simp
theorem wholeA_len {A : List PR} (h : Good A) : ∀ i, i ≤ A.length → (wholeA (A.take i)).length ≤ 4100 * i
  | 0, _ => by simp [wholeA]
  | i + 1, hi => by
    rw [wholeA_take A i (by omega), List.length_append, frame_len]
    have h1 := wholeA_len h i (by omega)
    have h2 := pack2_small h (List.getElem_mem (l := A) (n := i) (by omega))
    omega
theorem build_loop (A M : List PR) (his : Is A M) (hg : Good A) (hA : A.length ≤ 300000) : ∀ (d i : Nat), i + d = A.length → ∀ n, d + 1 ≤ n →
    iter f46_p0_st n (f46_p0_y A.length i (E M) (A.map (·.1)) (bytesOf (wholeA (A.take i)))) = some (f46_p0_o0_y (bytesOf (wholeA A))) := by
  intro d
  induction d with
  | zero =>
    intro i hi n hn
    obtain ⟨n, rfl⟩ : ∃ k, n = k + 1 := ⟨n - 1, by omega⟩
    rw [iter, f46_p0_eq, show decide ((i : Int) < (A.length : Int)) = false from by simp; omega, cond_false, List.take_of_length_le (by omega)]
  | succ d ih =>
    intro i hi n hn
    obtain ⟨n, rfl⟩ : ∃ k, n = k + 1 := ⟨n - 1, by omega⟩
    have hil : i < A.length := by omega
    have hil2 : i < (A.map (·.1)).length := by simpa using hil
    have hm := List.getElem_mem hil
    have hsm := pack2_small hg hm
    have hv := his.val hm
    have hwl := wholeA_len hg i (by omega)
    rw [iter, f46_p0_eq, show decide ((i : Int) < (A.length : Int)) = true from by simp; omega, cond_true, within_lt hil2, Int.toNat_natCast, List.getElem?_eq_getElem hil2, Option.bind_some, List.getElem_map, mget_E, hv]
    have hsz : ∀ s ∈ [A[i].1, (some A[i].2).getD []], s.length < 4611686018427387904 := by
      have := pack2_len A[i]
      intro s hs
      simp only [List.mem_cons, List.not_mem_nil, or_false] at hs
      rcases hs with rfl | rfl
      · omega
      · show A[i].2.length < _; omega
    rw [pack_eq _ (by simp) hsz, if_pos (by show (pack [A[i].1, A[i].2]).length ≤ _; omega), Option.bind_some]
    show ((f43_F (pack [A[i].1, A[i].2], ())).bind _) = _
    rw [frame_eq _ hsm, Option.bind_some]
    show ((h37a_F (h37a_y (frame (pack [A[i].1, A[i].2])) (bytesOf (wholeA (A.take i))))).bind _) = _
    rw [write_eq _ _ (by rw [bytes_len, frame_len]; omega), Option.bind_some]
    rw [show ∀ (a : Int) (b : List Int), h37a_o_l0 (h37a_o_y a b) = b from fun _ _ => rfl, ← bytes_app, ← wholeA_take A i hil, show IntKind.i64.wrap ((i : Int) + (1 : Int)) = ((i + 1 : Nat) : Int) from wrap_add i 1 (by omega) (by omega), ih (i + 1) (by omega) n (by omega)]
theorem whole_eq {S A h t u} (s : Store S A h t u) {l : List Str} (hp : pairsB l = true) : f46_F (kvOf S A h t u, (l, ())) = some (wholeA (Kv.all A l), ()) := by
  obtain ⟨z1, z2, z3⟩ := s.sizes
  have hg := s.good
  obtain ⟨_, p2, p3, p4⟩ := pairs_spec hp
  have hm := okP_mem p4 p2
  rw [f46_eq]
  have hgo : go f46_p1_st (f46_p1_y l (A.map (·.1)) (A.map (·.1)).length 0 S [] (A.map (·.1)) (A.map (·.2)) h t u []) = some (f46_p1_o0_y l (E (pA A))) := by
    refine go_le (m := A.length + 1) (fun n hn => ?_) (by rw [fuel_def]; omega)
    rw [List.length_map]
    exact fill_loop l A z1 (fun x hx => (z2 x hx).1) S [] h t u A.length 0 (by omega) n hn
  rw [hgo, Option.bind_some]
  show ((h30_F (h30_y l (E (pA A)))).bind _) = _
  have hpl := pA_len A A.length (Nat.le_refl _)
  rw [List.take_length] at hpl
  rw [over_eq l (by omega) p2 (fun s hs => by have := hm s hs; omega) _ (by omega), Option.bind_some]
  show ((h32_F (h32_y (E (overM (pA A) l)))).bind _) = _
  rw [h32_eq, Option.bind_some]
  have his : Is (Kv.all A l) (overM (pA A) l) := (pA_is z3 fun x hx => (hg x hx).2).all l
  have hgood := all_good (l := l) p4 hg
  have hal := all_len l A
  have hk : sortedKeys (mpairs .str .str false (E (overM (pA A) l))) = (Kv.all A l).map (·.1) := by rw [mpairs_E]; exact his.keys
  show ((go f46_p0_st (f46_p0_y ((sortedKeys (mpairs .str .str false (E (overM (pA A) l)))).length : Int) 0 (E (overM (pA A) l)) (sortedKeys (mpairs .str .str false (E (overM (pA A) l)))) [])).bind _) = _
  rw [hk, List.length_map]
  have hgo2 : go f46_p0_st (f46_p0_y (Kv.all A l).length 0 (E (overM (pA A) l)) ((Kv.all A l).map (·.1)) []) = some (f46_p0_o0_y (bytesOf (wholeA (Kv.all A l)))) := by
    refine go_le (m := (Kv.all A l).length + 1) (fun n hn => ?_) (by rw [fuel_def]; omega)
    exact build_loop _ _ his hgood (by omega) _ 0 (by omega) n hn
  rw [hgo2, Option.bind_some]
  have hwl := wholeA_len hgood (Kv.all A l).length (Nat.le_refl _)
  rw [List.take_length] at hwl
  show ((h39_F (h39_y (bytesOf (wholeA (Kv.all A l))))).bind _) = _
  rw [string_eq _ (by omega)]; rfl
theorem lay_full {s : List Str} (hu : X18.Uni s) (hl : s.length ≤ 64) {used : Nat} (h : used ≤ 128 * s.length) {data : Str} (hd : 128 * s.length < used + data.length) : f44_F (s, ((used : Int), (data, ()))) = some ([], (40, ())) := by
  rw [f44_eq, may_eq s used (by omega), Option.bind_some, decide_eq_true (may_of hu hl h)]
  have w1 : IntKind.i64.wrap ((s.length : Int) * 128) = 128 * (s.length : Int) := by rw [wrap64 (by omega) (by omega)]; omega
  have w2 : IntKind.i64.wrap (128 * (s.length : Int) - (used : Int)) = 128 * (s.length : Int) - (used : Int) := wrap64 (by omega) (by omega)
  rw [show (!((true, ()) : Bool × Unit).1) = false from rfl, cond_false, w1, w2, show decide ((data.length : Int) > 128 * (s.length : Int) - (used : Int)) = true from by simp only [decide_eq_true_eq]; omega, cond_true]
theorem place_loop (at_ : Nat) (ha : at_ ≤ 64) (L : List PWr) (hL : L.length ≤ 1000) (hw : ∀ w ∈ L, 0 ≤ w.1 ∧ w.1 ≤ 100000) : ∀ (d i : Nat), i + d = L.length → ∀ n, d + 1 ≤ n →
    iter f45_p0_st n (f45_p0_y at_ L.length i (placed at_ (L.take i) ++ L.drop i)) = some (f45_p0_o0_y (placed at_ L)) := by
  intro d
  induction d with
  | zero =>
    intro i hi n hn
    obtain ⟨n, rfl⟩ : ∃ k, n = k + 1 := ⟨n - 1, by omega⟩
    rw [iter, f45_p0_eq, show decide ((i : Int) < (L.length : Int)) = false from by simp; omega, cond_false, List.drop_eq_nil_of_le (by omega), List.take_of_length_le (by omega), List.append_nil]
  | succ d ih =>
    intro i hi n hn
    obtain ⟨n, rfl⟩ : ∃ k, n = k + 1 := ⟨n - 1, by omega⟩
    have hil : i < L.length := by omega
    have hlen : (placed at_ (L.take i) ++ L.drop i).length = L.length := by simp [placed]; omega
    have hg : (placed at_ (L.take i) ++ L.drop i)[i]? = some L[i] := by
      rw [List.getElem?_append_right (by simp [placed]; omega), List.getElem?_drop]
      simp only [placed, List.length_map, List.length_take]
      rw [show i + (i - min i L.length) = i by omega, List.getElem?_eq_getElem hil]
    obtain ⟨w0, w1⟩ := hw _ (List.getElem_mem hil)
    rw [iter, f45_p0_eq, show decide ((i : Int) < (L.length : Int)) = true from by simp; omega, cond_true, hlen, within_lt hil, Int.toNat_natCast, hg, Option.bind_some, within_lt hil, Option.bind_some]
    rw [show IntKind.i64.wrap ((i : Int) + (1 : Int)) = ((i + 1 : Nat) : Int) from wrap_add i 1 (by omega) (by omega), wrap64 (x := (at_ : Int) + 1) (by omega) (by omega), wrap64 (by omega) (by omega)]
    have hset : (placed at_ (L.take i) ++ L.drop i).set i (L[i].1 + ((at_ : Int) + 1), L[i].2) = placed at_ (L.take (i + 1)) ++ L.drop (i + 1) := by
      rw [List.set_append_right _ _ (by simp [placed]; omega)]
      simp only [placed, List.length_map, List.length_take]
      rw [show i - min i L.length = 0 by omega, List.drop_eq_getElem_cons hil, List.set_cons_zero, List.take_succ_eq_append_getElem hil, List.map_append]
      simp
    rw [hset, ih (i + 1) (by omega) n (by omega)]
theorem place_eq (at_ : Nat) (ha : at_ ≤ 64) (L : List PWr) (hL : L.length ≤ 1000) (hw : ∀ w ∈ L, 0 ≤ w.1 ∧ w.1 ≤ 100000) : f45_F (L, ((at_ : Int), ())) = some (placed at_ L, ()) := by
  rw [f45_eq, clone_w L hL, Option.bind_some]
  show ((go f45_p0_st (f45_p0_y at_ L.length 0 L)).bind _) = _
  have : go f45_p0_st (f45_p0_y at_ L.length 0 L) = some (f45_p0_o0_y (placed at_ L)) := by
    refine go_le (m := L.length + 1) (fun n hn => ?_) (by rw [fuel_def]; omega)
    exact place_loop at_ ha L hL hw L.length 0 (by omega) n hn
  rw [this]; rfl
theorem of_ws {all : Str} {n : Nat} (hall : 128 * n ≤ all.length) {l : List PWr} (h : X18.Of all n l) : Ws n l := fun w hw => by
  obtain ⟨j, hj, rfl⟩ := h w hw
  exact ⟨j, hj, rfl, X18.chunk_len all j (by omega)⟩
theorem ws_range {n : Nat} (hn : n ≤ 64) {l : List PWr} (h : Ws n l) : ∀ w ∈ l, 0 ≤ w.1 ∧ w.1 ≤ 100000 := fun w hw => by
  obtain ⟨j, hj, e, _⟩ := h w hw
  omega
theorem lays_few (s : List Str) (used : Nat) (data : Str) (h : used + data.length ≤ 128 * s.length) (hl : s.length ≤ 64) : (X18.lays s used data).length ≤ 64 := by
  unfold X18.lays
  rw [X18.writes_len]
  unfold X18.many
  split <;> omega
structure Plan (S : List Str) (A : List PR) (h t u : Nat) (l : List Str) (h' t' u' : Nat) (W : List PWr) : Prop where
  hh : h' ≤ 1
  ws : Ws (logH S h').length W
  few : W.length ≤ 64
  t1 : 1 ≤ t'
  t2 : t' ≤ 1099511627776
  u1 : u' ≤ 128 * (logH S h').length
  new : ∃ rs, rows ((X18.put (logH S h') W).flatten.take u') = some rs ∧ Kv.all A l = allR [] rs
  old : (h' = h ∧ t' = t ∧ ∀ l', (∀ w ∈ l', w ∈ W) → (X18.put (logH S h) l').flatten.take u = (logH S h).flatten.take u) ∨ (h' = 1 - h ∧ t' = t + 1)
abbrev stepsOf (S : List Str) (h' t' u' : Nat) (W : List PWr) : List (List PWr) := [placed (atH S h') W, [((atH S h' : Int), head t' u')]]
end Go.Pe.Try
end
section
namespace Go.Pe.Try
open Go.Proofs Go.RowKit Go.Pe.Kv Go.Pe.X17
set_option maxRecDepth 100000
set_option linter.unusedSimpArgs false
set_option linter.unusedVariables false
theorem bne0 : ((0 : Int) != 0) = false := rfl
theorem beq0 : ((0 : Int) == 0) = true := rfl
def fitsA (S : List Str) (h u : Nat) (l : List Str) : Prop := u + (4 + (pack l).length) ≤ 128 * (logH S h).length
def fitsB (S : List Str) (A : List PR) (h t : Nat) (l : List Str) : Prop := (wholeA (Kv.all A l)).length ≤ 128 * (logH S (1 - h)).length ∧ t + 1 < 1099511627776
theorem lens {S A h t u} (s : Store S A h t u) : (logH S h).length = S.length / 2 - 1 ∧ (logH S (1 - h)).length = S.length / 2 - 1 ∧ 4 ≤ S.length ∧ S.length ≤ 64 :=
  ⟨logH_len S h s.hle s.right.lo, logH_len S (1 - h) (by omega) s.right.lo, s.right.lo, s.right.hi⟩
theorem steps_bad {S A h t u} (s : Store S A h t u) {l : List Str} (hl : l.length ≤ 1000) (hp : pairsB l = false) : f18_F (kvOf S A h t u, (l, ())) = some ([], ((1 : Int), ())) := by
  rw [f18_eq, f18_p2_eq, right_eq s, Option.bind_some, show (!((true, ()) : Bool × Unit).1) = false from rfl, cond_false, pairs_eq l hl, hp]; rfl
theorem steps_front {S A h t u} (s : Store S A h t u) {l : List Str} (hp : pairsB l = true) : f18_p2_F (f18_p2_y l S [] (A.map (·.1)) (A.map (·.2)) h t u) = some (f18_p2_o0_y l false S [] (A.map (·.1)) (A.map (·.2)) h t u) := by
  obtain ⟨_, _, p3, _⟩ := pairs_spec hp
  rw [f18_p2_eq, right_eq s, Option.bind_some, show (!((true, ()) : Bool × Unit).1) = false from rfl, cond_false, pairs_eq l (by omega), hp]; rfl
theorem pack_pairs {l : List Str} (hp : pairsB l = true) : f42_F (l, ()) = some (if (pack l).length ≤ 65536 then (pack l, (0, ())) else ([], (2, ()))) := by
  obtain ⟨_, p2, p3, p4⟩ := pairs_spec hp
  have hm := okP_mem p4 p2
  exact pack_eq l p3 fun s hs => by have := hm s hs; omega
theorem steps_long {S A h t u} (s : Store S A h t u) {l : List Str} (hp : pairsB l = true) (hL : 4096 < (pack l).length) : f18_F (kvOf S A h t u, (l, ())) = some ([], ((2 : Int), ())) := by
  rw [f18_eq, steps_front s hp, Option.bind_some]
  show ((f42_F (l, ())).bind _) = _
  rw [pack_pairs hp, Option.bind_some]
  by_cases h6 : (pack l).length ≤ 65536
  · rw [if_pos h6]
    show ((f43_F (pack l, ())).bind _) = _
    rw [frame_long _ hL]; rfl
  · rw [if_neg h6]; rfl
theorem lay_res {S : List Str} (hr : Right S []) {k : Nat} (hk : k ≤ 1) {u : Nat} {data : Str} (h : u + data.length ≤ 128 * (logH S k).length) : X18.Of (X18.whole (logH S k) u data) (logH S k).length (X18.lays (logH S k) u data) ∧ Ws (logH S k).length (X18.lays (logH S k) u data) ∧ (X18.lays (logH S k) u data).length ≤ 64 ∧ f44_F (logH S k, ((u : Int), (data, ()))) = some (X18.lays (logH S k) u data, (0, ())) ∧ f45_F (X18.lays (logH S k) u data, ((atH S k : Int), ())) = some (placed (atH S k) (X18.lays (logH S k) u data), ()) := by
  have hL := logH_len S k hk hr.lo
  have h2 := hr.hi
  have hlo := hr.lo
  have hu := uni_of hr k
  have hof := X18.lay_of h
  have hws := of_ws (by rw [X18.whole_len hu h]; omega) hof
  have hfew := lays_few _ _ _ h (by omega)
  have hat := atH_lt S k hk hr.lo
  exact ⟨hof, hws, hfew, lay_ok hu (by omega) h, place_eq _ (by omega) _ (by omega) (ws_range (by omega) hws)⟩
theorem steps_A {S A h t u} (s : Store S A h t u) {l : List Str} (hp : pairsB l = true) (hL : (pack l).length ≤ 4096) (hf : fitsA S h u l) :
    ∃ W, Plan S A h t u l h t (u + (frame (pack l)).length) W ∧ f18_F (kvOf S A h t u, (l, ())) = some (stepsOf S h t (u + (frame (pack l)).length) W, ((0 : Int), ())) := by
  obtain ⟨l1, l2, l3, l4⟩ := lens s
  obtain ⟨hu, ht⟩ := s.used
  have hle := s.hle
  have hfl : (frame (pack l)).length = 4 + (pack l).length := frame_len _
  have hfit : u + (frame (pack l)).length ≤ 128 * (logH S h).length := by rw [hfl]; exact hf
  obtain ⟨r1, r2, r3, r4, r5⟩ := lay_res s.right hle hfit
  have huni := uni_of s.right h
  refine ⟨X18.lays (logH S h) u (frame (pack l)), ⟨hle, r2, r3, s.pos, ht, hfit, ?_, .inl ⟨rfl, rfl, fun l' hl' => X18.some_text huni hfit fun w hw => r1 w (hl' w hw)⟩⟩, ?_⟩
  · obtain ⟨rs, hrs, hA⟩ := s.held
    refine ⟨rs ++ [l], ?_, ?_⟩
    · rw [X18.lay_text huni hfit]
      exact rows_app hrs hp hL
    · rw [allR_app, ← hA]; rfl
  · rw [f18_eq, steps_front s hp]
    simp only [Option.bind_some, f18_p2_o0_x22_y, f18_p2_o0_x1_y, f18_p2_o0_r0_0_y, f18_p2_o0_r0_1_y, f18_p2_o0_r0_2_y, f18_p2_o0_r0_3_y, f18_p2_o0_r0_4_y, f18_p2_o0_r0_5_y, f18_p2_o0_r0_6_y, cond_false]
    rw [pack_pairs hp, if_pos (by omega), Option.bind_some]
    dsimp only
    rw [bne0, cond_false, frame_eq _ hL, Option.bind_some]
    dsimp only
    rw [bne0, cond_false, half_eq S [] h hle l3 l4, Option.bind_some]
    dsimp only
    rw [r4, Option.bind_some]
    dsimp only
    rw [beq0, cond_true, r5, Option.bind_some]
    dsimp only
    have hw : IntKind.i64.wrap ((u : Int) + ((frame (pack l)).length : Int)) = ((u + (frame (pack l)).length : Nat) : Int) := by rw [wrap64 (by omega) (by omega)]; rfl
    rw [hw, head_eq _ _ (by omega) (by omega), Option.bind_some]
theorem steps_other {S A h t u} (s : Store S A h t u) {l : List Str} (hp : pairsB l = true) (hL : (pack l).length ≤ 4096) (hf : ¬ fitsA S h u l) :
    f18_F (kvOf S A h t u, (l, ())) = (f18_p1_F (f18_p1_y l S [] (A.map (·.1)) (A.map (·.2)) h t u)).bind fun o168 => some ((f18_p1_o0_x4 o168), ((f18_p1_o0_x5 o168), ())) := by
  obtain ⟨l1, l2, l3, l4⟩ := lens s
  obtain ⟨hu, ht⟩ := s.used
  have hle := s.hle
  have hfl : (frame (pack l)).length = 4 + (pack l).length := frame_len _
  rw [f18_eq, steps_front s hp]
  simp only [Option.bind_some, f18_p2_o0_x22_y, f18_p2_o0_x1_y, f18_p2_o0_r0_0_y, f18_p2_o0_r0_1_y, f18_p2_o0_r0_2_y, f18_p2_o0_r0_3_y, f18_p2_o0_r0_4_y, f18_p2_o0_r0_5_y, f18_p2_o0_r0_6_y, cond_false]
  rw [pack_pairs hp, if_pos (by omega), Option.bind_some]
  dsimp only
  rw [bne0, cond_false, frame_eq _ hL, Option.bind_some]
  dsimp only
  rw [bne0, cond_false, half_eq S [] h hle l3 l4, Option.bind_some]
  dsimp only
  rw [lay_full (uni_of s.right h) (by omega) hu (by rw [hfl]; unfold fitsA at hf; omega), Option.bind_some]
  dsimp only
  rw [show ((40 : Int) == 0) = false from rfl, cond_false]
theorem half_int {h : Nat} (hh : h ≤ 1) : IntKind.i64.wrap ((1 : Int) - (h : Int)) = ((1 - h : Nat) : Int) := by rw [wrap64 (by omega) (by omega)]; omega
theorem steps_B {S A h t u} (s : Store S A h t u) {l : List Str} (hp : pairsB l = true) (hL : (pack l).length ≤ 4096) (hf : ¬ fitsA S h u l) (hb : fitsB S A h t l) :
    ∃ u' W, Plan S A h t u l (1 - h) (t + 1) u' W ∧ f18_F (kvOf S A h t u, (l, ())) = some (stepsOf S (1 - h) (t + 1) u' W, ((0 : Int), ())) := by
  obtain ⟨l1, l2, l3, l4⟩ := lens s
  obtain ⟨hu, ht⟩ := s.used
  have hle := s.hle
  obtain ⟨b1, b2⟩ := hb
  have hfit : 0 + (wholeA (Kv.all A l)).length ≤ 128 * (logH S (1 - h)).length := by omega
  obtain ⟨r1, r2, r3, r4, r5⟩ := lay_res s.right (by omega : 1 - h ≤ 1) hfit
  have huni := uni_of s.right (1 - h)
  obtain ⟨_, p2, p3, p4⟩ := pairs_spec hp
  have hgood := all_good (l := l) p4 s.good
  have hso : Sorted (Kv.all A l) := by
    have := (pA_is s.sizes.2.2 fun x hx => (s.good x hx).2).all l
    exact this.so
  refine ⟨(wholeA (Kv.all A l)).length, X18.lays (logH S (1 - h)) 0 (wholeA (Kv.all A l)), ⟨by omega, r2, r3, by omega, by omega, b1, ?_, .inr ⟨rfl, rfl⟩⟩, ?_⟩
  · refine ⟨_, ?_, (rebuild hso fun x hx => (hgood x hx).2).symm⟩
    have := X18.lay_text huni hfit
    rw [Nat.zero_add] at this
    rw [this, List.take_zero, List.nil_append]
    exact rows_whole hgood
  · rw [steps_other s hp hL hf, f18_p1_eq, half_int hle, half_eq S [] (1 - h) (by omega) l3 l4, Option.bind_some, whole_eq s hp, Option.bind_some]
    dsimp only
    have ht1 : IntKind.i64.wrap ((t : Int) + 1) = ((t + 1 : Nat) : Int) := by rw [wrap64 (by omega) (by omega)]; rfl
    have r4' : f44_F (logH S (1 - h), ((0 : Int), (wholeA (Kv.all A l), ()))) = some (X18.lays (logH S (1 - h)) 0 (wholeA (Kv.all A l)), (0, ())) := r4
    rw [r4', Option.bind_some]
    dsimp only
    rw [f18_p0_eq, bne0, cond_false, ht1, show decide (((t + 1 : Nat) : Int) ≥ (1099511627776 : Int)) = false from by simp only [decide_eq_false_iff_not]; omega]
    simp only [Option.bind_some, f18_p0_o0_x9_y, f18_p0_o0_x13_y, f18_p0_o0_x14_y, f18_p0_o0_x97_y, f18_p0_o0_r0_0_y, f18_p0_o0_r0_1_y, f18_p0_o0_r0_2_y, f18_p0_o0_r0_3_y, f18_p0_o0_r0_4_y, f18_p0_o0_r0_5_y, f18_p0_o0_r0_6_y, f18_p1_o0_x4_y, f18_p1_o0_x5_y, cond_false]
    rw [r5, Option.bind_some]
    dsimp only
    rw [ht1, head_eq _ _ (by omega) (by omega)]
    rfl
theorem steps_full {S A h t u} (s : Store S A h t u) {l : List Str} (hp : pairsB l = true) (hL : (pack l).length ≤ 4096) (hf : ¬ fitsA S h u l) (hb : ¬ fitsB S A h t l) :
    f18_F (kvOf S A h t u, (l, ())) = some ([], ((40 : Int), ())) := by
  obtain ⟨l1, l2, l3, l4⟩ := lens s
  obtain ⟨hu, ht⟩ := s.used
  have hle := s.hle
  have huni := uni_of s.right (1 - h)
  have ht1 : IntKind.i64.wrap ((t : Int) + 1) = ((t + 1 : Nat) : Int) := by rw [wrap64 (by omega) (by omega)]; rfl
  rw [steps_other s hp hL hf, f18_p1_eq, half_int hle, half_eq S [] (1 - h) (by omega) l3 l4, Option.bind_some, whole_eq s hp, Option.bind_some]
  dsimp only
  by_cases h1 : (wholeA (Kv.all A l)).length ≤ 128 * (logH S (1 - h)).length
  · have h2 : ¬ t + 1 < 1099511627776 := fun h2 => hb ⟨h1, h2⟩
    obtain ⟨r1, r2, r3, r4, r5⟩ := lay_res s.right (by omega : 1 - h ≤ 1) (u := 0) (data := wholeA (Kv.all A l)) (by omega)
    have r4' : f44_F (logH S (1 - h), ((0 : Int), (wholeA (Kv.all A l), ()))) = some (X18.lays (logH S (1 - h)) 0 (wholeA (Kv.all A l)), (0, ())) := r4
    rw [r4', Option.bind_some]
    dsimp only
    rw [f18_p0_eq, bne0, cond_false, ht1, show decide (((t + 1 : Nat) : Int) ≥ (1099511627776 : Int)) = true from by simp only [decide_eq_true_eq]; omega]
    simp only [Option.bind_some, f18_p0_o0_x9_y, f18_p0_o0_x13_y, f18_p0_o0_x14_y, f18_p0_o0_x97_y, f18_p0_o0_r0_0_y, f18_p0_o0_r0_1_y, f18_p0_o0_r0_2_y, f18_p0_o0_r0_3_y, f18_p0_o0_r0_4_y, f18_p0_o0_r0_5_y, f18_p0_o0_r0_6_y, f18_p1_o0_x4_y, f18_p1_o0_x5_y, cond_true]
  · have r4' : f44_F (logH S (1 - h), ((0 : Int), (wholeA (Kv.all A l), ()))) = some ([], (40, ())) := lay_full huni (by omega) (used := 0) (by omega) (by omega)
    rw [r4', Option.bind_some]
    dsimp only
    rw [f18_p0_eq, show ((40 : Int) != 0) = true from rfl, cond_true]
    simp only [Option.bind_some, f18_p0_o0_x9_y, f18_p0_o0_x13_y, f18_p0_o0_x14_y, f18_p0_o0_x97_y, f18_p0_o0_r0_0_y, f18_p0_o0_r0_1_y, f18_p0_o0_r0_2_y, f18_p0_o0_r0_3_y, f18_p0_o0_r0_4_y, f18_p0_o0_r0_5_y, f18_p0_o0_r0_6_y, f18_p1_o0_x4_y, f18_p1_o0_x5_y, cond_true]
end Go.Pe.Try
end
section
namespace Go.Pe.Try
open Go.Proofs Go.RowKit Go.Pe.Kv Go.Pe.X17
set_option maxRecDepth 100000
set_option linter.unusedSimpArgs false
set_option linter.unusedVariables false
abbrev GoodW (S : List Str) (W : List PWr) : Prop := ∀ w ∈ W, 0 ≤ w.1 ∧ w.1 < (S.length : Int) ∧ w.2.length = 128
theorem put_one {S : List Str} {D : List PWr} (hr : Right S D) {w : PWr} (h0 : 0 ≤ w.1) (h1 : w.1 < (S.length : Int)) (hd : w.2.length = 128) (hf : D.length < 200) : f19_F ((S, (D, ())), (w.1, (w.2, ()))) = disk S (D ++ [w]) 0 := by
  obtain ⟨k, hk⟩ := Int.eq_ofNat_of_zero_le h0
  obtain ⟨a, b⟩ := w
  simp only at hk h1 hd ⊢
  subst hk
  exact put_is hr (by omega) hd hf
theorem right_more {S : List Str} {D E : List PWr} (hr : Right S D) (hE : GoodW S E) (hf : D.length + E.length ≤ 200) : Right S (D ++ E) :=
  ⟨hr.lo, hr.hi, by simpa using hf, hr.sec, fun w hw => by
    rcases List.mem_append.1 hw with h | h
    · exact hr.wr w h
    · exact hE w h⟩
theorem put_loop10 (x25 : List (List PWr)) (x26 x27 r1 r2 r3 : Int) (S : List Str) (W : List PWr) (hr : Right S []) (hW : GoodW S W) (hf : W.length ≤ 199) : ∀ (d i : Nat), i + d = W.length → ∀ n, d + 1 ≤ n →
    iter f10_p0_st n (f10_p0_y x25 x26 x27 W W.length i r1 r2 r3 S (W.take i)) = some (f10_p0_o0_y x25 x26 x27 r1 r2 r3 S W) := by
  intro d
  induction d with
  | zero =>
    intro i hi n hn
    obtain ⟨n, rfl⟩ : ∃ k, n = k + 1 := ⟨n - 1, by omega⟩
    rw [iter, f10_p0_eq, show decide ((i : Int) < (W.length : Int)) = false from by simp; omega, cond_false, List.take_of_length_le (by omega)]
  | succ d ih =>
    intro i hi n hn
    obtain ⟨n, rfl⟩ : ∃ k, n = k + 1 := ⟨n - 1, by omega⟩
    have hil : i < W.length := by omega
    obtain ⟨w0, w1, w2⟩ := hW _ (List.getElem_mem hil)
    have hrd : Right S (W.take i) := by
      have := right_more (E := W.take i) hr (fun w hw => hW w (List.mem_of_mem_take hw)) (by simp; omega)
      simpa using this
    rw [iter, f10_p0_eq, show decide ((i : Int) < (W.length : Int)) = true from by simp; omega, cond_true, nth_lt hil, Option.bind_some, put_one hrd w0 w1 w2 (by simp; omega), Option.bind_some]
    show iter f10_p0_st n (f10_p0_y x25 x26 x27 W W.length (IntKind.i64.wrap ((i : Int) + ((1 : Nat) : Int))) r1 r2 r3 S (W.take i ++ [W[i]])) = _
    rw [wrap_add i 1 (by omega) (by omega), ← List.take_succ_eq_append_getElem hil, ih (i + 1) (by omega) n (by omega)]
theorem put_go10 (x25 : List (List PWr)) (x26 x27 r1 r2 r3 : Int) (S : List Str) (W : List PWr) (hr : Right S []) (hW : GoodW S W) (hf : W.length ≤ 199) : go f10_p0_st (f10_p0_y x25 x26 x27 W W.length 0 r1 r2 r3 S []) = some (f10_p0_o0_y x25 x26 x27 r1 r2 r3 S W) := by
  refine go_le (m := W.length + 1) (fun n hn => ?_) (by rw [fuel_def]; omega)
  exact put_loop10 x25 x26 x27 r1 r2 r3 S W hr hW hf W.length 0 (by omega) n hn
def diskW (S : List Str) (h' : Nat) (W : List PWr) : List Str := (placed (atH S h') W).foldl X17.put S
def diskH (S : List Str) (h' t' u' : Nat) (W : List PWr) : List Str := (diskW S h' W).set (atH S h') (head t' u')
theorem Plan.view {S A h t u l h' t' u' W} (p : Plan S A h t u l h' t' u' W) (s : Store S A h t u) {W' : List PWr} (hW : ∀ w ∈ W', w ∈ W) : View S (diskW S h' W') h' (X18.put (logH S h') W') :=
  placed_view p.hh s.right.lo W' (fun w hw => p.ws w (hW w hw)) (View.refl S h') rfl
theorem Plan.good {S A h t u l h' t' u' W} (p : Plan S A h t u l h' t' u' W) (s : Store S A h t u) {W' : List PWr} (hW : ∀ w ∈ W', w ∈ W) : GoodW S (placed (atH S h') W') :=
  placed_wr p.hh s.right.lo fun w hw => p.ws w (hW w hw)
theorem right_one {S : List Str} {E : List PWr} (hr : Right S []) (hE : GoodW S E) (hf : E.length ≤ 200) : Right S E := by
  have := right_more (D := []) hr hE (by simpa using hf)
  rwa [List.nil_append] at this
theorem right_diskW {S : List Str} (hr : Right S []) {D : List PWr} (hD : GoodW S D) (hf : D.length ≤ 200) : Right (D.foldl X17.put S) [] := puts_right (right_more (D := []) hr hD (by simpa using hf))
theorem view_tell {S S' : List Str} {h : Nat} {L : List Str} (v : View S S' h L) (hh : h ≤ 1) (hL : L.length = (logH S h).length) : ∀ k, k ≤ 1 → tell S' k = tell S k := by
  intro k hk
  have e1 : ∀ k, k ≤ 1 → (logH S' k).length = (logH S k).length := fun k hk => by
    by_cases e : k = h
    · rw [e, v.log, hL]
    · have : k = 1 - h := by omega
      rw [this, v.oth]
  rw [tell_eq, tell_eq, e1 k hk]
  have : k = 0 ∨ k = 1 := by omega
  rcases this with rfl | rfl
  · rw [v.hd0]
  · rw [v.hd1]
theorem plan_store {S A h t u l h' t' u' W} (s : Store S A h t u) (p : Plan S A h t u l h' t' u' W) : Store (diskH S h' t' u' W) (Kv.all A l) h' t' u' := by
  have v := p.view s (W' := W) fun _ h => h
  have hlen : (diskW S h' W).length = S.length := v.len
  have hrW : Right (diskW S h' W) [] := right_diskW s.right (p.good s fun _ h => h) (by have := p.few; simp [placed]; omega)
  have hat : atH (diskW S h' W) h' = atH S h' := by simp [atH, hlen]
  have hlt := atH_lt S h' p.hh s.right.lo
  obtain ⟨c1, c2, c3, c4⟩ := head_view p.hh hrW.lo (head t' u')
  rw [hat] at c1 c2 c3 c4
  have hrH : Right (diskH S h' t' u' W) [] := by
    have := right_diskW hrW (D := [(((atH S h' : Nat) : Int), head t' u')]) (fun w hw => by
      simp only [List.mem_singleton] at hw; subst hw
      exact ⟨by simp, by rw [hlen]; omega, head_len _ _⟩) (by simp)
    exact this
  have hll : (logH (diskH S h' t' u' W) h').length = (logH S h').length := by
    unfold diskH; rw [c2 h' p.hh, v.log, X18.put_len]
  have hu1 := p.u1
  have hL := logH_len S h' p.hh s.right.lo
  have hS := s.right.hi
  have tn : tell (diskH S h' t' u' W) h' = (t', u') := by
    rw [tell_eq, hll]
    unfold diskH; rw [c3]
    exact tl_head t' u' _ p.t1 p.t2 hu1 (by omega)
  have tOt : tell (diskH S h' t' u' W) (1 - h') = tell S (1 - h') := by
    have hv := view_tell v p.hh (X18.put_len _ _) (1 - h') (by omega)
    rw [← hv, tell_eq, tell_eq]
    unfold diskH; rw [c4, c2 (1 - h') (by omega)]
  refine ⟨hrH, ?_, tn, p.t1, ?_⟩
  · have hsel := s.half
    have htl := s.tells
    have hle := s.hle
    have h01 : h' = 0 ∨ h' = 1 := by have := p.hh; omega
    rcases p.old with ⟨e, et, _⟩ | ⟨e, et⟩
    · subst e; subst et
      unfold selH at hsel ⊢
      rcases h01 with rfl | rfl
      · simp only [Nat.sub_zero] at tOt
        rw [tn, tOt]
        rw [htl] at hsel
        exact hsel
      · simp only [Nat.sub_self] at tOt
        rw [tn, tOt]
        rw [htl] at hsel
        exact hsel
    · subst et
      unfold selH at hsel ⊢
      rcases h01 with rfl | rfl
      · have e2 : h = 1 := by omega
        subst e2
        simp only [Nat.sub_zero] at tOt
        rw [tn, tOt, htl, if_neg (by simp)]
      · have e2 : h = 0 := by omega
        subst e2
        simp only [Nat.sub_self] at tOt
        rw [tn, tOt, htl, if_pos (by simp)]
  · obtain ⟨rs, hrs, hA⟩ := p.new
    refine ⟨rs, ?_, hA⟩
    unfold textH diskH
    rw [c2 h' p.hh, v.log]
    exact hrs
abbrev kv0 : List Str × List PWr × List Str × List Str × Int × Int × Int × Unit := ([], ([], ([], ([], ((0 : Int), ((0 : Int), ((0 : Int), ())))))))
theorem put_err {S A h t u} (s : Store S A h t u) {l : List Str} {e : Int} (he : e ≠ 0) (hs : f18_F (kvOf S A h t u, (l, ())) = some ([], (e, ()))) : f10_F (kvOf S A h t u, (l, ())) = some (kv0, (e, ())) := by
  rw [f10_eq, hs, Option.bind_some]
  dsimp only
  rw [show (e != 0) = true from by simp [he], cond_true]
theorem put_ok {S A h t u l h' t' u' W} (s : Store S A h t u) (p : Plan S A h t u l h' t' u' W) (hs : f18_F (kvOf S A h t u, (l, ())) = some (stepsOf S h' t' u' W, ((0 : Int), ()))) :
    f10_F (kvOf S A h t u, (l, ())) = some (kvOf (diskH S h' t' u' W) (Kv.all A l) h' t' u', ((0 : Int), ())) := by
  have hst := plan_store s p
  have hgW := p.good s (W' := W) fun _ h => h
  have hfew := p.few
  have hrW : Right (diskW S h' W) [] := right_diskW s.right hgW (by simp [placed]; omega)
  have hlen : (diskW S h' W).length = S.length := (p.view s (W' := W) fun _ h => h).len
  have hlt := atH_lt S h' p.hh s.right.lo
  rw [f10_eq, hs, Option.bind_some]
  dsimp only
  rw [bne0, cond_false]
  have hgo : go f10_p1_st (f10_p1_y (stepsOf S h' t' u' W) ((stepsOf S h' t' u' W).length : Int) 0 0 0 0 S []) = some (f10_p1_o0_y 0 0 0 (diskH S h' t' u' W) []) := by
    refine go_le (m := 3) (fun n hn => ?_) (by rw [fuel_def]; omega)
    obtain ⟨n, rfl⟩ : ∃ k, n = k + 3 := ⟨n - 3, by omega⟩
    rw [iter, f10_p1_eq]
    show (bif decide ((0 : Int) < 2) then ((nth (stepsOf S h' t' u' W) 0).bind _) else _) = _
    rw [show decide ((0 : Int) < 2) = true from rfl, cond_true, show nth (stepsOf S h' t' u' W) 0 = some (placed (atH S h') W) from rfl, Option.bind_some, put_go10 _ _ _ _ _ _ S _ s.right hgW (by simp [placed]; omega), Option.bind_some]
    simp only [f10_p0_o0_r2_0_y, f10_p0_o0_r2_1_y, f10_p0_o0_x25_y, f10_p0_o0_x26_y, f10_p0_o0_x27_y, f10_p0_o0_r1_4_y, f10_p0_o0_r1_5_y, f10_p0_o0_r1_6_y]
    rw [sync_is (right_one s.right hgW (by simp [placed]; omega)), Option.bind_some]
    dsimp only
    rw [show IntKind.i64.wrap ((0 : Int) + 1) = 1 from by decide]
    show iter f10_p1_st (n + 2) (f10_p1_y (stepsOf S h' t' u' W) ((stepsOf S h' t' u' W).length : Int) 1 0 0 0 (diskW S h' W) []) = _
    rw [iter, f10_p1_eq]
    show (bif decide ((1 : Int) < 2) then ((nth (stepsOf S h' t' u' W) 1).bind _) else _) = _
    have hg1 : GoodW (diskW S h' W) [(((atH S h' : Nat) : Int), head t' u')] := fun w hw => by
      simp only [List.mem_singleton] at hw; subst hw
      exact ⟨by simp, by rw [hlen]; omega, head_len _ _⟩
    rw [show decide ((1 : Int) < 2) = true from rfl, cond_true, show nth (stepsOf S h' t' u' W) 1 = some [(((atH S h' : Nat) : Int), head t' u')] from rfl, Option.bind_some, put_go10 _ _ _ _ _ _ _ _ hrW hg1 (by simp), Option.bind_some]
    simp only [f10_p0_o0_r2_0_y, f10_p0_o0_r2_1_y, f10_p0_o0_x25_y, f10_p0_o0_x26_y, f10_p0_o0_x27_y, f10_p0_o0_r1_4_y, f10_p0_o0_r1_5_y, f10_p0_o0_r1_6_y]
    rw [sync_is (right_one hrW hg1 (by simp)), Option.bind_some]
    dsimp only
    rw [show IntKind.i64.wrap ((1 : Int) + 1) = 2 from by decide]
    show iter f10_p1_st (n + 1) (f10_p1_y (stepsOf S h' t' u' W) ((stepsOf S h' t' u' W).length : Int) 2 0 0 0 (diskH S h' t' u' W) []) = _
    rw [iter, f10_p1_eq]
    show (bif decide ((2 : Int) < 2) then _ else _) = _
    rw [show decide ((2 : Int) < 2) = false from rfl, cond_false]
  rw [hgo, Option.bind_some]
  simp only [f10_p1_o0_r2_0_y, f10_p1_o0_r2_1_y]
  rw [open_eq hst, Option.bind_some]
theorem put_cases {S A h t u} (s : Store S A h t u) {l : List Str} (hl : l.length ≤ 1000) : (pairsB l = false ∧ f18_F (kvOf S A h t u, (l, ())) = some ([], ((1 : Int), ()))) ∨
    (pairsB l = true ∧ ∃ e : Int, (e = 2 ∨ e = 40) ∧ f18_F (kvOf S A h t u, (l, ())) = some ([], (e, ())) ∧ (e = 40 → ¬ fitsA S h u l ∧ ¬ fitsB S A h t l)) ∨
    (pairsB l = true ∧ ∃ h' t' u' W, Plan S A h t u l h' t' u' W ∧ f18_F (kvOf S A h t u, (l, ())) = some (stepsOf S h' t' u' W, ((0 : Int), ()))) := by
  cases hp : pairsB l
  · exact .inl ⟨rfl, steps_bad s hl hp⟩
  · by_cases hL : (pack l).length ≤ 4096
    · by_cases hf : fitsA S h u l
      · obtain ⟨W, h1, h2⟩ := steps_A s hp hL hf
        exact .inr (.inr ⟨rfl, _, _, _, _, h1, h2⟩)
      · by_cases hb : fitsB S A h t l
        · obtain ⟨u', W, h1, h2⟩ := steps_B s hp hL hf hb
          exact .inr (.inr ⟨rfl, _, _, _, _, h1, h2⟩)
        · exact .inr (.inl ⟨rfl, 40, .inr rfl, steps_full s hp hL hf hb, fun _ => ⟨hf, hb⟩⟩)
    · exact .inr (.inl ⟨rfl, 2, .inl rfl, steps_long s hp (by omega), fun h => by cases h⟩)
def disk0 (n : Nat) : List Str := (List.replicate n (List.replicate 128 (0 : UInt8))).set 0 (head 1 0)
theorem format_store {n : Nat} (h1 : 4 ≤ n) (h2 : n ≤ 64) : Store (disk0 n) [] 0 1 0 := by
  have hlen : (disk0 n).length = n := by simp [disk0]
  have hr : Right (disk0 n) [] := ⟨by omega, by omega, by simp, fun s hs => by
    rcases List.mem_or_eq_of_mem_set hs with h | h
    · rw [List.eq_of_mem_replicate h]; simp
    · rw [h]; exact head_len 1 0, by simp⟩
  have t0 : tell (disk0 n) 0 = (1, 0) := by
    have e : hdH (disk0 n) 0 = head 1 0 := by
      unfold hdH atH disk0
      rw [Nat.zero_mul, List.getD_eq_getElem?_getD, List.getElem?_set_self (by simp; omega)]; rfl
    rw [tell_eq, e]
    exact tl_head 1 0 _ (by omega) (by omega) (by omega) (by omega)
  have t1 : tell (disk0 n) 1 = (0, 0) := by
    have e : hdH (disk0 n) 1 = List.replicate 128 0 := by
      unfold hdH atH
      rw [hlen, Nat.one_mul]
      unfold disk0
      rw [List.getD_eq_getElem?_getD, List.getElem?_set_ne (by omega), List.getElem?_replicate, if_pos (by omega)]; rfl
    rw [tell_eq, e]
    exact tl_zero _
  refine ⟨hr, by unfold selH; rw [t0, t1]; rfl, t0, by omega, [], ?_, rfl⟩
  unfold textH
  rw [List.take_zero]; rfl
theorem format_eq {n : Nat} (h1 : 4 ≤ n) (h2 : n ≤ 64) : f7_F ((n : Int), ()) = some (kvOf (disk0 n) [] 0 1 0, ((0 : Int), ())) := by
  rw [f7_eq, h22_eq, h22_p0_eq, show decide ((n : Int) < 4) = false from by simp; omega, cond_false, show decide ((n : Int) > 64) = false from by simp; omega]
  simp only [Option.bind_some, h22_p0_o0_x10_y, h22_p0_o0_x0_y, cond_false]
  have hz := repeat_zero 128 (by omega)
  have hz' : repeatF (([0] : List UInt8), ((128 : Int), ())) = some (List.replicate 128 0, ()) := hz
  rw [hz', Option.bind_some]
  have h51 : h51_F (h51_y [List.replicate 128 (0 : UInt8)] (n : Int)) = some (h51_o_y (List.replicate n (List.replicate 128 (0 : UInt8)))) := by
    show (if 1 ≤ (n : Int) ∧ (n : Int) ≤ 1000000 then some (((), ()), (), (List.replicate (n : Int).toNat (List.replicate 128 (0 : UInt8)), ())) else none) = _
    rw [if_pos (by omega), Int.toNat_natCast]; rfl
  rw [h51, Option.bind_some]
  simp only [Option.bind_some, h22_o_x1_y, h51_o_l0_y, h22_o_l0_y]
  have hh : f23_F ((1 : Int), ((0 : Int), ())) = some (head 1 0, ()) := head_eq 1 0 (by omega) (by omega)
  rw [bne0, cond_false, hh, Option.bind_some]
  have hw : ∀ (K : Option (argsDen f7_rs)), within (0 : Int) (List.replicate n (List.replicate 128 (0 : UInt8))).length K = K := fun K => by
    rw [within, if_pos (by simp; omega)]
  have hlt : 0 < (List.replicate n (List.replicate 128 (0 : UInt8))).length := by rw [List.length_replicate]; omega
  rw [hw, show Int.toNat (0 : Int) = 0 from rfl, List.getElem?_eq_getElem hlt, Option.bind_some]
  show ((f13_F ((disk0 n, (([] : List PWr), ())), ())).bind _) = _
  rw [open_eq (format_store h1 h2), Option.bind_some]
end Go.Pe.Try
end
section
namespace Go.Pe.Try
open Go.Proofs Go.RowKit Go.Pe.Kv Go.Pe.X17
set_option maxRecDepth 100000
set_option linter.unusedSimpArgs false
set_option linter.unusedVariables false
theorem put_fits {S A h t u} (s : Store S A h t u) {l : List Str} (hp : pairsB l = true) (hL : (pack l).length ≤ 4096) (hf : fitsA S h u l) :
    ∃ S', S'.length = S.length ∧ Store S' (Kv.all A l) h t (u + (4 + (pack l).length)) ∧ f10_F (kvOf S A h t u, (l, ())) = some (kvOf S' (Kv.all A l) h t (u + (4 + (pack l).length)), ((0 : Int), ())) := by
  obtain ⟨W, p, h2⟩ := steps_A s hp hL hf
  have h3 := put_ok s p h2
  have h4 := plan_store s p
  rw [frame_len] at h3 h4
  refine ⟨_, ?_, h4, h3⟩
  unfold diskH
  rw [List.length_set, (p.view s (W' := W) fun _ h => h).len]
theorem alive_eq : f8_F () = some (true, ()) := by
  have s0 := format_store (n := 8) (by omega) (by omega)
  have hl : (logH (disk0 8) 0).length = 3 := by rw [logH_len _ _ (by omega) (by simp [disk0])]; simp [disk0]
  have hpk : (pack [([97] : Str), ([49] : Str)]).length = 10 := rfl
  obtain ⟨S', _, s1, hput⟩ := put_fits s0 (l := [[97], [49]]) (by decide) (by rw [hpk]; omega) (by unfold fitsA; rw [hpk, hl]; omega)
  have hall : Kv.all [] [([97] : Str), ([49] : Str)] = [([97], [49])] := by decide
  rw [hall] at s1 hput
  have hfmt := format_eq (n := 8) (by omega) (by omega)
  have hfmt' : f7_F ((8 : Int), ()) = some (kvOf (disk0 8) [] 0 1 0, ((0 : Int), ())) := hfmt
  rw [f8_eq, f7_Le, f10_Le, f14_Le, hfmt', Option.bind_some]
  dsimp only
  rw [hput, Option.bind_some]
  dsimp only
  have hg := get_hit s1 (i := 0) (by simp)
  have hg' : f14_F (kvOf S' [(([97] : Str), ([49] : Str))] 0 1 (0 + (4 + (pack [([97] : Str), ([49] : Str)]).length)), (([97] : Str), ())) = some (([49] : Str), ((0 : Int), ())) := hg
  rw [hg', Option.bind_some]
  rfl
end Go.Pe.Try
end
section
namespace Go.Pe
open Go.RowKit Go.ChangeShapes
def All (w : World) (b : Nat) : Prop := b < w.heap.size
theorem cell_lt {w : World} {a : Addr} {v : Value} (h : w.cell? a = some v) : a.block < w.heap.size ∧ a.spot = none := by
  unfold World.cell? at h
  split at h
  · rename_i c el t hb
    refine ⟨(Array.getElem?_eq_some_iff.1 hb).1, ?_⟩
    split at h
    · cases h
    · rename_i hs; simpa using hs
  · cases h
theorem add_spot {a : Addr} (h : a.spot = none) (n : Nat) : a.add n = ⟨a.block, a.off + n, none⟩ := by
  unfold Addr.add
  split
  · rename_i e; subst e; cases a; simp_all
  · rfl
theorem decTys_enc : ∀ (ts : List Ty) (x : tysDen ts), decTys ts (encTys ts x) = some x
  | [], _ => rfl
  | t :: ts, x => by simp only [encTys, decTys, asTy, dite_true, Option.bind_some, decTys_enc ts x.2]
theorem KD.dec_enc : ∀ (k : KD) (x : k.den), k.dec (k.enc x) = some x
  | .one t, x => by simp only [KD.enc, KD.dec, asTy, dite_true]
  | .agg ts, x => by simp only [KD.enc, KD.dec, decTys_enc]
theorem decArgs_enc : ∀ (ks : List KD) (x : argsDen ks), decArgs ks (encArgs ks x) = some x
  | [], _ => rfl
  | k :: ks, x => by simp only [encArgs, decArgs, KD.dec_enc, Option.bind_some, decArgs_enc ks x.2]
theorem law_walk [GI] {P : Program} {f : Nat} {ps : List KD} {F : argsDen ps → Option (argsDen [.one .bool])} (h : Sound P f (pfun F)) (y : argsDen ps) (hF : F y = some (true, ())) {w : World} {vs : List Value} (hgi : GI.inv w)
    (hrep : RepAVs (c0 (All w) w) (encArgs ps y) vs) : Calls P f vs.toArray w fun e w' => e = .returned (.bool true) ∧ Below w.heap.size w w' := by
  obtain ⟨av, hK, _, hc⟩ := h.2 AV (encArgs ps y) some (.d .bool true) (by simp only [pfun, decArgs_enc, Option.bind_some, hF]; rfl) (All w) w vs (fun b hb => hb) hgi (encArgs_closed ps y) hrep
  cases hK
  refine hc.mono fun e w' ⟨v, he, hb, hr⟩ => ?_
  simp only [RepAV, Rep, List.cons.injEq, and_true] at hr
  subst hr
  exact ⟨he, hb⟩
end Go.Pe
end
section
namespace Go.Pe
open Go.RowKit Go.ChangeShapes Go.WideShapes
set_option linter.unusedSectionVars false
variable [GI]

inductive WfV (N : Nat) : V → Prop
  | mk (kind n : Int) (s : List UInt8) (items : List V) (keys : List (List UInt8)) (hk : (Lit.int .i64 kind).wf = true) (hn : (Lit.int .i64 n).wf = true) (hs : s.length ≤ N) (hi : items.length ≤ N) (hks : keys.length ≤ N)
      (hit : ∀ i (h : i < items.length), WfV N items[i]) (hkl : ∀ k ∈ keys, k.length ≤ N) : WfV N (.mk kind n s items keys)
def Wf (N : Nat) : (t : Ty) → t.den → Prop
  | .bool, _ => True
  | .int k, n => (Lit.int k n).wf = true
  | .str, s => s.length ≤ N
  | .list e, xs => xs.length ≤ N ∧ ∀ x ∈ xs, Wf N e x
  | .unit, _ => True
  | .prod a b, x => Wf N a x.1 ∧ Wf N b x.2
  | .value, x => WfV N x

def layTys (P : Program) (f : Nat → Option Ty) (total : Nat) : Nat → List (Nat × Nat) → Option Ty
  | off, [] => if off = total then some .unit else none
  | off, [(t, o)] => if o = off ∧ off + P.cellsOf t = total then (f t).bind fun a => if a.size = P.cellsOf t then some a else none else none
  | off, (t, o) :: r => if o = off then (f t).bind fun a => if a.size = P.cellsOf t then (layTys P f total (off + P.cellsOf t) r).bind fun b => some (.prod a b) else none else none
def isInt64 (P : Program) (t : Nat) : Bool := match P.underlying t with | some (.int .i64) => true | _ => false
def isString (P : Program) (t : Nat) : Bool := match P.underlying t with | some .string => true | _ => false
def sliceEl (P : Program) (t : Nat) : Option Nat := match P.underlying t with | some (.slice e) => some e | _ => none
def vtOk (P : Program) (vt : Nat) : Bool :=
  match P.underlying vt with
  | some (.struct fs) => (match fs.toList.map fun f => (f.type, f.offset) with
    | [(t1, 0), (t2, 1), (t3, 2), (t4, 3), (t5, 4)] => isInt64 P t1 && isInt64 P t2 && isString P t3 && (match sliceEl P t4 with | some e => Nat.beq e vt | none => false) && (match sliceEl P t5 with | some e => isString P e && Nat.beq (P.cellsOf e) 1 && Nat.ble 1 (P.bytesOf e) | none => false) &&
      Nat.beq (P.cellsOf t1) 1 && Nat.beq (P.cellsOf t2) 1 && Nat.beq (P.cellsOf t3) 1 && Nat.beq (P.cellsOf t4) 1 && Nat.beq (P.cellsOf t5) 1 && Nat.beq (P.cellsOf vt) 5 && Nat.ble 1 (P.bytesOf vt)
    | _ => false)
  | _ => false
def lay (P : Program) (vt : Nat) : Nat → Nat → Option Ty
  | 0, _ => none
  | n + 1, t => if t = vt then (if vtOk P vt = true then some .value else none) else match P.underlying t with
    | some .bool => some .bool
    | some (.int k) => some (.int k)
    | some .string => some .str
    | some (.slice e) => if 1 ≤ P.bytesOf e ∧ 1 ≤ P.cellsOf e then (lay P vt n e).bind fun ty => if ty.size = P.cellsOf e then some (.list ty) else none else none
    | some (.struct fs) => layTys P (lay P vt n) (P.cellsOf t) 0 (fs.toList.map fun f => (f.type, f.offset))
    | _ => none

section
variable {H : Type} {enc : TypeId × Value → H} {P : Program} {w : World} {base : Nat} {spare : Nat → Bool} {held : Bool} {N vt : Nat}

theorem rows_of {α : Type} {R : α → List Value → Prop} {W : α → Prop} {sz blk : Nat} : ∀ (len off : Nat), (∀ i, i < len → ∃ x c, R x c ∧ W x ∧ c.length = sz ∧ ∀ j, j < sz → w.cell? ⟨blk, off + i * sz + j, none⟩ = c[j]?) →
    ∃ (xs : List α) (us : List Value), xs.length = len ∧ (∀ x ∈ xs, W x) ∧ us.length = len * sz ∧ CellsAt w ⟨blk, off, none⟩ us ∧ RepAll R xs us
  | 0, off, _ => ⟨[], [], rfl, by simp, by simp, fun j hj => by simp at hj, rfl⟩
  | len + 1, off, h => by
    obtain ⟨x, c, h1, h2, h3, h4⟩ := h 0 (by omega)
    obtain ⟨xs, us, g1, g2, g3, g4, g5⟩ := rows_of len (off + sz) fun i hi => by
      obtain ⟨x, c, h1, h2, h3, h4⟩ := h (i + 1) (by omega)
      refine ⟨x, c, h1, h2, h3, fun j hj => ?_⟩
      rw [← h4 j hj, show off + sz + i * sz + j = off + (i + 1) * sz + j by rw [Nat.succ_mul]; omega]
    refine ⟨x :: xs, c ++ us, by simp [g1], by simpa using ⟨h2, g2⟩, by simp [g3, h3, Nat.succ_mul]; omega, fun j hj => ?_, c, us, rfl, h1, g5⟩
    simp only [List.length_append] at hj
    rcases Nat.lt_or_ge j sz with hl | hl
    · rw [List.getElem?_append_left (by omega), ← h4 j hl]; simp
    · rw [List.getElem?_append_right (by omega)]
      have := g4 (j - c.length) (by omega)
      simp only at this
      rw [← this, show off + sz + (j - c.length) = off + j by omega]

theorem slice_rep {ty : Ty} {e t fuel : Nat} {cs : List Value} {d : DataW H} {ps : List MemPlace} (ht : P.underlying t = some (.slice e)) (hb : 1 ≤ P.bytesOf e) (hc : 1 ≤ P.cellsOf e) (hsz : ty.size = P.cellsOf e)
    (ih : ∀ m, m < fuel → ∀ (cs : List Value) (d : DataW H) (ps : List MemPlace), DataW.trod enc P w base spare held m e cs = some (d, ps) → (∀ m ∈ d.weights P e, m ≤ N) → ∃ x, Rep (All w) w ty x cs ∧ Wf N ty x)
    (h : DataW.trod enc P w base spare held fuel t cs = some (d, ps)) (hw : ∀ m ∈ d.weights P t, m ≤ N) : ∃ x, Rep (All w) w (.list ty) x cs ∧ Wf N (.list ty) x := by
  rcases DataW.trod_slice ht h with ⟨rfl, hx⟩ | ⟨a, len, cap, elems, rest, n, hf, rfl, hx, _, hlc, _, hel, hat, _, _⟩
  · exact ⟨[], ⟨_, rfl, none, 0, rfl, Nat.le_refl _, .inl rfl⟩, by simp [Wf]⟩
  · have hd : d = .slice (elems.map (·.1)) (rest.map (·.1)) := congrArg Prod.fst hx
    subst hd
    simp only [DataW.weights, ht, List.mem_cons, List.mem_append] at hw
    have hlen : len ≤ N := by
      have := hw _ (.inl rfl)
      have h2 : len * 1 ≤ (elems.length + rest.length) * P.bytesOf e := Nat.mul_le_mul (by omega) hb
      simp only [List.length_map] at this
      omega
    have key : ∀ i, i < len → ∃ x c, Rep (All w) w ty x c ∧ Wf N ty x ∧ c.length = P.cellsOf e ∧ ∀ j, j < P.cellsOf e → w.cell? ((a.add (i * P.cellsOf e)).add j) = c[j]? := by
      intro i hi
      have h1 := hat i hi
      rw [List.getElem?_eq_getElem (by omega), Option.bind_eq_some_iff] at h1
      obtain ⟨c, hc1, hc2⟩ := h1
      obtain ⟨_, hc3, hc4⟩ := World.cells?_some hc1
      obtain ⟨x, hx1, hx2⟩ := ih n (by omega) c (elems[i]).1 (elems[i]).2 hc2 fun m hm => hw m (.inr (.inl (by
        have : ∀ (l : List (DataW H)) (d : DataW H), d ∈ l → m ∈ d.weights P e → m ∈ DataW.weightsAll P e l := by
          intro l; induction l with
          | nil => intro d hd; simp at hd
          | cons y l ih => intro d hd hm; simp only [DataW.weightsAll, List.mem_append]; exact (List.mem_cons.1 hd).elim (fun e => .inl (e ▸ hm)) (fun hd => .inr (ih d hd hm))
        exact this _ _ (List.mem_map_of_mem (List.getElem_mem (l := elems) (by omega))) hm)))
      exact ⟨x, c, hx1, hx2, hc3, hc4⟩
    rcases Nat.eq_zero_or_pos len with h0 | h0
    · subst h0
      exact ⟨[], ⟨_, rfl, some a, cap, rfl, by simp, .inl rfl⟩, by simp [Wf]⟩
    · obtain ⟨x, c, _, _, hcl, hcc⟩ := key 0 h0
      have h00 := hcc 0 (by omega)
      rw [List.getElem?_eq_getElem (by omega)] at h00
      have ha : a.block < w.heap.size ∧ a.spot = none := by
        have h1 : (a.add (0 * P.cellsOf e)).add 0 = a := by simp [Addr.add]
        rw [h1] at h00
        exact cell_lt h00
      obtain ⟨xs, us, g1, g2, g3, g4, g5⟩ := rows_of (w := w) (R := Rep (All w) w ty) (W := Wf N ty) (sz := P.cellsOf e) (blk := a.block) len a.off fun i hi => by
        obtain ⟨x, c, h1, h2, h3, h4⟩ := key i hi
        refine ⟨x, c, h1, h2, h3, fun j hj => ?_⟩
        rw [← h4 j hj, add_spot ha.2, add_spot rfl]
      refine ⟨xs, ⟨_, rfl, some a, cap, by rw [g1], by omega, .inr ⟨a, us, rfl, ha.2, ha.1, ?_, g5⟩⟩, ?_⟩
      · intro j hj
        exact g4 j hj
      · simp only [Wf]; exact ⟨by omega, g2⟩

theorem mem_each : ∀ {ts : List TypeId} {ds : List (DataW H)} {t d} {m : Nat}, m ∈ DataW.weights P t d → m ∈ DataW.weightsEach P (t :: ts) (d :: ds) := by
  intro ts ds t d m h
  simp only [DataW.weightsEach, List.mem_append]; exact .inl h
theorem mem_each' : ∀ {ts : List TypeId} {ds : List (DataW H)} {t d} {m : Nat}, m ∈ DataW.weightsEach P ts ds → m ∈ DataW.weightsEach P (t :: ts) (d :: ds) := by
  intro ts ds t d m h
  simp only [DataW.weightsEach, List.mem_append]; exact .inr h

theorem fields_rep {f : Nat → Option Ty} {fuel total : Nat} {cs : List Value} (hlen : cs.length = total)
    (ih : ∀ t ty (cs : List Value) (d : DataW H) (ps : List MemPlace), f t = some ty → DataW.trod enc P w base spare held fuel t cs = some (d, ps) → (∀ m ∈ d.weights P t, m ≤ N) → ∃ x, Rep (All w) w ty x cs ∧ Wf N ty x) :
    ∀ (fs : List Field) (off : Nat) (ty : Ty) (xs : List (DataW H × List MemPlace)), layTys P f total off (fs.map fun f => (f.type, f.offset)) = some ty →
      (fs.mapM fun f => DataW.trod enc P w base spare held fuel f.type ((cs.drop f.offset).take (P.cellsOf f.type))) = some xs →
      (∀ m ∈ DataW.weightsEach P (fs.map (·.type)) (xs.map (·.1)), m ≤ N) → ∃ x, Rep (All w) w ty x (cs.drop off) ∧ Wf N ty x
  | [], off, ty, xs, hl, hm, hw => by
    simp only [List.map_nil, layTys] at hl
    split at hl
    · rename_i ho; cases hl
      exact ⟨(), by simp only [Rep]; exact List.drop_of_length_le (by omega), trivial⟩
    · cases hl
  | [fd], off, ty, xs, hl, hm, hw => by
    simp only [List.map_cons, List.map_nil, layTys] at hl
    split at hl
    · rename_i ho
      simp only [Option.bind_eq_some_iff] at hl
      obtain ⟨a, ha, hl⟩ := hl
      split at hl
      · rename_i hs; cases hl
        simp only [List.mapM_cons, List.mapM_nil, Option.pure_def, Option.bind_eq_bind, Option.bind_eq_some_iff, Option.some.injEq] at hm
        obtain ⟨y, hy, ys, rfl, rfl⟩ := hm
        obtain ⟨x, h1, h2⟩ := ih fd.type _ _ y.1 y.2 ha hy fun m hm => hw m (by simpa [DataW.weightsEach] using hm)
        refine ⟨x, ?_, h2⟩
        rw [ho.1] at h1
        rwa [List.take_of_length_le (by rw [List.length_drop]; omega)] at h1
      · cases hl
    · cases hl
  | fd :: fd2 :: fs, off, ty, xs, hl, hm, hw => by
    simp only [List.map_cons, layTys] at hl
    split at hl
    · rename_i ho
      simp only [Option.bind_eq_some_iff] at hl
      obtain ⟨a, ha, hl⟩ := hl
      split at hl
      · rename_i hs
        simp only [Option.bind_eq_some_iff, Option.some.injEq] at hl
        obtain ⟨b, hb, rfl⟩ := hl
        rw [List.mapM_cons] at hm
        simp only [Option.pure_def, Option.bind_eq_bind, Option.bind_eq_some_iff, Option.some.injEq] at hm
        obtain ⟨y, hy, ys, hys, rfl⟩ := hm
        obtain ⟨x, h1, h2⟩ := ih fd.type _ _ y.1 y.2 ha hy fun m hm => hw m (by simp only [List.map_cons]; exact mem_each hm)
        obtain ⟨x', h3, h4⟩ := fields_rep hlen ih (fd2 :: fs) (off + P.cellsOf fd.type) b ys (by simpa only [List.map_cons] using hb) hys fun m hm => hw m (by simp only [List.map_cons] at hm ⊢; exact mem_each' hm)
        refine ⟨(x, x'), ⟨_, _, ?_, h1, h3⟩, h2, h4⟩
        rw [ho, ← List.drop_drop, List.take_append_drop]
      · cases hl
    · cases hl

theorem trod_bool {t fuel : Nat} {cs : List Value} {d : DataW H} {ps} (ht : P.underlying t = some .bool) (h : DataW.trod enc P w base spare held fuel t cs = some (d, ps)) : ∃ b, cs = [.bool b] := by
  cases fuel with
  | zero => simp [DataW.trod] at h
  | succ n => unfold DataW.trod at h; rw [ht] at h; split at h <;> simp_all
theorem trod_int {t fuel : Nat} {cs : List Value} {d : DataW H} {ps} {k} (ht : P.underlying t = some (.int k)) (h : DataW.trod enc P w base spare held fuel t cs = some (d, ps)) : ∃ n, cs = [.int k n] ∧ (Lit.int k n).wf = true := by
  cases fuel with
  | zero => simp [DataW.trod] at h
  | succ n => unfold DataW.trod at h; rw [ht] at h; split at h <;> simp_all
theorem trod_str {t fuel : Nat} {cs : List Value} {d : DataW H} {ps} (ht : P.underlying t = some .string) (h : DataW.trod enc P w base spare held fuel t cs = some (d, ps)) : ∃ s : ByteArray, cs = [.string s] ∧ d = .lit (.string s.data.toList) := by
  cases fuel with
  | zero => simp [DataW.trod] at h
  | succ n => unfold DataW.trod at h; rw [ht] at h; split at h <;> simp_all
theorem trod_struct {t fuel : Nat} {cs : List Value} {d : DataW H} {ps} {fs : Array Field} (ht : P.underlying t = some (.struct fs)) (h : DataW.trod enc P w base spare held fuel t cs = some (d, ps)) :
    ∃ n xs, fuel = n + 1 ∧ cs.length = P.cellsOf t ∧ (fs.toList.mapM fun f => DataW.trod enc P w base spare held n f.type ((cs.drop f.offset).take (P.cellsOf f.type))) = some xs ∧ d = .agg (xs.map (·.1)) := by
  cases fuel with
  | zero => simp [DataW.trod] at h
  | succ n =>
    unfold DataW.trod at h
    rw [ht] at h
    simp only at h
    split at h
    · rename_i hc
      simp only [Option.map_eq_some_iff] at h
      obtain ⟨xs, hx, he⟩ := h
      exact ⟨n, xs, rfl, hc, hx, (congrArg Prod.fst he).symm⟩
    · cases h

theorem str_rep {t fuel : Nat} {cs : List Value} {d : DataW H} {ps} (ht : P.underlying t = some .string) (h : DataW.trod enc P w base spare held fuel t cs = some (d, ps)) (hw : ∀ m ∈ d.weights P t, m ≤ N) : ∃ x, Rep (All w) w .str x cs ∧ Wf N .str x := by
  obtain ⟨s, rfl, rfl⟩ := trod_str ht h
  exact ⟨s.data.toList, by simp [Rep], hw _ (by simp [DataW.weights])⟩

theorem beq_imp {a b : Nat} (h : Nat.beq a b = true) : a = b := Nat.eq_of_beq_eq_true h
theorem value_rep (hv : vtOk P vt = true) : ∀ (fuel : Nat) (cs : List Value) (d : DataW H) (ps : List MemPlace), DataW.trod enc P w base spare held fuel vt cs = some (d, ps) → (∀ m ∈ d.weights P vt, m ≤ N) →
    ∃ x, Rep (All w) w .value x cs ∧ Wf N .value x := by
  intro fuel
  induction fuel using Nat.strongRecOn with
  | _ fuel IH =>
  intro cs d ps h hw
  unfold vtOk at hv
  split at hv
  · rename_i fs hfs
    split at hv
    · rename_i t1 t2 t3 t4 t5 hl
      simp only [Bool.and_eq_true] at hv
      obtain ⟨⟨⟨⟨⟨⟨⟨⟨⟨⟨⟨v1, v2⟩, v3⟩, v4⟩, v5⟩, c1⟩, c2⟩, c3⟩, c4⟩, c5⟩, c6⟩, c7⟩ := hv
      have c1 := beq_imp c1; have c2 := beq_imp c2; have c3 := beq_imp c3; have c4 := beq_imp c4; have c5 := beq_imp c5; have c6 := beq_imp c6
      have c7 := Nat.le_of_ble_eq_true c7
      have u1 : P.underlying t1 = some (.int .i64) := by unfold isInt64 at v1; split at v1; assumption; cases v1
      have u2 : P.underlying t2 = some (.int .i64) := by unfold isInt64 at v2; split at v2; assumption; cases v2
      have u3 : P.underlying t3 = some .string := by unfold isString at v3; split at v3; assumption; cases v3
      have u4 : P.underlying t4 = some (.slice vt) := by
        unfold sliceEl at v4
        split at v4
        · rename_i e he
          split at he
          · rename_i e' hu; cases he; rw [hu, beq_imp v4]
          · cases he
        · cases v4
      obtain ⟨ts, u5, u6, c8, c9⟩ : ∃ ts, P.underlying t5 = some (.slice ts) ∧ P.underlying ts = some .string ∧ P.cellsOf ts = 1 ∧ 1 ≤ P.bytesOf ts := by
        unfold sliceEl at v5
        split at v5
        · rename_i e he
          split at he
          · rename_i e' hu; cases he
            simp only [Bool.and_eq_true] at v5
            refine ⟨e, hu, ?_, beq_imp v5.1.2, Nat.le_of_ble_eq_true v5.2⟩
            have v6 := v5.1.1
            unfold isString at v6; split at v6
            · assumption
            · cases v6
          · cases he
        · cases v5
      obtain ⟨n, xs, rfl, hlen, hm, rfl⟩ := trod_struct hfs h
      rcases fs with ⟨fl⟩
      have hl' : fl.map (fun f => (f.type, f.offset)) = [(t1, 0), (t2, 1), (t3, 2), (t4, 3), (t5, 4)] := hl
      rcases fl with _ | ⟨f1, _ | ⟨f2, _ | ⟨f3, _ | ⟨f4, _ | ⟨f5, _ | ⟨f6, fl⟩⟩⟩⟩⟩⟩ <;> simp only [List.map_cons, List.map_nil, List.cons.injEq, Prod.mk.injEq, reduceCtorEq, and_false, List.nil_eq, and_true] at hl'
      obtain ⟨⟨e1, o1⟩, ⟨e2, o2⟩, ⟨e3, o3⟩, ⟨e4, o4⟩, e5, o5⟩ := hl'
      simp only [List.mapM_cons, List.mapM_nil, Option.pure_def, Option.bind_eq_bind, Option.bind_eq_some_iff, Option.some.injEq, e1, e2, e3, e4, e5, o1, o2, o3, o4, o5, c1, c2, c3, c4, c5] at hm
      obtain ⟨y1, h1, z1, ⟨y2, h2, z2, ⟨y3, h3, z3, ⟨y4, h4, z4, ⟨y5, h5, z5, rfl, rfl⟩, rfl⟩, rfl⟩, rfl⟩, rfl⟩ := hm
      have hw' : ∀ m ∈ DataW.weightsEach P [t1, t2, t3, t4, t5] [y1.1, y2.1, y3.1, y4.1, y5.1], m ≤ N := by
        intro m hm
        apply hw
        simp only [DataW.weights, hfs]
        simpa [e1, e2, e3, e4, e5] using hm
      rw [c6] at hlen
      rcases cs with _ | ⟨a1, _ | ⟨a2, _ | ⟨a3, _ | ⟨a4, _ | ⟨a5, _ | ⟨a6, cs⟩⟩⟩⟩⟩⟩ <;> simp only [List.length_cons, List.length_nil] at hlen <;> try omega
      simp only [List.drop_succ_cons, List.drop_zero, List.take_succ_cons, List.take_zero] at h1 h2 h3 h4 h5
      obtain ⟨n1, q1, w1⟩ := trod_int u1 h1
      obtain ⟨n2, q2, w2⟩ := trod_int u2 h2
      obtain ⟨x3, r3, w3⟩ := str_rep (N := N) u3 h3 fun m hm => hw' m (by simp only [DataW.weightsEach, List.mem_append]; exact .inr (.inr (.inl hm)))
      obtain ⟨x4, r4, w4⟩ := slice_rep (N := N) (ty := .value) u4 c7 (by omega) (by rw [c6]; rfl) (fun m hm cs d ps h hw => IH m (by omega) cs d ps h hw) h4 fun m hm => hw' m (by simp only [DataW.weightsEach, List.mem_append]; exact .inr (.inr (.inr (.inl hm))))
      obtain ⟨x5, r5, w5⟩ := slice_rep (N := N) (ty := .str) u5 c9 (by omega) (by rw [c8]; rfl) (fun m hm cs d ps h hw => str_rep u6 h hw) h5 fun m hm => hw' m (by simp only [DataW.weightsEach, List.mem_append]; exact .inr (.inr (.inr (.inr (.inl hm)))))
      simp only [List.cons.injEq, and_true] at q1 q2
      subst q1; subst q2
      simp only [Rep, List.cons.injEq, and_true] at r3
      subst r3
      obtain ⟨v4', e4', a, cap, rfl, hcap, hmem⟩ := r4
      simp only [List.cons.injEq, and_true] at e4'
      subst e4'
      obtain ⟨v5', e5', hs5⟩ := r5
      simp only [List.cons.injEq, and_true] at e5'
      subst e5'
      have w4' : x4.length ≤ N ∧ ∀ x ∈ x4, WfV N x := by simpa only [Wf] using w4
      have w5' : x5.length ≤ N ∧ ∀ x ∈ x5, x.length ≤ N := by simpa only [Wf] using w5
      refine ⟨.mk n1 n2 x3 x4 x5, ?_, ?_⟩
      · simp only [Rep]
        have hs5' : SliceRep (All w) w (fun k vs => vs = [Value.string ⟨k.toArray⟩]) x5 a5 := by
          refine hs5.imp (fun _ h => h) (fun _ _ => rfl) fun x u h => by simpa only [Rep] using h
        rcases hmem with rfl | ⟨ad, us, rfl, hsp, hA, hcells, hall⟩
        · exact .mk n1 n2 x3 [] x5 a cap a5 (fun _ => []) hcap (.inl rfl) (fun i h => by simp at h) hs5'
        · have hsz : ∀ (x : V) (u : List Value), Rep (All w) w .value x u → u.length = 5 := fun x u h => RepV.length h
          have hul : us.length = x4.length * 5 := RepAll.length (sz := 5) hsz hall
          refine .mk n1 n2 x3 x4 x5 (some ad) cap a5 (fun i => (us.drop (i * 5)).take 5) hcap (.inr ⟨ad, rfl, hsp, hA, fun i hi => ⟨by simp [hul]; omega, fun j hj => ?_⟩⟩) (fun i hi => ?_) hs5'
          · rw [List.getElem?_take_of_lt hj, List.getElem?_drop]
            exact hcells (i * 5 + j) (by omega)
          · obtain ⟨p, u, q, he, hp, hr⟩ := RepAll.get (sz := 5) hsz i x4[i] hall (List.getElem?_eq_getElem hi)
            have hu := hsz _ _ hr
            rw [he, List.drop_append_of_le_length (by omega), List.drop_of_length_le (l := p) (by omega), List.nil_append, List.take_append_of_le_length (by omega), List.take_of_length_le (by omega)]
            simpa only [Rep] using hr
      · simp only [Wf]
        exact .mk _ _ _ _ _ w1 w2 w3 w4'.1 w5'.1 (fun i hi => w4'.2 _ (List.getElem_mem hi)) w5'.2
    · cases hv
  · cases hv

theorem trod_rep : ∀ (fuel n t : Nat) (ty : Ty) (cs : List Value) (d : DataW H) (ps : List MemPlace), lay P vt n t = some ty → DataW.trod enc P w base spare held fuel t cs = some (d, ps) → (∀ m ∈ d.weights P t, m ≤ N) →
    ∃ x, Rep (All w) w ty x cs ∧ Wf N ty x := by
  intro fuel
  induction fuel using Nat.strongRecOn with
  | _ fuel IH =>
  intro n t ty cs d ps hl h hw
  cases n with
  | zero => simp [lay] at hl
  | succ n =>
    unfold lay at hl
    split at hl
    · rename_i e; subst e
      split at hl
      · rename_i hv; cases hl; exact value_rep hv fuel cs d ps h hw
      · cases hl
    · split at hl
      · rename_i ht; cases hl
        obtain ⟨b, rfl⟩ := trod_bool ht h
        exact ⟨b, rfl, trivial⟩
      · rename_i k ht; cases hl
        obtain ⟨m, rfl, h1⟩ := trod_int ht h
        exact ⟨m, rfl, h1⟩
      · rename_i ht; cases hl
        exact str_rep ht h hw
      · rename_i e ht
        split at hl
        · rename_i hb
          simp only [Option.bind_eq_some_iff] at hl
          obtain ⟨ty', h1, hl⟩ := hl
          split at hl
          · rename_i hs; cases hl
            exact slice_rep ht hb.1 hb.2 hs (fun m hm cs d ps h hw => IH m hm n e ty' cs d ps h1 h hw) h hw
          · cases hl
        · cases hl
      · rename_i fs ht
        obtain ⟨m, xs, rfl, hlen, hm, rfl⟩ := trod_struct ht h
        have := fields_rep (N := N) hlen (fun t ty cs d ps h1 h2 h3 => IH m (by omega) n t ty cs d ps h1 h2 h3) fs.toList 0 ty xs hl hm fun m hm => hw m (by simpa only [DataW.weights, ht] using hm)
        simpa only [List.drop_zero] using this
      · cases hl

theorem open_one {t n : Nat} {v : Value} {ty : Ty} {d : DataW H} {ps} (hl : lay P vt n t = some ty) (h : DataW.Trod enc P w 0 spare held t v d ps) (hv : v.cells.toList = [v]) (hw : ∀ m ∈ d.weights P t, m ≤ N) :
    ∃ x, RepAV (c0 (All w) w) (.d ty x) v ∧ Wf N ty x := by
  obtain ⟨fuel, h⟩ := h
  obtain ⟨x, h1, h2⟩ := trod_rep fuel n t ty _ _ _ hl h hw
  refine ⟨x, ?_, h2⟩
  simp only [RepAV]
  rw [hv] at h1; exact h1
end
end Go.Pe
end
section
namespace Go.Pe.Try
open Go.Proofs Go.RowKit Go.Pe.Kv Go.Pe.X17
set_option maxRecDepth 100000
set_option linter.unusedSimpArgs false
set_option linter.unusedVariables false
theorem pack_nil : pack [] = [] := rfl
theorem pack_cons (a : Str) (l : List Str) : (pack (a :: l)).length = 4 + a.length + (pack l).length := by
  show (frame a ++ pack l).length = _
  rw [List.length_append, frame_len]
theorem pairs_of {l : List Str} (h1 : l ≠ []) (h2 : l.length % 2 = 0) (h3 : l.length ≤ 64) (h4 : okP l = true) : pairsB l = true := by
  unfold pairsB; rw [decide_eq_true ⟨h1, h2, h3⟩, h4]; rfl
theorem ok_cons {a b : Str} {r : List Str} (h : 1 ≤ a.length ∧ a.length ≤ 200 ∧ b.length ≤ 3000) (hr : okP r = true) : okP (a :: b :: r) = true := by
  unfold okP okOne; rw [decide_eq_true h, hr]; rfl
theorem whole_big {A : List PR} {x : PR} (hx : x ∈ A) : x.2.length ≤ (wholeA A).length := by
  have h1 : (frame (pack [x.1, x.2])).length ≤ (wholeA A).length := by
    unfold wholeA
    exact (List.sublist_flatten_of_mem (List.mem_map.2 ⟨pack [x.1, x.2], List.mem_map.2 ⟨x, hx, rfl⟩, rfl⟩)).length_le
  rw [frame_len, pack2_len] at h1; omega
theorem full_step {S A h t u} (s : Store S A h t u) (h6 : S.length = 6) (x1 : Str) (rows : List (List Str)) (n2 : Int) (i : Nat) (hi : i < rows.length) : ∃ S' A' h' t' u', Store S' A' h' t' u' ∧ S'.length = 6 ∧
    f5_p1_F (f5_p1_y x1 0 rows n2 i S [] (A.map (·.1)) (A.map (·.2)) h t u) = some (f5_p1_o0_y x1 0 rows n2 i S' [] (A'.map (·.1)) (A'.map (·.2)) h' t' u') := by
  obtain ⟨t1, t2⟩ := texts_len rows[i]
  rw [f5_p1_eq, nth_lt hi, Option.bind_some, texts_eq, Option.bind_some]
  dsimp only
  rcases put_cases s (l := texts rows[i]) (by omega) with ⟨hp, hst⟩ | ⟨hp, e, he, hst, _⟩ | ⟨hp, h', t', u', W, p, hst⟩
  · rw [put_err s (by omega) hst, Option.bind_some, f5_p0_eq, show ((1 : Int) == 0) = false from rfl, cond_false, Option.bind_some]
    simp only [f5_p0_o0_x1_y, f5_p0_o0_x6_y, f5_p0_o0_x26_y, f5_p0_o0_x27_y, f5_p0_o0_x28_y, f5_p0_o0_x45_y, f5_p0_o0_r0_0_y, f5_p0_o0_r0_1_y, f5_p0_o0_r0_2_y, f5_p0_o0_r0_3_y, f5_p0_o0_r0_4_y, f5_p0_o0_r0_5_y, f5_p0_o0_r0_6_y, f5_p0_o0_r1_0_y, f5_p0_o0_r1_1_y, f5_p0_o0_r1_2_y, f5_p0_o0_r1_3_y, f5_p0_o0_r1_4_y, f5_p0_o0_r1_5_y, f5_p0_o0_r1_6_y, cond_false]
    exact ⟨S, A, h, t, u, s, h6, rfl⟩
  · rw [put_err s (by omega) hst, Option.bind_some, f5_p0_eq, show (e == (0 : Int)) = false from by rcases he with rfl | rfl <;> rfl, cond_false, Option.bind_some]
    simp only [f5_p0_o0_x1_y, f5_p0_o0_x6_y, f5_p0_o0_x26_y, f5_p0_o0_x27_y, f5_p0_o0_x28_y, f5_p0_o0_x45_y, f5_p0_o0_r0_0_y, f5_p0_o0_r0_1_y, f5_p0_o0_r0_2_y, f5_p0_o0_r0_3_y, f5_p0_o0_r0_4_y, f5_p0_o0_r0_5_y, f5_p0_o0_r0_6_y, f5_p0_o0_r1_0_y, f5_p0_o0_r1_1_y, f5_p0_o0_r1_2_y, f5_p0_o0_r1_3_y, f5_p0_o0_r1_4_y, f5_p0_o0_r1_5_y, f5_p0_o0_r1_6_y, cond_false]
    exact ⟨S, A, h, t, u, s, h6, rfl⟩
  · have hlen : (diskH S h' t' u' W).length = 6 := by
      unfold diskH
      rw [List.length_set, (p.view s (W' := W) fun _ h => h).len, h6]
    rw [put_ok s p hst, Option.bind_some, f5_p0_eq, beq0, cond_true, Option.bind_some]
    simp only [f5_p0_o0_x1_y, f5_p0_o0_x6_y, f5_p0_o0_x26_y, f5_p0_o0_x27_y, f5_p0_o0_x28_y, f5_p0_o0_x45_y, f5_p0_o0_r0_0_y, f5_p0_o0_r0_1_y, f5_p0_o0_r0_2_y, f5_p0_o0_r0_3_y, f5_p0_o0_r0_4_y, f5_p0_o0_r0_5_y, f5_p0_o0_r0_6_y, f5_p0_o0_r1_0_y, f5_p0_o0_r1_1_y, f5_p0_o0_r1_2_y, f5_p0_o0_r1_3_y, f5_p0_o0_r1_4_y, f5_p0_o0_r1_5_y, f5_p0_o0_r1_6_y]
    cases decide ((i : Int) < 6)
    · rw [cond_false]; exact ⟨S, A, h, t, u, s, h6, rfl⟩
    · rw [cond_true]; exact ⟨_, _, _, _, _, plan_store s p, hlen, rfl⟩
theorem full_loop (x1 : Str) (rows : List (List Str)) (hb : rows.length < 4611686018427387904) : ∀ (d i : Nat), i + d = rows.length → ∀ n, d + 1 ≤ n → ∀ {S A h t u}, Store S A h t u → S.length = 6 →
    ∃ S' A' h' t' u', Store S' A' h' t' u' ∧ S'.length = 6 ∧ iter f5_p3_st n (f5_p3_y x1 0 rows rows.length i S [] (A.map (·.1)) (A.map (·.2)) h t u) = some (f5_p3_o0_y x1 0 S' [] (A'.map (·.1)) (A'.map (·.2)) h' t' u') := by
  intro d
  induction d with
  | zero =>
    intro i hi n hn S A h t u s h6
    obtain ⟨n, rfl⟩ : ∃ k, n = k + 1 := ⟨n - 1, by omega⟩
    rw [iter, f5_p3_eq, show decide ((i : Int) < (rows.length : Int)) = false from by simp; omega, cond_false]
    exact ⟨S, A, h, t, u, s, h6, rfl⟩
  | succ d ih =>
    intro i hi n hn S A h t u s h6
    obtain ⟨n, rfl⟩ : ∃ k, n = k + 1 := ⟨n - 1, by omega⟩
    obtain ⟨S', A', h', t', u', s', h6', e⟩ := full_step s h6 x1 rows rows.length i (by omega)
    rw [iter, f5_p3_eq, show decide ((i : Int) < (rows.length : Int)) = true from by simp; omega, cond_true, e, Option.bind_some]
    simp only [f5_p1_o0_x1_y, f5_p1_o0_x6_y, f5_p1_o0_x26_y, f5_p1_o0_x27_y, f5_p1_o0_x28_y, f5_p1_o0_r0_0_y, f5_p1_o0_r0_1_y, f5_p1_o0_r0_2_y, f5_p1_o0_r0_3_y, f5_p1_o0_r0_4_y, f5_p1_o0_r0_5_y, f5_p1_o0_r0_6_y]
    rw [show IntKind.i64.wrap ((i : Int) + (1 : Int)) = ((i + 1 : Nat) : Int) from wrap_add i 1 (by omega) (by omega)]
    exact ih (i + 1) (by omega) n (by omega) s' h6'
theorem put_zz {S A h t u} (s : Store S A h t u) : f10_F (kvOf S A h t u, ([[122, 122], []], ())) = some (kv0, ((40 : Int), ())) ∨ ∃ S' A' h' t' u', Store S' A' h' t' u' ∧ f10_F (kvOf S A h t u, ([[122, 122], []], ())) = some (kvOf S' A' h' t' u', ((0 : Int), ())) := by
  have hp : pairsB [[122, 122], ([] : Str)] = true := by decide
  have hL : (pack [[122, 122], ([] : Str)]).length ≤ 4096 := by decide
  by_cases hf : fitsA S h u [[122, 122], []]
  · obtain ⟨W, p, hst⟩ := steps_A s hp hL hf
    exact .inr ⟨_, _, _, _, _, plan_store s p, put_ok s p hst⟩
  · by_cases hb : fitsB S A h t [[122, 122], []]
    · obtain ⟨u', W, p, hst⟩ := steps_B s hp hL hf hb
      exact .inr ⟨_, _, _, _, _, plan_store s p, put_ok s p hst⟩
    · exact .inl (put_err s (by omega) (steps_full s hp hL hf hb))
theorem repeat_x : ∃ x : Str, x.length = 1000 ∧ repeatF (([120] : List UInt8), ((1000 : Int), ())) = some (x, ()) := by
  refine ⟨Lib.repeatL [120] 1000, ?_, ?_⟩
  · have : ∀ n, (Lib.repeatL ([120] : List UInt8) n).length = n := fun n => by
      induction n with
      | zero => rfl
      | succ n ih => rw [Lib.repeatL, List.length_append, ih]; simp; omega
    exact this 1000
  · unfold repeatF
    rw [if_pos ⟨by decide, by decide, by simp⟩]; rfl
theorem lawFull (a0 : List (List Str)) (a1 : Str) (hw : Wf reachBytes (.list (.list .str)) a0) (_ : Wf reachBytes .str a1) : f5_F (a0, (a1, ())) = some (true, ()) := by
  have hb : a0.length ≤ 140737488355328 := by have := hw.1; unfold reachBytes at this; omega
  have s0 := format_store (n := 6) (by omega) (by omega)
  have hfmt := format_eq (n := 6) (by omega) (by omega)
  have hfmt' : f7_F ((6 : Int), ()) = some (kvOf (disk0 6) [] 0 1 0, ((0 : Int), ())) := hfmt
  rw [f5_eq, hfmt', Option.bind_some, show (5 : Int) = ((5 : Nat) : Int) from rfl, cut_min, if_pos (by simp; omega)]
  dsimp only
  obtain ⟨S, A, h, t, u, s, h6, hit⟩ := full_loop ([107] ++ a1.take 5) a0 (by omega) a0.length 0 (by omega) (fuelOf f5_p3_sh (f5_p3_y ([107] ++ a1.take 5) 0 a0 a0.length 0 (disk0 6) [] [] [] 0 1 0)) (by
    simp only [fuelOf, fuelL, SAV.fuel, Ty.fuel, fuelR, fuelT, f5_p3_y]; omega) s0 (by simp [disk0])
  have hgo : go f5_p3_st (f5_p3_y ([107] ++ a1.take 5) 0 a0 a0.length 0 (disk0 6) [] [] [] 0 1 0) = some (f5_p3_o0_y ([107] ++ a1.take 5) 0 S [] (A.map (·.1)) (A.map (·.2)) h t u) := hit
  show ((go f5_p3_st (f5_p3_y ([107] ++ a1.take 5) 0 a0 a0.length 0 (disk0 6) [] [] [] 0 1 0)).bind _) = _
  rw [hgo, Option.bind_some]
  simp only [f5_p3_o0_x1_y, f5_p3_o0_x6_y, f5_p3_o0_r0_0_y, f5_p3_o0_r0_1_y, f5_p3_o0_r0_2_y, f5_p3_o0_r0_3_y, f5_p3_o0_r0_4_y, f5_p3_o0_r0_5_y, f5_p3_o0_r0_6_y]
  obtain ⟨z1, z2, z3⟩ := s.sizes
  obtain ⟨x, hx, hrep⟩ := repeat_x
  rw [appOk_lt (by simp; omega), hrep, Option.bind_some]
  dsimp only
  have hk : ([107] ++ a1.take 5 : Str).length ≤ 6 ∧ 1 ≤ ([107] ++ a1.take 5 : Str).length := by simp; omega
  generalize ([107] ++ a1.take 5 : Str) = k at hk
  have hp : pairsB [k, x] = true := pairs_of (by simp) (by simp) (by simp) (ok_cons ⟨hk.2, by omega, by omega⟩ rfl)
  have hL : (pack [k, x]).length ≤ 4096 := by simp only [pack_cons, pack_nil, List.length_nil]; omega
  have hLx : (pack [k, x]).length ≥ 1000 := by simp only [pack_cons, pack_nil, List.length_nil]; omega
  have l1 := logH_len S h s.hle s.right.lo
  have l2 := logH_len S (1 - h) (by omega) s.right.lo
  have hf : ¬ fitsA S h u [k, x] := by unfold fitsA; omega
  have hin : (k, x) ∈ Kv.all A [k, x] := (over_mem A k x k x).2 (.inr ⟨fun e => by rw [e] at hx; simp at hx, rfl, rfl⟩)
  have hbg := whole_big hin
  have hB : ¬ fitsB S A h t [k, x] := fun hh => by have := hh.1; simp only at hbg; omega
  rw [put_err s (by omega) (steps_full s hp hL hf hB), Option.bind_some]
  dsimp only
  rcases put_zz s with hz | ⟨S', A', h', t', u', s', hz⟩
  · rw [hz, Option.bind_some]
    dsimp only
    rw [f5_p2_eq, alive_eq, Option.bind_some]
    dsimp only
    rw [cond_true, beq0, cond_true, show ((40 : Int) == 40) = true from rfl, cond_true, show ((([] : List Str).length : Int) == 0) = true from rfl, cond_true, List.nil_append, same_eq _ _ (by simp; omega), decide_eq_true rfl, Option.bind_some]
    dsimp only
    rw [cond_true, right_eq s, Option.bind_some]
    dsimp only
    rw [cond_true, show ((40 : Int) == 0) = false from rfl, cond_false]; rfl
  · rw [hz, Option.bind_some]
    dsimp only
    rw [f5_p2_eq, alive_eq, Option.bind_some]
    dsimp only
    rw [cond_true, beq0, cond_true, show ((40 : Int) == 40) = true from rfl, cond_true, show ((([] : List Str).length : Int) == 0) = true from rfl, cond_true, List.nil_append, same_eq _ _ (by simp; omega), decide_eq_true rfl, Option.bind_some]
    dsimp only
    rw [cond_true, right_eq s, Option.bind_some]
    dsimp only
    rw [cond_true, cond_true, right_eq s', Option.bind_some]; rfl
end Go.Pe.Try
end
