/- Texts in quotes. -/
import Derived.Test.YtgghmllnhaahgaaDoorPeXV5
set_option linter.unusedSectionVars false
set_option linter.unusedVariables false
set_option linter.unusedSimpArgs false
namespace Go.Pe.Tryd
open Go.Proofs Go.RowKit
set_option maxRecDepth 100000
def rep (c : UInt8) (new : List UInt8) (s : List UInt8) : List UInt8 := s.flatMap fun b => if b = c then new else [b]
theorem index_hd (c : UInt8) (l : List UInt8) : Lib.index (c :: l) [c] = 0 := by simp [Lib.index]
theorem index_tl {b c : UInt8} (h : b ≠ c) {l : List UInt8} {i : Nat} (hi : Lib.index l [c] = i) : Lib.index (b :: l) [c] = ((i + 1 : Nat) : Int) := by
  have h1 : ¬ (c == b) = true := fun e => h (beq_iff_eq.1 e).symm
  have h2 : ¬ (((i : Nat) : Int) == -1) = true := fun e => by have := beq_iff_eq.1 e; omega
  simp only [Lib.index, hi, List.isPrefixOf, Bool.and_true]
  rw [if_neg h1, if_neg h2]; rfl
theorem rep_K (c : UInt8) (new : List UInt8) : ∀ s : List UInt8, Lib.replaceK [c] new (s.count c) s = rep c new s
  | [] => rfl
  | b :: l => by
    have ih := rep_K c new l
    by_cases e : b = c
    · subst e
      rw [List.count_cons_self, Lib.replaceK_hit [b] new _ (b :: l) 0 (index_hd b l)]
      simp only [List.take_zero, List.nil_append, List.length_singleton, Nat.zero_add, List.drop_one, List.tail_cons, ih, rep, List.flatMap_cons, if_true]
    · rw [List.count_cons_of_ne e]
      have hr : rep c new (b :: l) = b :: rep c new l := by simp [rep, e]
      rw [hr, ← ih]
      cases hc : l.count c with
      | zero => rfl
      | succ k =>
        obtain ⟨i, hi⟩ := Lib.index_of_count (s := l) (old := [c]) (by rw [Lib.count_one, hc]; omega)
        rw [Lib.replaceK_hit [c] new k (b :: l) (i + 1) (index_tl e hi), Lib.replaceK_hit [c] new k l i hi]
        have : i + 1 + [c].length = (i + [c].length) + 1 := by simp
        rw [this, List.drop_succ_cons, List.take_succ_cons]; rfl
theorem replace_rep (c : UInt8) (new s : List UInt8) (h : new ≠ [c]) : Lib.replaceAll s [c] new = rep c new s := by
  unfold Lib.replaceAll Lib.replace
  rw [if_neg (by simpa using fun e => h e.symm)]
  have : Lib.replaceNum s [c] (-1) = s.count c := by
    unfold Lib.replaceNum
    rw [if_pos (.inl (by decide)), Lib.count_one]
  rw [this, rep_K]
def esc (s : List UInt8) : List UInt8 := s.flatMap fun b => if b = 34 ∨ b = 92 then [92, b] else [b]
def quo (s : List UInt8) : List UInt8 := 34 :: esc s ++ [34]
theorem rep_rep (s : List UInt8) : rep 34 [92, 34] (rep 92 [92, 92] s) = esc s := by
  unfold rep esc
  rw [List.flatMap_assoc]
  congr; funext b
  by_cases h1 : b = 92
  · subst h1; rfl
  · by_cases h2 : b = 34
    · subst h2; rfl
    · simp [h1, h2]
theorem esc_len (s : List UInt8) : (esc s).length ≤ 2 * s.length := by
  induction s with
  | nil => simp [esc]
  | cons b l ih =>
    have : esc (b :: l) = (if b = 34 ∨ b = 92 then [92, b] else [b]) ++ esc l := rfl
    rw [this, List.length_append, List.length_cons]
    split <;> simp <;> omega
theorem rep_len (s : List UInt8) : (rep 92 [92, 92] s).length ≤ 2 * s.length := by
  induction s with
  | nil => simp [rep]
  | cons b l ih =>
    have : rep 92 [92, 92] (b :: l) = (if b = 92 then [92, 92] else [b]) ++ rep 92 [92, 92] l := rfl
    rw [this, List.length_append, List.length_cons]
    split <;> simp <;> omega
theorem quo_len (s : List UInt8) : (quo s).length ≤ 2 * s.length + 2 := by
  have := esc_len s
  simp [quo]; omega
theorem countB_small (s : List UInt8) (c : UInt8) : Lib.countB ⟨s.toArray⟩ ⟨[c].toArray⟩ ≤ s.length := by
  have := Lib.countB_le ⟨[c].toArray⟩ (by simp [ByteArray.size]) (ByteArray.size ⟨s.toArray⟩) ⟨s.toArray⟩ (Nat.le_refl _)
  simpa [ByteArray.size] using this
theorem f54_ok' (s : List UInt8) (h : s.length ≤ 1000000) : f54_F (s, ()) = some (quo s, ()) := by
  have h1 := countB_small s 92
  have h2 := countB_small (rep 92 [92, 92] s) 34
  have h3 := rep_len s
  have h4 := esc_len s
  rw [f54_eq]
  have e1 : replaceF (s, (([92] : List UInt8), (([92, 92] : List UInt8), ()))) = some (rep 92 [92, 92] s, ()) := by
    unfold replaceF
    dsimp only
    rw [if_pos ⟨by omega, by simp, by simp only [List.length_cons, List.length_nil]; omega⟩, replace_rep _ _ _ (by simp)]
  have e2 : replaceF (rep 92 [92, 92] s, (([34] : List UInt8), (([92, 34] : List UInt8), ()))) = some (esc s, ()) := by
    unfold replaceF
    dsimp only
    rw [if_pos ⟨by omega, by simp, by simp only [List.length_cons, List.length_nil]; omega⟩, replace_rep _ _ _ (by simp), rep_rep]
  rw [e1, Option.bind_some]
  dsimp only
  rw [e2, Option.bind_some]
  dsimp only
  rw [if_pos (by simp; omega), if_pos (by simp; omega)]; rfl
/-! As the law tells it. -/
theorem strOf_bytesOf (s : List UInt8) : strOf (bytesOf s) = s := by
  unfold strOf bytesOf
  rw [List.map_map]
  conv => rhs; rw [← List.map_id s]
  apply List.map_congr_left
  intro b _
  simp
theorem bytesOf_append (a b : List UInt8) : bytesOf (a ++ b) = bytesOf a ++ bytesOf b := by simp [bytesOf]
theorem bytesOf_len (a : List UInt8) : (bytesOf a).length = a.length := by simp [bytesOf]
theorem esc_take {s : List UInt8} {i : Nat} (h : i < s.length) : esc (s.take (i + 1)) = esc (s.take i) ++ (if s[i] = 34 ∨ s[i] = 92 then [92, s[i]] else [s[i]]) := by
  unfold esc
  rw [List.take_succ_eq_append_getElem h, List.flatMap_append]
  simp only [List.flatMap_cons, List.flatMap_nil, List.append_nil]
theorem f40_ok' (s : List UInt8) (h : s.length ≤ 1000000) : f40_F (s, ()) = some (quo s, ()) := by
  rw [f40_eq]
  have e := go_seq (step := f40_p2_st) (y := fun i => f40_p2_y s (i : Int) (bytesOf (34 :: esc (s.take i)))) (n := s.length) (r := some (f40_p2_o0_y (bytesOf (34 :: esc s)))) (fun i hi rec => by
    have h1 := esc_len (s.take i)
    have hl : (s.take i).length ≤ 1000000 := by simp; omega
    rw [f40_p2_eq, lt_t hi, cond_true, f40_p1_eq, f40_p0_eq, nth_lt hi, Option.bind_some]
    have hb : (bytesOf (34 :: esc (s.take i))).length ≤ 2000001 := by rw [bytesOf_len]; simp only [List.length_cons]; omega
    have hx : (bif ((((s[i]).toNat : Nat) : Int) == (34 : Int)) then (some ((f40_p0_o0_y s (i : Int) true (bytesOf (34 :: esc (s.take i)))))) else ((some s[i]).bind fun c138 => some ((f40_p0_o0_y s (i : Int) ((c138.toNat : Int) == (92 : Int)) (bytesOf (34 :: esc (s.take i))))))) = some (f40_p0_o0_y s (i : Int) (decide (s[i] = 34 ∨ s[i] = 92)) (bytesOf (34 :: esc (s.take i)))) := by
      have q1 : ((((s[i]).toNat : Nat) : Int) == (34 : Int)) = decide (s[i] = 34) := by
        rw [Bool.eq_iff_iff]; simp only [beq_iff_eq, decide_eq_true_eq]
        constructor
        · intro e; exact UInt8.toNat_inj.1 (by simp; omega)
        · intro e; rw [e]; rfl
      have q2 : ((((s[i]).toNat : Nat) : Int) == (92 : Int)) = decide (s[i] = 92) := by
        rw [Bool.eq_iff_iff]; simp only [beq_iff_eq, decide_eq_true_eq]
        constructor
        · intro e; exact UInt8.toNat_inj.1 (by simp; omega)
        · intro e; rw [e]; rfl
      rw [q1, Option.bind_some, q2]
      by_cases e1 : s[i] = 34
      · simp [e1]
      · simp [e1]
    rw [hx, Option.bind_some, f40_p0_o0_x21_y, f40_p0_o0_x0_y, f40_p0_o0_x4_y, f40_p0_o0_l0_y, esc_take hi]
    by_cases hc : s[i] = 34 ∨ s[i] = 92
    · rw [decide_eq_true hc, cond_true, if_pos hc, appOk_lt (by simp only [List.length_cons, List.length_nil]; omega), Option.bind_some, f40_p1_o0_x0_y, f40_p1_o0_x4_y, f40_p1_o0_l0_y, nth_lt hi, Option.bind_some, appOk_lt (by simp only [List.length_append, List.length_cons, List.length_nil]; omega), nx (by omega)]
      congr 2
      simp [bytesOf]
    · rw [decide_eq_false hc, cond_false, if_neg hc, Option.bind_some, f40_p1_o0_x0_y, f40_p1_o0_x4_y, f40_p1_o0_l0_y, nth_lt hi, Option.bind_some, appOk_lt (by simp only [List.length_cons, List.length_nil]; omega), nx (by omega)]
      congr 2
      simp [bytesOf]) (fun rec => by rw [f40_p2_eq]; simp only [Int.lt_irrefl, decide_false, cond_false, List.take_length]) (by rw [fuel_def]; have : s.length ≤ fuelL f40_p2_sh.slots (f40_p2_y s ((0 : Nat) : Int) (bytesOf (34 :: esc (s.take 0)))).1 := fuel0 .str _ s _; omega)
  have e' : go f40_p2_st (f40_p2_y s (0 : Int) ([(34 : Int)] : List Int)) = _ := e
  have h4 := esc_len s
  rw [e', Option.bind_some, f40_p2_o0_l0_y, appOk_lt (by rw [bytesOf_len]; simp only [List.length_cons, List.length_nil]; omega)]
  have : bytesOf (34 :: esc s) ++ [(34 : Int)] = bytesOf (quo s) := by simp [quo, bytesOf]
  rw [this, strOf_bytesOf]
end Go.Pe.Tryd
