/- What the reference tells; likeness; sectors of a byte. -/
import Derived.Test.YtgkolhopfiogpaaPeX17d
namespace Go.Pe.Try
open Go.Proofs Go.RowKit Go.Pe.X17
set_option maxRecDepth 100000
set_option linter.unusedSimpArgs false
set_option linter.unusedVariables false
theorem ref_stands {S : List Sec} {D : List Wr} (hD : D.length ≤ 1000) {k : Nat} (hk : k < S.length) : f28_F ((S, (D, ())), ((k : Int), ())) = some (stands S D k, ()) := by
  rw [f28_eq, nth_lt hk]
  simp only [Option.bind_some]
  have hl := (go_foldi (step := f28_p1_st) (l := D) (fun i s => f28_p1_y (k : Int) s D (D.length : Int) (i : Int)) (fun _ => stand (k : Int)) (fun _ _ => True) (s0 := S[k]) (fin := fun s => some (f28_p1_o0_y s)) trivial (fun i s hi hI => by
    refine ⟨trivial, fun rec => ?_⟩
    rw [f28_p1_eq]
    have : decide ((i : Int) < (D.length : Int)) = true := by simp; exact hi
    rw [this]
    have hb : f28_p0_F (f28_p0_y (k : Int) s D (D.length : Int) (i : Int)) = some (f28_p0_o0_y (k : Int) (stand (k : Int) s D[i]) D (D.length : Int) (i : Int)) := by
      rw [f28_p0_eq, nth_lt hi]
      simp only [Option.bind_some, stand]
      cases D[i].1 == (k : Int) <;> rfl
    simp only [cond_true]
    rw [hb]
    simp only [Option.bind_some, f28_p0_o0_x1_y, f28_p0_o0_x5_y, f28_p0_o0_x14_y, f28_p0_o0_x15_y, f28_p0_o0_x16_y]
    rw [wrap64 (by omega) (by omega)]
    rfl) (fun s hI rec => by rw [f28_p1_eq]; simp) (by rw [fuel_def]; omega)).1
  simp only [Int.natCast_zero, Int.ofNat_zero] at hl
  rw [hl, foldi_eq]
  unfold stands
  simp [List.getD_eq_getElem?_getD, hk]
def keptOne (keep : List Bool) (k : Int) (i : Nat) (s : Sec) (w : Wr) : Sec := bif (w.1 == k) && keep.getD i false then w.2 else s
theorem ref_kept {S : List Sec} {D : List Wr} (hD : D.length ≤ 1000) {k : Nat} (hk : k < S.length) (keep : List Bool) : f29_F ((S, (D, ())), ((k : Int), (keep, ()))) = some (foldi (keptOne keep k) 0 (S.getD k []) D, ()) := by
  rw [f29_eq, nth_lt hk]
  simp only [Option.bind_some]
  have hl := (go_foldi (step := f29_p2_st) (l := D) (fun i s => f29_p2_y (k : Int) keep s D (D.length : Int) (i : Int)) (keptOne keep (k : Int)) (fun _ _ => True) (s0 := S[k]) (fin := fun s => some (f29_p2_o0_y s)) trivial (fun i s hi hI => by
    refine ⟨trivial, fun rec => ?_⟩
    rw [f29_p2_eq]
    have : decide ((i : Int) < (D.length : Int)) = true := by simp; exact hi
    rw [this]
    have h0 : f29_p0_F (f29_p0_y (k : Int) keep s (i : Int) D (D.length : Int) (i : Int) D[i].1 D[i].2) = some (f29_p0_o0_y (k : Int) keep s D (D.length : Int) (i : Int) ((D[i].1 == (k : Int)) && keep.getD i false) D[i].1 D[i].2) := by
      rw [f29_p0_eq]
      cases D[i].1 == (k : Int)
      · rfl
      · simp only [cond_true, Bool.true_and]
        by_cases hi2 : i < keep.length
        · have : decide ((i : Int) < (keep.length : Int)) = true := by simp; exact hi2
          rw [this, nth_lt hi2]
          simp [List.getD_eq_getElem?_getD, hi2]
        · have : decide ((i : Int) < (keep.length : Int)) = false := by simp; omega
          rw [this, List.getD_eq_getElem?_getD, List.getElem?_eq_none (by omega)]
          rfl
    have hb : f29_p1_F (f29_p1_y (k : Int) keep s D (D.length : Int) (i : Int)) = some (f29_p1_o0_y (k : Int) keep (keptOne keep k i s D[i]) D (D.length : Int) (i : Int)) := by
      rw [f29_p1_eq, nth_lt hi]
      simp only [Option.bind_some]
      rw [h0]
      simp only [Option.bind_some, f29_p0_o0_x38_y, f29_p0_o0_x1_y, f29_p0_o0_x2_y, f29_p0_o0_x7_y, f29_p0_o0_x16_y, f29_p0_o0_x17_y, f29_p0_o0_x18_y, f29_p0_o0_r1_1_y, keptOne]
      cases (D[i].1 == (k : Int)) && keep.getD i false <;> rfl
    simp only [cond_true]
    rw [hb]
    simp only [Option.bind_some, f29_p1_o0_x1_y, f29_p1_o0_x2_y, f29_p1_o0_x7_y, f29_p1_o0_x16_y, f29_p1_o0_x17_y, f29_p1_o0_x18_y]
    rw [wrap64 (by omega) (by omega)]
    rfl) (fun s hI rec => by rw [f29_p2_eq]; simp) (by rw [fuel_def]; omega)).1
  simp only [Int.natCast_zero, Int.ofNat_zero] at hl
  rw [hl]
  simp [List.getD_eq_getElem?_getD, hk]
/-- What is kept, sector by sector. -/
theorem kept_get (keep : List Bool) (k : Nat) : ∀ (D : List Wr) (i : Nat) (S : List Sec), (∀ w ∈ D, 0 ≤ w.1 ∧ w.1 < (S.length : Int)) → k < S.length → (foldi (keptS keep) i S D).getD k [] = foldi (keptOne keep k) i (S.getD k []) D
  | [], _, _, _, _ => rfl
  | w :: D, i, S, h, hk => by
    obtain ⟨h0, h1⟩ := h w (by simp)
    have hlen : (keptS keep i S w).length = S.length := by unfold keptS; cases keep.getD i false <;> simp [put]
    simp only [foldi]
    rw [kept_get keep k D (i + 1) (keptS keep i S w) (fun v hv => by rw [hlen]; exact h v (by simp [hv])) (by rw [hlen]; exact hk)]
    congr 1
    unfold keptS keptOne
    cases keep.getD i false
    · simp
    · simp only [cond_true, Bool.and_true, put, List.getD_eq_getElem?_getD, List.getElem?_set]
      by_cases e : w.1 = (k : Int)
      · have h2 : w.1.toNat = k := by omega
        simp [h2, e, hk]
      · have h2 : ¬ w.1.toNat = k := by omega
        have h3 : (w.1 == (k : Int)) = false := by simpa using e
        simp [h2, h3]
theorem kept_len (keep : List Bool) : ∀ (D : List Wr) (i : Nat) (S : List Sec), (foldi (keptS keep) i S D).length = S.length
  | [], _, _ => rfl
  | w :: D, i, S => by
    simp only [foldi]
    rw [kept_len keep D]
    unfold keptS; cases keep.getD i false <;> simp [put]
/-- Likeness. -/
theorem like_is (S T : List Sec) (D E : List Wr) (hS : S.length ≤ 1000) (hD : D.length ≤ 1000) : f26_F ((S, (D, ())), ((T, (E, ())), ())) = some (S == T && D == E, ()) := by
  rw [f26_eq, f26_p2_eq]
  by_cases h1 : S.length = T.length
  · have e1 : ((S.length : Int) != (T.length : Int)) = false := by simp; omega
    rw [e1]
    by_cases h2 : D.length = E.length
    · have e2 : ((D.length : Int) != (E.length : Int)) = false := by simp; omega
      rw [e2]
      simp only [cond_false, Option.bind_some, f26_p2_o0_x22_y, f26_p2_o0_r0_0_y, f26_p2_o0_r0_1_y, f26_p2_o0_r1_0_y, f26_p2_o0_r1_1_y]
      have hl := go_scan (step := f26_p1_st) (l := S.zip T) (fun i => f26_p1_y (S.length : Int) (i : Int) S D T E) (fun x => x.1 != x.2) (fun k => some (.inr (f26_p1_o1_y false))) (some (.inl (f26_p1_o0_y S D T E))) (fun i hi rec => by
        have hs : i < S.length := by simp at hi; omega
        have ht : i < T.length := by simp at hi; omega
        rw [f26_p1_eq, nth_lt hs, nth_lt ht, wrap64 (by omega) (by omega)]
        have : decide ((i : Int) < (S.length : Int)) = true := by simp; exact hs
        rw [this]
        simp only [cond_true, Option.bind_some, List.getElem_zip]
        rfl) (fun rec => by
        have hz : decide (((S.zip T).length : Int) < (S.length : Int)) = false := by simp; omega
        rw [f26_p1_eq, hz]; rfl) (by rw [fuel_def]; simp; omega)
      have hl2 := go_scan (step := f26_p0_st) (l := D.zip E) (fun i => f26_p0_y (D.length : Int) (i : Int) S D T E) (fun x => !((x.1.1 == x.2.1) && (x.1.2 == x.2.2))) (fun k => some (.inr (f26_p0_o1_y false))) (some (.inl f26_p0_o0_y)) (fun i hi rec => by
        have hs : i < D.length := by simp at hi; omega
        have ht : i < E.length := by simp at hi; omega
        rw [f26_p0_eq, nth_lt hs, nth_lt ht, wrap64 (by omega) (by omega)]
        have : decide ((i : Int) < (D.length : Int)) = true := by simp; exact hs
        rw [this]
        simp only [cond_true, Option.bind_some, List.getElem_zip]
        rfl) (fun rec => by
        have hz : decide (((D.zip E).length : Int) < (D.length : Int)) = false := by simp; omega
        rw [f26_p0_eq, hz]; rfl) (by rw [fuel_def]; simp; omega)
      simp only [Int.natCast_zero, Int.ofNat_zero] at hl hl2
      rw [hl]
      have zip_eq : ∀ {α : Type} (l m : List α) (p : α → α → Bool), (∀ x y, p x y = true ↔ x = y) → l.length = m.length → ((∀ z ∈ l.zip m, p z.1 z.2 = true) ↔ l = m) := by
        intro α l m p hp hlen
        induction l generalizing m with
        | nil => cases m <;> simp at hlen ⊢
        | cons x l ih =>
          cases m with
          | nil => simp at hlen
          | cons y m =>
            simp only [List.zip_cons_cons, List.mem_cons, forall_eq_or_imp, List.cons.injEq]
            exact and_congr (hp x y) (ih m (by simpa using hlen))
      rcases find_any (S.zip T) (fun x => x.1 != x.2) with ⟨k, e, e2⟩ | ⟨e, e2⟩
      · rw [e]
        have : (S == T) = false := by
          rw [beq_eq_false_iff_ne]
          intro hST
          rw [← (zip_eq S T (fun x y => x == y) (by simp) h1)] at hST
          rw [List.any_eq_true] at e2
          obtain ⟨z, hz, hz2⟩ := e2
          have := hST z hz
          simp [bne, this] at hz2
        rw [this]; rfl
      · rw [e]
        have : (S == T) = true := by
          rw [beq_iff_eq, ← (zip_eq S T (fun x y => x == y) (by simp) h1)]
          intro z hz
          have := List.any_eq_false.1 e2 z hz
          simpa [bne] using this
        rw [this]
        simp only [Option.bind_some, f26_p1_o0_r0_0_y, f26_p1_o0_r0_1_y, f26_p1_o0_r1_0_y, f26_p1_o0_r1_1_y, Bool.true_and]
        rw [hl2]
        rcases find_any (D.zip E) (fun x => !((x.1.1 == x.2.1) && (x.1.2 == x.2.2))) with ⟨k, e, e2⟩ | ⟨e, e2⟩
        · rw [e]
          have : (D == E) = false := by
            rw [beq_eq_false_iff_ne]
            intro hST
            rw [← (zip_eq D E (fun x y => (x.1 == y.1) && (x.2 == y.2)) (by intro x y; obtain ⟨a, b⟩ := x; obtain ⟨c, d⟩ := y; simp) h2)] at hST
            rw [List.any_eq_true] at e2
            obtain ⟨z, hz, hz2⟩ := e2
            have := hST z hz
            simp [this] at hz2
          rw [this]; rfl
        · rw [e]
          have : (D == E) = true := by
            rw [beq_iff_eq, ← (zip_eq D E (fun x y => (x.1 == y.1) && (x.2 == y.2)) (by intro x y; obtain ⟨a, b⟩ := x; obtain ⟨c, d⟩ := y; simp) h2)]
            intro z hz
            have := List.any_eq_false.1 e2 z hz
            simpa using this
          rw [this]; rfl
    · have e2 : ((D.length : Int) != (E.length : Int)) = true := by simp; omega
      rw [e2]
      have : (D == E) = false := by rw [beq_eq_false_iff_ne]; intro h; exact h2 (by rw [h])
      rw [this, Bool.and_false]; rfl
  · have e1 : ((S.length : Int) != (T.length : Int)) = true := by simp; omega
    rw [e1]
    have : (S == T) = false := by rw [beq_eq_false_iff_ne]; intro h; exact h1 (by rw [h])
    rw [this, Bool.false_and]; rfl
end Go.Pe.Try
