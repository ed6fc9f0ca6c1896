/- DiskCrashes. -/
import Derived.Test.YtgkolhopfiogpaaPeX17h
import Derived.Test.YtgkolhopfiogpaaPeG17qCrashes
namespace Go.Pe.Try
open Go.Proofs Go.RowKit Go.Pe.X17
set_option maxRecDepth 100000
set_option linter.unusedSimpArgs false
set_option linter.unusedVariables false
def modI (n : Nat) (x : Int) : Int := Int.tmod (IntKind.i64.wrap (Int.tmod x (n : Int) + (n : Int))) (n : Int)
def addW (n : Nat) (i : Nat) (D : List Wr) (w : Wr) : List Wr := D ++ [(modI n w.1, sec (IntKind.u8.wrap (i : Int)))]
theorem puts_loop {S : List Sec} (h0 : Right S []) (keep : List Bool) (ws : List Wr) : ∃ D : List Wr, Right S D ∧ D.length ≤ 30 ∧
    go f6_p6_st (f6_p6_y keep 0 ws (ws.length : Int) 0 S S []) = some (.inl (f6_p6_o0_y keep (D.length : Int) S S D)) := by
  have l0 := h0.lo; have l1 := h0.hi
  have hl30 : (ws.take 30).length ≤ 30 := by rw [List.length_take]; omega
  have hlw : (ws.take 30).length = min 30 ws.length := List.length_take
  have hg := go_foldi (step := f6_p6_st) (l := ws.take 30) (fun i D => f6_p6_y keep (i : Int) ws (ws.length : Int) (i : Int) S S D) (addW S.length) (fun i D => Right S D ∧ D.length = i) (s0 := []) (fin := fun D => some (.inl (f6_p6_o0_y keep (((ws.take 30).length : Nat) : Int) S S D))) ⟨h0, rfl⟩ (fun i D hi hI => by
    obtain ⟨hR, hlen⟩ := hI
    have hiw : i < ws.length := by omega
    have e0 : (ws.take 30)[i] = ws[i] := List.getElem_take
    obtain ⟨k, hk, ek⟩ := mod_in ws[i].1 l0 l1
    have hR2 := put_right hR hk (sec_len (IntKind.u8.wrap (i : Int))) (by omega)
    have ea : addW S.length i D (ws.take 30)[i] = D ++ [((k : Int), sec (IntKind.u8.wrap (i : Int)))] := by
      unfold addW modI; rw [e0, ek]
    refine ⟨⟨ea ▸ hR2, by rw [ea]; simp [hlen]⟩, fun rec => ?_⟩
    rw [f6_p6_eq, nth_lt hiw]
    have e1 : decide ((i : Int) < (ws.length : Int)) = true := by simp; omega
    have e2 : decide ((i : Int) ≥ 30) = false := by simp; omega
    rw [e1]
    simp only [cond_true, Option.bind_some, e2, cond_false]
    refine bind_eq (sector_is _) ?_
    refine (if_no l0 _).trans ((if_no l0 _).trans ?_)
    rw [ek]
    refine bind_eq (put_is hR hk (sec_len (IntKind.u8.wrap (i : Int))) (by omega)) ?_
    simp only [bne_self_eq_false, cond_false]
    rw [ea, wrap64 (by omega) (by omega)]
    rfl) (fun D hI rec => by
    rw [f6_p6_eq]
    by_cases hl : ws.length ≤ 30
    · have e1 : decide ((((ws.take 30).length : Nat) : Int) < (ws.length : Int)) = false := by simp; omega
      rw [e1]; rfl
    · have e1 : decide ((((ws.take 30).length : Nat) : Int) < (ws.length : Int)) = true := by simp; omega
      have e2 : decide ((((ws.take 30).length : Nat) : Int) ≥ 30) = true := by simp; omega
      rw [e1, nth_lt (by omega), e2]; rfl) (by rw [fuel_def]; omega)
  obtain ⟨h1, h2, h3⟩ := hg
  refine ⟨_, h2, by omega, ?_⟩
  simp only [Int.natCast_zero, Int.ofNat_zero] at h1
  rw [h1, h3]
theorem all_loop (keep : List Bool) (S : List Sec) (D : List Wr) (n : Nat) (hn : n ≤ 1000) : go f6_p5_st (f6_p5_y keep ((List.replicate n false).length : Int) 0 S S D (List.replicate n false)) = some (f6_p5_o0_y keep S S D (List.replicate n true)) := by
  rw [List.length_replicate]
  refine go_seq (y := fun i => f6_p5_y keep (n : Int) (i : Int) S S D (List.replicate i true ++ List.replicate (n - i) false)) (n := n) (fun i hi rec => ?_) (fun rec => ?_) (by rw [fuel_def]; omega)
  · rw [f6_p5_eq]
    have e1 : decide ((i : Int) < (n : Int)) = true := by simp; exact hi
    have hl : (List.replicate i true ++ List.replicate (n - i) false).length = n := by simp; omega
    rw [e1]
    simp only [cond_true]
    rw [hl, within_lt hi, Int.toNat_natCast, List.getElem?_eq_getElem (by omega), Option.bind_some, wrap64 (by omega) (by omega)]
    have e3 : (List.replicate i true ++ List.replicate (n - i) false).set i true = List.replicate (i + 1) true ++ List.replicate (n - (i + 1)) false := by
      obtain ⟨m, hm⟩ : ∃ m, n - i = m + 1 := ⟨n - i - 1, by omega⟩
      have hm2 : n - (i + 1) = m := by omega
      rw [hm, hm2, List.set_append, if_neg (by simp), List.length_replicate, Nat.sub_self, List.replicate_succ, List.set_cons_zero, List.replicate_succ']
      simp
    rw [e3]; rfl
  · rw [f6_p5_eq]
    have e1 : decide ((n : Int) < (n : Int)) = false := by simp
    rw [e1]; simp
theorem kept_all : ∀ (D : List Wr) (i n : Nat) (S : List Sec), i + D.length ≤ n → foldi (keptS (List.replicate n true)) i S D = D.foldl put S
  | [], _, _, _, _ => rfl
  | w :: D, i, n, S, h => by
    simp only [foldi, List.foldl_cons]
    have e : keptS (List.replicate n true) i S w = put S w := by
      unfold keptS
      have : (List.replicate n true).getD i false = true := by
        rw [List.getD_eq_getElem?_getD, List.getElem?_replicate, if_pos (by simp at h; omega)]; rfl
      rw [this]; rfl
    rw [e, kept_all D (i + 1) n _ (by simp at h; omega)]
theorem kept_none : ∀ (D : List Wr) (i : Nat) (S : List Sec), foldi (keptS []) i S D = S
  | [], _, _ => rfl
  | w :: D, i, S => by simp only [foldi]; rw [show keptS [] i S w = S from rfl]; exact kept_none D (i + 1) S
theorem kept_from (keep : List Bool) (k : Int) : ∀ (D : List Wr) (i : Nat) (s : Sec), foldi (keptOne keep k) i s D = s ∨ ∃ w ∈ D, w.1 = k ∧ w.2 = foldi (keptOne keep k) i s D
  | [], _, _ => .inl rfl
  | w :: D, i, s => by
    simp only [foldi]
    have h1 : keptOne keep k i s w = s ∨ (w.1 = k ∧ keptOne keep k i s w = w.2) := by
      unfold keptOne
      cases h : (w.1 == k) && keep.getD i false
      · exact .inl rfl
      · simp only [Bool.and_eq_true, beq_iff_eq] at h
        exact .inr ⟨h.1, rfl⟩
    rcases kept_from keep k D (i + 1) (keptOne keep k i s w) with h | ⟨v, hv, h2, h3⟩
    · rcases h1 with h1 | ⟨h1, h2⟩
      · exact .inl (h.trans h1)
      · exact .inr ⟨w, by simp, h1, by rw [h, h2]⟩
    · exact .inr ⟨v, by simp [hv], h2, h3⟩
def isB (k : Int) (s : Sec) (b : Bool) (w : Wr) : Bool := bif b then true else (bif w.1 == k then w.2 == s else false)
theorem is_any (k : Int) (s : Sec) : ∀ (D : List Wr) (b : Bool), D.foldl (isB k s) b = (b || D.any fun w => (w.1 == k) && (w.2 == s))
  | [], b => by simp
  | w :: D, b => by
    rw [List.foldl_cons, is_any k s D, List.any_cons]
    unfold isB
    cases b <;> cases w.1 == k <;> simp
theorem is_loop (S R K : List Sec) (D : List Wr) (hD : D.length ≤ 1000) (k : Nat) (s : Sec) (b : Bool) (n : Int) :
    go f6_p1_st (f6_p1_y (k : Int) s b K n (k : Int) D (D.length : Int) 0 S R D) = some (f6_p1_o0_y (b || D.any fun w => (w.1 == (k : Int)) && (w.2 == s)) K n (k : Int) S R D) := by
  have hg := (go_foldi (step := f6_p1_st) (l := D) (fun j b => f6_p1_y (k : Int) s b K n (k : Int) D (D.length : Int) (j : Int) S R D) (fun _ => isB (k : Int) s) (fun _ _ => True) (s0 := b) (fin := fun b => some (f6_p1_o0_y b K n (k : Int) S R D)) trivial (fun j b hj _ => by
    refine ⟨trivial, fun rec => ?_⟩
    rw [f6_p1_eq]
    have e1 : decide ((j : Int) < (D.length : Int)) = true := by simp; exact hj
    have hb : f6_p0_F (f6_p0_y (k : Int) s b K n (k : Int) D (D.length : Int) (j : Int) S R D) = some (f6_p0_o0_y (k : Int) s (isB (k : Int) s b D[j]) K n (k : Int) D (D.length : Int) (j : Int) S R D) := by
      rw [f6_p0_eq, nth_lt hj]
      simp only [Option.bind_some]
      unfold isB
      cases b
      · cases D[j].1 == (k : Int)
        · rfl
        · rfl
      · rfl
    rw [e1]
    simp only [cond_true]
    rw [hb]
    simp only [Option.bind_some, f6_p0_o0_x23_y, f6_p0_o0_x24_y, f6_p0_o0_x25_y, f6_p0_o0_x152_y, f6_p0_o0_x153_y, f6_p0_o0_x154_y, f6_p0_o0_x167_y, f6_p0_o0_x168_y, f6_p0_o0_x169_y, f6_p0_o0_r0_0_y, f6_p0_o0_r1_0_y, f6_p0_o0_r1_1_y]
    rw [wrap64 (by omega) (by omega)]
    rfl) (fun b _ rec => by rw [f6_p1_eq]; simp) (by rw [fuel_def]; omega)).1
  simp only [Int.natCast_zero, Int.ofNat_zero] at hg
  rw [hg, foldi_eq, is_any]
theorem look_loop17 (S R K : List Sec) (D : List Wr) (hD : D.length ≤ 1000) (hK : K.length = S.length) (hl : S.length ≤ 1000) (h : ∀ k, k < K.length → K.getD k [] = S.getD k [] ∨ ∃ w ∈ D, w.1 = (k : Int) ∧ w.2 = K.getD k []) :
    go f6_p2_st (f6_p2_y K (K.length : Int) 0 S R D) = some (.inl f6_p2_o0_y) := by
  refine go_seq (y := fun i => f6_p2_y K (K.length : Int) (i : Int) S R D) (n := K.length) (fun i hi rec => ?_) (fun rec => ?_) (by rw [fuel_def]; omega)
  · have hs : i < S.length := by omega
    rw [f6_p2_eq, nth_lt hi, nth_lt hs]
    have e1 : decide ((i : Int) < (K.length : Int)) = true := by simp; exact hi
    rw [e1]
    simp only [cond_true, Option.bind_some]
    rw [is_loop S R K D hD]
    have hb : ((K[i] == S[i]) || D.any fun w => (w.1 == (i : Int)) && (w.2 == K[i])) = true := by
      have h1 := h i hi
      simp only [List.getD_eq_getElem?_getD, List.getElem?_eq_getElem hi, List.getElem?_eq_getElem hs, Option.getD_some] at h1
      rcases h1 with h1 | ⟨w, hw, h2, h3⟩
      · rw [h1]; simp
      · have : (D.any fun w => (w.1 == (i : Int)) && (w.2 == K[i])) = true := List.any_eq_true.2 ⟨w, hw, by rw [h2, h3]; simp⟩
        rw [this, Bool.or_true]
    rw [hb]
    simp only [Option.bind_some, f6_p1_o0_x25_y, f6_p1_o0_x152_y, f6_p1_o0_x153_y, f6_p1_o0_x154_y, f6_p1_o0_r0_0_y, f6_p1_o0_r1_0_y, f6_p1_o0_r1_1_y, Bool.not_true, cond_false]
    rw [wrap64 (by omega) (by omega)]; rfl
  · rw [f6_p2_eq]; simp
theorem makeOk_n {S : Type} (n : Nat) (h : n ≤ 1000) (K : Option S) : makeOk (n : Int) (n : Int) K = K := by unfold makeOk; rw [if_pos (by omega)]
theorem crashes (S0 : List Sec) (D0 : List Wr) (ws : List Wr) (keep : List Bool) : f6_F ((S0, (D0, ())), (ws, (keep, ()))) = some (true, ()) := by
  rw [f6_eq]
  refine bind_eq (few_is S0 D0) ?_
  have hS : (S0.take 66).length ≤ 1000 := by simp; omega
  generalize S0.take 66 = S at hS
  dsimp only
  rw [f6_p7_eq, right2_is S [] hS (by simp)]
  cases hr : right S []
  · simp only [Option.bind_some, Bool.not_false, cond_true, f6_p7_o0_x37_y]
    exact bind_eq alive_is rfl
  · have hR := right_iff.1 hr
    refine bind_eq (a := f6_p7_o0_y ws keep false S) (bind_eq (a := (true, ())) rfl (bind_eq alive_is rfl)) ?_
    simp only [f6_p7_o0_x37_y, cond_false, f6_p7_o0_x1_y, f6_p7_o0_x2_y, f6_p7_o0_r0_0_y]
    obtain ⟨D, hD, hl, hgo⟩ := puts_loop hR keep ws
    refine bind_eq hgo ?_
    simp only [f6_p6_o0_x8_y, f6_p6_o0_x2_y, f6_p6_o0_r0_0_y, f6_p6_o0_r1_0_y, f6_p6_o0_r1_1_y, Int.toNat_natCast]
    refine (makeOk_n _ (by omega) _).trans ?_
    refine bind_eq (all_loop keep S D D.length (by omega)) ?_
    simp only [f6_p5_o0_x2_y, f6_p5_o0_r0_0_y, f6_p5_o0_r1_0_y, f6_p5_o0_r1_1_y, f6_p5_o0_l0_y]
    have hw : ∀ w ∈ D, 0 ≤ w.1 ∧ w.1 < (S.length : Int) := fun w hw => ⟨(hD.wr w hw).1, (hD.wr w hw).2.1⟩
    have c1 := crash_is hD (List.replicate D.length true)
    rw [kept_all D 0 D.length S (by omega)] at c1
    have c3 := crash_is hD []
    rw [kept_none] at c3
    have c4 := crash_is hD keep
    have hKl := kept_len keep D 0 S
    have hKg := fun (k : Nat) (hk : k < S.length) => kept_get keep k D 0 S hw hk
    have hKf := fun (k : Nat) => kept_from keep (k : Int) D 0 (S.getD k [])
    generalize hK : foldi (keptS keep) 0 S D = K at c4 hKl hKg
    have hfin : ∀ k, k < K.length → K.getD k [] = S.getD k [] ∨ ∃ w ∈ D, w.1 = (k : Int) ∧ w.2 = K.getD k [] := fun k hk => by
      rw [hKg k (by omega)]
      exact hKf k
    have e1 := like_is (D.foldl put S) (D.foldl put S) [] [] (by rw [puts_len]; omega) (by simp)
    have e2 := like_is S S [] [] (by omega) (by simp)
    simp only [beq_self_eq_true, Bool.true_and] at e1 e2
    refine bind_eq c1 (bind_eq (sync_is hD) (bind_eq c3 ?_))
    dsimp only
    refine bind_eq (a := f6_p4_o0_y true) ?_ (by rw [f6_p4_o0_x6_y])
    rw [f6_p4_eq]
    refine bind_eq c4 ?_
    dsimp only
    refine bind_eq (a := f6_p3_o0_y false S S D K []) ?_ ?_
    · rw [f6_p3_eq]
      simp only [bne_self_eq_false, cond_false]
      refine bind_eq e1 ?_
      simp only [Bool.not_true, cond_false]
      refine bind_eq e2 ?_
      have e3 : ((K.length : Int) != (S.length : Int)) = false := by simp; omega
      simp only [Bool.not_true, cond_false, e3]
    · simp only [f6_p3_o0_x150_y, cond_false, f6_p3_o0_r5_0_y, f6_p3_o0_r0_0_y, f6_p3_o0_r1_0_y, f6_p3_o0_r1_1_y]
      refine bind_eq (look_loop17 S S K D (by omega) (by omega) (by omega) hfin) ?_
      rfl
end Go.Pe.Try
