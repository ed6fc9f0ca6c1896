/- DiskCalls. -/
import Derived.Test.YtgkolhopfiogpaaPeX17j
import Derived.Test.YtgkolhopfiogpaaPeG17qCalls
namespace Go.Pe.Try
open Go.Proofs Go.RowKit Go.Pe.X17
set_option maxRecDepth 100000
set_option linter.unusedSimpArgs false
set_option linter.unusedVariables false
theorem like_nil : f26_F (((([] : List Sec)), (([] : List Wr), ())), ((([] : List Sec), (([] : List Wr), ())), ())) = some (true, ()) := like_is [] [] [] [] (by simp) (by simp)
theorem want_loop (x2 : Int) (x3 : List UInt8) (x4 : List Bool) (x12 : Int) (x13 : List UInt8) (x14 x16 x18 x20 x22 : Int) (n : Nat) (hn : n ≤ 64) (r0 : List Sec) (d0 : List Wr) (r1 : List Sec) (d1 : List Wr) (r2 : List Sec) (d2 : List Wr) (r3 : List Sec) (d3 : List Wr) (r4 : List Sec) (d4 : List Wr) :
    go f5_p2_st (f5_p2_y x2 x3 x4 x12 x13 x14 x16 x18 x20 x22 (n : Int) 0 r0 d0 r1 d1 r2 d2 r3 d3 r4 d4 []) = some (f5_p2_o0_y x2 x3 x4 x12 x13 x14 x16 x18 x20 x22 r0 d0 r1 d1 r2 d2 r3 d3 r4 d4 (List.replicate n (sec 0))) := by
  refine go_seq (y := fun i => f5_p2_y x2 x3 x4 x12 x13 x14 x16 x18 x20 x22 (n : Int) (i : Int) r0 d0 r1 d1 r2 d2 r3 d3 r4 d4 (List.replicate i (sec 0))) (n := n) (fun i hi rec => ?_) (fun rec => ?_) (by rw [fuel_def]; omega)
  · rw [f5_p2_eq]
    have e1 : decide ((i : Int) < (n : Int)) = true := by simp; exact hi
    rw [e1]
    simp only [cond_true]
    refine bind_eq (sector_is 0) ?_
    rw [appOk_lt (by simp; omega), wrap64 (by omega) (by omega), List.replicate_succ']
    rfl
  · rw [f5_p2_eq]; simp
theorem new_part (x1 x2 : Int) (x3 : List UInt8) (x4 : List Bool) (x13 : List UInt8) (x14 x16 x18 x20 : Int) (r0 : List Sec) (d0 : List Wr) (r2 : List Sec) (d2 : List Wr) (r3 : List Sec) (d3 : List Wr) (r4 : List Sec) (d4 : List Wr) :
    ∃ (r1 : List Sec) (d1 : List Wr) (e : Int), f23_F (x1, ()) = disk r1 d1 e ∧ f5_p11_F (f5_p11_y x1 x2 x3 x4 e x13 x14 x16 x18 x20 1 r0 d0 r1 d1 r2 d2 r3 d3 r4 d4) = some (.inr (f5_p11_o1_y x2 x3 x4 x13 x14 x16 x18 x20 1 r0 d0 r2 d2 r3 d3 r4 d4)) := by
  by_cases h : x1 < 4 ∨ 64 < x1
  · refine ⟨[], [], 1, new_bad h, ?_⟩
    rw [f5_p11_eq]
    refine bind_eq (a := f5_p10_o0_y x1 x2 x3 x4 1 x13 x14 x16 x18 x20 1 true r0 d0 [] [] r2 d2 r3 d3 r4 d4) ?_ ?_
    · rw [f5_p10_eq]
      by_cases h1 : x1 < 4
      · have : decide (x1 < 4) = true := by simpa using h1
        rw [this]; rfl
      · have e1 : decide (x1 < 4) = false := by simpa using h1
        have e2 : decide (x1 > 64) = true := by simp; omega
        rw [e1, e2]; rfl
    · simp only [f5_p10_o0_x63_y, cond_true, f5_p10_o0_x1_y, f5_p10_o0_x2_y, f5_p10_o0_x3_y, f5_p10_o0_x4_y, f5_p10_o0_x12_y, f5_p10_o0_x13_y, f5_p10_o0_x14_y, f5_p10_o0_x16_y, f5_p10_o0_x18_y, f5_p10_o0_x20_y, f5_p10_o0_x22_y, f5_p10_o0_r0_0_y, f5_p10_o0_r0_1_y, f5_p10_o0_r1_0_y, f5_p10_o0_r1_1_y, f5_p10_o0_r2_0_y, f5_p10_o0_r2_1_y, f5_p10_o0_r3_0_y, f5_p10_o0_r3_1_y, f5_p10_o0_r4_0_y, f5_p10_o0_r4_1_y]
      refine bind_eq (a := f5_p7_o0_y x2 x3 x4 x13 x14 x16 x18 x20 1 false r0 d0 r2 d2 r3 d3 r4 d4) ?_ ?_
      · rw [f5_p7_eq]
        simp only [bne_self_eq_false, cond_false]
        exact bind_eq like_nil rfl
      · simp only [f5_p7_o0_x72_y, cond_false, f5_p7_o0_x2_y, f5_p7_o0_x3_y, f5_p7_o0_x4_y, f5_p7_o0_x13_y, f5_p7_o0_x14_y, f5_p7_o0_x16_y, f5_p7_o0_x18_y, f5_p7_o0_x20_y, f5_p7_o0_x22_y, f5_p7_o0_r0_0_y, f5_p7_o0_r0_1_y, f5_p7_o0_r2_0_y, f5_p7_o0_r2_1_y, f5_p7_o0_r3_0_y, f5_p7_o0_r3_1_y, f5_p7_o0_r4_0_y, f5_p7_o0_r4_1_y]
  · refine ⟨List.replicate x1.toNat (sec 0), [], 0, new_is (by omega) (by omega), ?_⟩
    obtain ⟨n, rfl⟩ := Int.eq_ofNat_of_zero_le (show 0 ≤ x1 by omega)
    rw [Int.toNat_natCast, f5_p11_eq]
    refine bind_eq (a := f5_p10_o0_y n x2 x3 x4 0 x13 x14 x16 x18 x20 1 false r0 d0 (List.replicate n (sec 0)) [] r2 d2 r3 d3 r4 d4) ?_ ?_
    · rw [f5_p10_eq]
      have e1 : decide ((n : Int) < 4) = false := by simp; omega
      have e2 : decide ((n : Int) > 64) = false := by simp; omega
      rw [e1, e2]; rfl
    · simp only [f5_p10_o0_x63_y, cond_false, f5_p10_o0_x1_y, f5_p10_o0_x2_y, f5_p10_o0_x3_y, f5_p10_o0_x4_y, f5_p10_o0_x12_y, f5_p10_o0_x13_y, f5_p10_o0_x14_y, f5_p10_o0_x16_y, f5_p10_o0_x18_y, f5_p10_o0_x20_y, f5_p10_o0_x22_y, f5_p10_o0_r0_0_y, f5_p10_o0_r0_1_y, f5_p10_o0_r1_0_y, f5_p10_o0_r1_1_y, f5_p10_o0_r2_0_y, f5_p10_o0_r2_1_y, f5_p10_o0_r3_0_y, f5_p10_o0_r3_1_y, f5_p10_o0_r4_0_y, f5_p10_o0_r4_1_y]
      refine bind_eq (want_loop x2 x3 x4 0 x13 x14 x16 x18 x20 1 n (by omega) r0 d0 (List.replicate n (sec 0)) [] r2 d2 r3 d3 r4 d4) ?_
      simp only [f5_p2_o0_x2_y, f5_p2_o0_x3_y, f5_p2_o0_x4_y, f5_p2_o0_x12_y, f5_p2_o0_x13_y, f5_p2_o0_x14_y, f5_p2_o0_x16_y, f5_p2_o0_x18_y, f5_p2_o0_x20_y, f5_p2_o0_x22_y, f5_p2_o0_r0_0_y, f5_p2_o0_r0_1_y, f5_p2_o0_r1_0_y, f5_p2_o0_r1_1_y, f5_p2_o0_r2_0_y, f5_p2_o0_r2_1_y, f5_p2_o0_r3_0_y, f5_p2_o0_r3_1_y, f5_p2_o0_r4_0_y, f5_p2_o0_r4_1_y, f5_p2_o0_l0_y]
      refine bind_eq (a := f5_p5_o0_y x2 x3 x4 x13 x14 x16 x18 x20 1 false r0 d0 r2 d2 r3 d3 r4 d4) ?_ ?_
      · rw [f5_p5_eq]
        simp only [bne_self_eq_false, cond_false]
        have hl := like_is (List.replicate n (sec 0)) (List.replicate n (sec 0)) [] [] (by simp; omega) (by simp)
        simp only [beq_self_eq_true, Bool.true_and] at hl
        exact bind_eq hl rfl
      · simp only [f5_p5_o0_x91_y, cond_false, f5_p5_o0_x2_y, f5_p5_o0_x3_y, f5_p5_o0_x4_y, f5_p5_o0_x13_y, f5_p5_o0_x14_y, f5_p5_o0_x16_y, f5_p5_o0_x18_y, f5_p5_o0_x20_y, f5_p5_o0_x22_y, f5_p5_o0_r0_0_y, f5_p5_o0_r0_1_y, f5_p5_o0_r2_0_y, f5_p5_o0_r2_1_y, f5_p5_o0_r3_0_y, f5_p5_o0_r3_1_y, f5_p5_o0_r4_0_y, f5_p5_o0_r4_1_y]
theorem each_loop {S : List Sec} {D : List Wr} (h : Right S D) (keep : List Bool) (x2 : Int) (x3 x13 : List UInt8) (x14 x16 x22 : Int) (r2 : List Sec) (d2 : List Wr) (Y C : List Sec) (hY : Y.length = S.length) (hC : C.length = S.length)
    (h1 : ∀ k, k < S.length → Y.getD k [] = stands S D k) (h2 : ∀ k, k < S.length → C.getD k [] = foldi (keptOne keep k) 0 (S.getD k []) D) :
    go f5_p3_st (f5_p3_y x2 x3 keep x13 x14 x16 x22 (S.length : Int) 0 S D r2 d2 Y [] C []) = some (.inl (f5_p3_o0_y x2 x3 x13 x14 x16 x22 S D r2 d2)) := by
  have l1 := h.hi; have l2 := h.few
  refine go_seq (y := fun i => f5_p3_y x2 x3 keep x13 x14 x16 x22 (S.length : Int) (i : Int) S D r2 d2 Y [] C []) (n := S.length) (fun i hi rec => ?_) (fun rec => ?_) (by rw [fuel_def]; omega)
  · rw [f5_p3_eq]
    have e1 : decide ((i : Int) < (S.length : Int)) = true := by simp; exact hi
    have y1 : Y[i]'(by omega) = stands S D i := by
      have := h1 i hi
      simpa [List.getD_eq_getElem?_getD, List.getElem?_eq_getElem (show i < Y.length by omega)] using this
    have y2 : C[i]'(by omega) = foldi (keptOne keep i) 0 (S.getD i []) D := by
      have := h2 i hi
      rw [List.getD_eq_getElem?_getD, List.getElem?_eq_getElem (show i < C.length by omega)] at this
      exact this
    rw [e1]
    simp only [cond_true]
    refine bind_eq (a := f5_p0_o0_y x2 x3 keep x13 x14 x16 x22 (S.length : Int) (i : Int) false S D r2 d2 Y [] C []) ?_ ?_
    · rw [f5_p0_eq, nth_lt (show i < Y.length by omega)]
      simp only [Option.bind_some]
      refine bind_eq (ref_stands (by omega) hi) ?_
      rw [y1]
      simp only [bne_self_eq_false, cond_false]
      rw [nth_lt (show i < C.length by omega)]
      simp only [Option.bind_some]
      refine bind_eq (ref_kept (by omega) hi keep) ?_
      rw [y2]
      simp only [bne_self_eq_false]
    · simp only [f5_p0_o0_x201_y, cond_false, f5_p0_o0_x2_y, f5_p0_o0_x3_y, f5_p0_o0_x4_y, f5_p0_o0_x13_y, f5_p0_o0_x14_y, f5_p0_o0_x16_y, f5_p0_o0_x22_y, f5_p0_o0_x177_y, f5_p0_o0_x178_y, f5_p0_o0_r0_0_y, f5_p0_o0_r0_1_y, f5_p0_o0_r2_0_y, f5_p0_o0_r2_1_y, f5_p0_o0_r3_0_y, f5_p0_o0_r3_1_y, f5_p0_o0_r4_0_y, f5_p0_o0_r4_1_y]
      rw [wrap64 (by omega) (by omega)]; rfl
  · rw [f5_p3_eq]; simp
/-- With a disk that may be, all else. -/
theorem right_part {S : List Sec} {D : List Wr} (h : Right S D) (at_ : Int) (data : List UInt8) (keep : List Bool) :
    ∃ (s : List UInt8) (e : Int) (ps : List Sec) (pd : List Wr) (g : Int), f22_F ((S, (D, ())), (at_, ())) = some (s, (e, ())) ∧ f20_F ((S, (D, ())), (at_, (data, ()))) = disk ps pd g ∧
      f5_p9_F (f5_p9_y at_ data keep s e g 0 0 1 S D ps pd (D.foldl put S) [] (foldi (keptS keep) 0 S D) []) = some (f5_p9_o0_y true) := by
  have l0 := h.lo; have l1 := h.hi; have l2 := h.few
  have hw : ∀ w ∈ D, 0 ≤ w.1 ∧ w.1 < (S.length : Int) := fun w hw => ⟨(h.wr w hw).1, (h.wr w hw).2.1⟩
  have hp6 : ∀ (s : List UInt8) (e g : Int) (ps : List Sec) (pd : List Wr), f5_p6_F (f5_p6_y at_ data keep s e g 0 0 1 S D ps pd (D.foldl put S) [] (foldi (keptS keep) 0 S D) []) = some (f5_p6_o0_y at_ data keep s e g 1 false S D ps pd (D.foldl put S) [] (foldi (keptS keep) 0 S D) []) := fun s e g ps pd => by
    rw [f5_p6_eq]
    have q1 : (((D.foldl put S).length : Int) != (S.length : Int)) = false := by rw [puts_len]; simp
    have q2 : (((foldi (keptS keep) 0 S D).length : Int) != (S.length : Int)) = false := by rw [kept_len]; simp
    simp only [bne_self_eq_false, cond_false, q1, q2]
    have q3 : (IntKind.i64.wrap ((([] : List Wr).length : Int) + (([] : List Wr).length : Int)) != 0) = false := by
      rw [wrap64 (by simp) (by simp)]; simp
    rw [q3]
  have hloop := fun (s : List UInt8) (e g : Int) (ps : List Sec) (pd : List Wr) => each_loop h keep at_ data s e g 1 ps pd (D.foldl put S) (foldi (keptS keep) 0 S D) (puts_len D S) (kept_len keep D 0 S)
    (fun k hk => puts_get D S hw k hk) (fun k hk => kept_get keep k D 0 S hw hk)
  by_cases hat : at_ < 0 ∨ (S.length : Int) ≤ at_
  · refine ⟨[], 1, [], [], 1, read_bad (by omega) (by omega) (.inr hat), put_bad (by omega) (by omega) (.inr (by omega)), ?_⟩
    have h4 : f5_p4_F (f5_p4_y at_ data [] 1 1 1 S D [] []) = some (f5_p4_o0_y at_ data [] 1 1 1 true S D [] []) := by
      rw [f5_p4_eq]
      by_cases h1 : at_ < 0
      · have : decide (at_ < 0) = true := by simpa using h1
        rw [this]; rfl
      · have e1 : decide (at_ < 0) = false := by simpa using h1
        have e2 : decide (at_ ≥ (S.length : Int)) = true := by simp; omega
        rw [e1, e2]; rfl
    rw [f5_p9_eq]
    refine bind_eq (hp6 _ _ _ _ _) ?_
    simp only [f5_p6_o0_x174_y, cond_false, f5_p6_o0_x2_y, f5_p6_o0_x3_y, f5_p6_o0_x4_y, f5_p6_o0_x13_y, f5_p6_o0_x14_y, f5_p6_o0_x16_y, f5_p6_o0_x22_y, f5_p6_o0_r0_0_y, f5_p6_o0_r0_1_y, f5_p6_o0_r2_0_y, f5_p6_o0_r2_1_y, f5_p6_o0_r3_0_y, f5_p6_o0_r3_1_y, f5_p6_o0_r4_0_y, f5_p6_o0_r4_1_y]
    refine bind_eq (hloop _ _ _ _ _) ?_
    simp only [f5_p3_o0_x2_y, f5_p3_o0_x3_y, f5_p3_o0_x13_y, f5_p3_o0_x14_y, f5_p3_o0_x16_y, f5_p3_o0_x22_y, f5_p3_o0_r0_0_y, f5_p3_o0_r0_1_y, f5_p3_o0_r2_0_y, f5_p3_o0_r2_1_y]
    refine bind_eq (h4) ?_
    simp only [f5_p4_o0_x211_y, f5_p4_o0_x2_y, f5_p4_o0_x3_y, f5_p4_o0_x13_y, f5_p4_o0_x14_y, f5_p4_o0_x16_y, f5_p4_o0_x22_y, f5_p4_o0_r0_0_y, f5_p4_o0_r0_1_y, f5_p4_o0_r2_0_y, f5_p4_o0_r2_1_y, cond_true, cond_false]
    simp only [cond_true, beq_self_eq_true]
    exact bind_eq like_nil rfl
  · obtain ⟨k, rfl⟩ := Int.eq_ofNat_of_zero_le (show 0 ≤ at_ by omega)
    have hk : k < S.length := by omega
    have h4 : ∀ (s : List UInt8) (e g : Int) (ps : List Sec) (pd : List Wr), f5_p4_F (f5_p4_y (k : Int) data s e g 1 S D ps pd) = some (f5_p4_o0_y (k : Int) data s e g 1 false S D ps pd) := fun s e g ps pd => by
      rw [f5_p4_eq]
      have e1 : decide ((k : Int) < 0) = false := by simp
      have e2 : decide ((k : Int) ≥ (S.length : Int)) = false := by simp; omega
      rw [e1, e2]; rfl
    have hp1 : ∀ (g : Int) (ps : List Sec) (pd : List Wr), f5_p1_F (f5_p1_y (k : Int) data (stands S D k) 0 g 1 S D ps pd) = some (f5_p1_o0_y (k : Int) data g 1 false S D ps pd) := fun g ps pd => by
      rw [f5_p1_eq]
      simp only [bne_self_eq_false, cond_false]
      refine bind_eq (ref_stands (by omega) hk) ?_
      simp only [bne_self_eq_false]
    by_cases hd : data.length = 128
    · have e3 : ((data.length : Int) != 128) = false := by simp; omega
      by_cases hf : D.length = 200
      · refine ⟨_, _, _, _, _, read_is h hk, put_full h hk hd hf, ?_⟩
        rw [f5_p9_eq]
        refine bind_eq (hp6 _ _ _ _ _) ?_
        simp only [f5_p6_o0_x174_y, cond_false, f5_p6_o0_x2_y, f5_p6_o0_x3_y, f5_p6_o0_x4_y, f5_p6_o0_x13_y, f5_p6_o0_x14_y, f5_p6_o0_x16_y, f5_p6_o0_x22_y, f5_p6_o0_r0_0_y, f5_p6_o0_r0_1_y, f5_p6_o0_r2_0_y, f5_p6_o0_r2_1_y, f5_p6_o0_r3_0_y, f5_p6_o0_r3_1_y, f5_p6_o0_r4_0_y, f5_p6_o0_r4_1_y]
        refine bind_eq (hloop _ _ _ _ _) ?_
        simp only [f5_p3_o0_x2_y, f5_p3_o0_x3_y, f5_p3_o0_x13_y, f5_p3_o0_x14_y, f5_p3_o0_x16_y, f5_p3_o0_x22_y, f5_p3_o0_r0_0_y, f5_p3_o0_r0_1_y, f5_p3_o0_r2_0_y, f5_p3_o0_r2_1_y]
        refine bind_eq (h4 _ _ _ _ _) ?_
        simp only [f5_p4_o0_x211_y, f5_p4_o0_x2_y, f5_p4_o0_x3_y, f5_p4_o0_x13_y, f5_p4_o0_x14_y, f5_p4_o0_x16_y, f5_p4_o0_x22_y, f5_p4_o0_r0_0_y, f5_p4_o0_r0_1_y, f5_p4_o0_r2_0_y, f5_p4_o0_r2_1_y, cond_true, cond_false]
        refine bind_eq (hp1 _ _ _) ?_
        have e4 : ((D.length : Int) == 200) = true := by simp; omega
        simp only [f5_p1_o0_x237_y, cond_false, f5_p1_o0_x3_y, f5_p1_o0_x16_y, f5_p1_o0_x22_y, f5_p1_o0_r2_0_y, f5_p1_o0_r2_1_y, f5_p1_o0_r0_1_y, f5_p1_o0_r0_0_y, f5_p1_o0_x2_y, e3, e4, cond_true, beq_self_eq_true]
        exact bind_eq like_nil rfl
      · refine ⟨_, _, _, _, _, read_is h hk, put_is h hk hd (by omega), ?_⟩
        rw [f5_p9_eq]
        refine bind_eq (hp6 _ _ _ _ _) ?_
        simp only [f5_p6_o0_x174_y, cond_false, f5_p6_o0_x2_y, f5_p6_o0_x3_y, f5_p6_o0_x4_y, f5_p6_o0_x13_y, f5_p6_o0_x14_y, f5_p6_o0_x16_y, f5_p6_o0_x22_y, f5_p6_o0_r0_0_y, f5_p6_o0_r0_1_y, f5_p6_o0_r2_0_y, f5_p6_o0_r2_1_y, f5_p6_o0_r3_0_y, f5_p6_o0_r3_1_y, f5_p6_o0_r4_0_y, f5_p6_o0_r4_1_y]
        refine bind_eq (hloop _ _ _ _ _) ?_
        simp only [f5_p3_o0_x2_y, f5_p3_o0_x3_y, f5_p3_o0_x13_y, f5_p3_o0_x14_y, f5_p3_o0_x16_y, f5_p3_o0_x22_y, f5_p3_o0_r0_0_y, f5_p3_o0_r0_1_y, f5_p3_o0_r2_0_y, f5_p3_o0_r2_1_y]
        refine bind_eq (h4 _ _ _ _ _) ?_
        simp only [f5_p4_o0_x211_y, f5_p4_o0_x2_y, f5_p4_o0_x3_y, f5_p4_o0_x13_y, f5_p4_o0_x14_y, f5_p4_o0_x16_y, f5_p4_o0_x22_y, f5_p4_o0_r0_0_y, f5_p4_o0_r0_1_y, f5_p4_o0_r2_0_y, f5_p4_o0_r2_1_y, cond_true, cond_false]
        refine bind_eq (hp1 _ _ _) ?_
        have e4 : ((D.length : Int) == 200) = false := by simp; omega
        simp only [f5_p1_o0_x237_y, cond_false, f5_p1_o0_x3_y, f5_p1_o0_x16_y, f5_p1_o0_x22_y, f5_p1_o0_r2_0_y, f5_p1_o0_r2_1_y, f5_p1_o0_r0_1_y, f5_p1_o0_r0_0_y, f5_p1_o0_x2_y, e3, e4, cond_true, beq_self_eq_true]
        rw [appOk_lt (by omega), appOk_lt (by simp; omega)]
        have hl := like_is S S (D ++ [((k : Int), data)]) (D ++ [((k : Int), data)]) (by omega) (by simp; omega)
        simp only [beq_self_eq_true, Bool.true_and] at hl
        exact bind_eq hl rfl
    · have e3 : ((data.length : Int) != 128) = true := by simp; omega
      refine ⟨_, _, _, _, _, read_is h hk, put_bad (by omega) (by omega) (.inr (.inr (.inr hd))), ?_⟩
      rw [f5_p9_eq]
      refine bind_eq (hp6 _ _ _ _ _) ?_
      simp only [f5_p6_o0_x174_y, cond_false, f5_p6_o0_x2_y, f5_p6_o0_x3_y, f5_p6_o0_x4_y, f5_p6_o0_x13_y, f5_p6_o0_x14_y, f5_p6_o0_x16_y, f5_p6_o0_x22_y, f5_p6_o0_r0_0_y, f5_p6_o0_r0_1_y, f5_p6_o0_r2_0_y, f5_p6_o0_r2_1_y, f5_p6_o0_r3_0_y, f5_p6_o0_r3_1_y, f5_p6_o0_r4_0_y, f5_p6_o0_r4_1_y]
      refine bind_eq (hloop _ _ _ _ _) ?_
      simp only [f5_p3_o0_x2_y, f5_p3_o0_x3_y, f5_p3_o0_x13_y, f5_p3_o0_x14_y, f5_p3_o0_x16_y, f5_p3_o0_x22_y, f5_p3_o0_r0_0_y, f5_p3_o0_r0_1_y, f5_p3_o0_r2_0_y, f5_p3_o0_r2_1_y]
      refine bind_eq (h4 _ _ _ _ _) ?_
      simp only [f5_p4_o0_x211_y, f5_p4_o0_x2_y, f5_p4_o0_x3_y, f5_p4_o0_x13_y, f5_p4_o0_x14_y, f5_p4_o0_x16_y, f5_p4_o0_x22_y, f5_p4_o0_r0_0_y, f5_p4_o0_r0_1_y, f5_p4_o0_r2_0_y, f5_p4_o0_r2_1_y, cond_true, cond_false]
      refine bind_eq (hp1 _ _ _) ?_
      simp only [f5_p1_o0_x237_y, cond_false, f5_p1_o0_x3_y, f5_p1_o0_x16_y, f5_p1_o0_x22_y, f5_p1_o0_r2_0_y, f5_p1_o0_r2_1_y, f5_p1_o0_r0_1_y, f5_p1_o0_r0_0_y, f5_p1_o0_x2_y, e3, cond_true, beq_self_eq_true]
      exact bind_eq like_nil rfl
theorem calls17 (S0 : List Sec) (D0 : List Wr) (sectors at_ : Int) (data : List UInt8) (keep : List Bool) : f5_F ((S0, (D0, ())), (sectors, (at_, (data, (keep, ()))))) = some (true, ()) := by
  rw [f5_eq]
  refine bind_eq (few_is S0 D0) ?_
  have hS : (S0.take 66).length ≤ 1000 := by simp; omega
  have hD : (D0.take 202).length ≤ 1000 := by simp; omega
  generalize S0.take 66 = S at hS
  generalize D0.take 202 = D at hD
  dsimp only
  have p12 : ∀ (s : List UInt8) (e : Int) (ps : List Sec) (pd : List Wr) (g : Int) (ys : List Sec) (yd : List Wr) (h : Int) (cs : List Sec) (cd : List Wr) (i : Int),
      f22_F ((S, (D, ())), (at_, ())) = some (s, (e, ())) → f20_F ((S, (D, ())), (at_, (data, ()))) = disk ps pd g → f24_F ((S, (D, ())), ()) = disk ys yd h → f25_F ((S, (D, ())), (keep, ())) = disk cs cd i →
      (∀ r1 d1 e1, f5_p11_F (f5_p11_y sectors at_ data keep e1 s e g h i 1 S D r1 d1 ps pd ys yd cs cd) = some (.inr (f5_p11_o1_y at_ data keep s e g h i 1 S D ps pd ys yd cs cd)) → f5_p12_F (f5_p12_y sectors at_ data keep e1 s e g h i S D r1 d1 ps pd ys yd cs cd) = some (f5_p12_o0_y true)) →
      ((f23_F (sectors, ())).bind fun r123 => (f22_F ((S, (D, ())), (at_, ()))).bind fun r124 => (f20_F ((S, (D, ())), (at_, (data, ())))).bind fun r125 => (f24_F ((S, (D, ())), ())).bind fun r126 => (f25_F ((S, (D, ())), (keep, ()))).bind fun r127 => (f5_p12_F (f5_p12_y sectors at_ data keep r123.2.1 r124.1 r124.2.1 r125.2.1 r126.2.1 r127.2.1 S D r123.1.1 r123.1.2.1 r125.1.1 r125.1.2.1 r126.1.1 r126.1.2.1 r127.1.1 r127.1.2.1)).bind fun o128 => some ((f5_p12_o0_x10 o128), ())) = some (true, ()) := by
    intro s e ps pd g ys yd h cs cd i h1 h2 h3 h4 hfin
    obtain ⟨r1, d1, e1, hn, hp11⟩ := new_part sectors at_ data keep s e g h i S D ps pd ys yd cs cd
    exact bind_eq hn (bind_eq h1 (bind_eq h2 (bind_eq h3 (bind_eq h4 (bind_eq (hfin _ _ _ hp11) rfl)))))
  have p8 : ∀ (s : List UInt8) (e g h i : Int) (ps : List Sec) (pd : List Wr) (ys : List Sec) (yd : List Wr) (cs : List Sec) (cd : List Wr), f5_p8_F (f5_p8_y at_ data keep s e g h i 1 S D ps pd ys yd cs cd) = some (f5_p8_o0_y at_ data keep s e g h i 1 false S D ps pd ys yd cs cd) := fun s e g h i ps pd ys yd cs cd => by
    rw [f5_p8_eq]
    refine bind_eq (right_is S D hS hD) (bind_eq (right2_is S D hS hD) ?_)
    simp only [bne_self_eq_false, cond_false]
    exact bind_eq alive_is rfl
  cases hr : right S D
  · refine p12 _ _ _ _ _ _ _ _ _ _ _ (read_bad hS hD (.inl hr)) (put_bad hS hD (.inl hr)) (sync_bad hS hD hr) (crash_bad hS hD keep hr) ?_
    intro r1 d1 e1 hp11
    rw [f5_p12_eq]
    refine bind_eq hp11 ?_
    simp only [f5_p11_o1_x2_y, f5_p11_o1_x3_y, f5_p11_o1_x4_y, f5_p11_o1_x13_y, f5_p11_o1_x14_y, f5_p11_o1_x16_y, f5_p11_o1_x18_y, f5_p11_o1_x20_y, f5_p11_o1_x22_y, f5_p11_o1_r0_0_y, f5_p11_o1_r0_1_y, f5_p11_o1_r2_0_y, f5_p11_o1_r2_1_y, f5_p11_o1_r3_0_y, f5_p11_o1_r3_1_y, f5_p11_o1_r4_0_y, f5_p11_o1_r4_1_y]
    refine bind_eq (p8 _ _ _ _ _ _ _ _ _ _ _) ?_
    simp only [f5_p8_o0_x100_y, cond_false, f5_p8_o0_x2_y, f5_p8_o0_x3_y, f5_p8_o0_x4_y, f5_p8_o0_x13_y, f5_p8_o0_x14_y, f5_p8_o0_x16_y, f5_p8_o0_x18_y, f5_p8_o0_x20_y, f5_p8_o0_x22_y, f5_p8_o0_r0_0_y, f5_p8_o0_r0_1_y, f5_p8_o0_r2_0_y, f5_p8_o0_r2_1_y, f5_p8_o0_r3_0_y, f5_p8_o0_r3_1_y, f5_p8_o0_r4_0_y, f5_p8_o0_r4_1_y]
    refine bind_eq (right2_is S D hS hD) ?_
    rw [hr]
    simp only [Bool.not_false, cond_true, beq_self_eq_true]
    refine bind_eq like_nil ?_
    simp only [cond_true]
    refine bind_eq like_nil ?_
    simp only [cond_true]
    exact bind_eq like_nil rfl
  · have hR := right_iff.1 hr
    obtain ⟨s, e, ps, pd, g, h1, h2, h3⟩ := right_part hR at_ data keep
    refine p12 _ _ _ _ _ _ _ _ _ _ _ h1 h2 (sync_is hR) (crash_is hR keep) ?_
    intro r1 d1 e1 hp11
    rw [f5_p12_eq]
    refine bind_eq hp11 ?_
    simp only [f5_p11_o1_x2_y, f5_p11_o1_x3_y, f5_p11_o1_x4_y, f5_p11_o1_x13_y, f5_p11_o1_x14_y, f5_p11_o1_x16_y, f5_p11_o1_x18_y, f5_p11_o1_x20_y, f5_p11_o1_x22_y, f5_p11_o1_r0_0_y, f5_p11_o1_r0_1_y, f5_p11_o1_r2_0_y, f5_p11_o1_r2_1_y, f5_p11_o1_r3_0_y, f5_p11_o1_r3_1_y, f5_p11_o1_r4_0_y, f5_p11_o1_r4_1_y]
    refine bind_eq (p8 _ _ _ _ _ _ _ _ _ _ _) ?_
    simp only [f5_p8_o0_x100_y, cond_false, f5_p8_o0_x2_y, f5_p8_o0_x3_y, f5_p8_o0_x4_y, f5_p8_o0_x13_y, f5_p8_o0_x14_y, f5_p8_o0_x16_y, f5_p8_o0_x18_y, f5_p8_o0_x20_y, f5_p8_o0_x22_y, f5_p8_o0_r0_0_y, f5_p8_o0_r0_1_y, f5_p8_o0_r2_0_y, f5_p8_o0_r2_1_y, f5_p8_o0_r3_0_y, f5_p8_o0_r3_1_y, f5_p8_o0_r4_0_y, f5_p8_o0_r4_1_y]
    refine bind_eq (right2_is S D hS hD) ?_
    rw [hr]
    simp only [Bool.not_true, cond_false]
    exact bind_eq h3 rfl
theorem lawCalls (x0 : List Sec × List Wr) (x1 x2 : Int) (x3 : List UInt8) (x4 : List Bool) : f5_F ((x0.1, (x0.2, ())), (x1, (x2, (x3, (x4, ()))))) = some (true, ()) := calls17 _ _ _ _ _ _
theorem lawCrashes (x0 : List Sec × List Wr) (x1 : List Wr) (x2 : List Bool) : f6_F ((x0.1, (x0.2, ())), (x1, (x2, ()))) = some (true, ()) := crashes _ _ _ _
end Go.Pe.Try
