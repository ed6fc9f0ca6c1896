/- The parser, whole. -/
import Derived.Test.YtgghmllnhaahgaaPeParD
set_option linter.unusedSectionVars false
set_option linter.unusedVariables false
set_option linter.unusedSimpArgs false
namespace Go.Pe.Try
open Go.Proofs Go.RowKit
set_option maxRecDepth 100000
noncomputable def q3_0 : Oper := (q3[0]?).getD ⟨none, .move (.tmp 0), 0, "", #[], none⟩
noncomputable def q3_1 : Oper := (q3[1]?).getD ⟨none, .move (.tmp 0), 0, "", #[], none⟩
theorem q3_mk (a : Act) (w : World) : (execOp a.eval q3_0).run Try.prog w = .ok (.value (.func (.func 10) #[] #[a.eval (.tmp 2), a.eval (.tmp 3)])) w := by kernel_rfl
theorem q3_df (a : Act) (w : World) (c : Array Value) (h : a.eval (.tmp 9) = .func (.func 10) #[] c) : (execOp a.eval q3_1).run Try.prog w = .ok (.defer { target := .fn (.func 10) c, args := #[] }) w := by
  rw [show q3_1 = ⟨none, .defer ⟨.value (.tmp 9), #[], #[]⟩, q3_1.type, q3_1.pos, q3_1.after, none⟩ by kernel_rfl]
  have h' : a.tmps[9]?.getD undef = .func (.func 10) #[] c := by simpa [Act.eval] using h
  simp [execOp, go_sem, h']
theorem par_calls (s : List UInt8) (z : argsDen f5_rs) (hz : f5_F (s, ()) = some z) (A : Nat → Prop) (w : World) : Calls Try.prog 5 #[.string ⟨s.toArray⟩] w (parR w A z) := by
  refine calls_of_wp_defers Try.func5 q_body ?_
  rw [show (#[Value.string ⟨s.toArray⟩] ++ Array.replicate (Try.f5.ntmps - (#[Value.string ⟨s.toArray⟩] : Array Value).size) undef) = #[.string ⟨s.toArray⟩, undef, undef, undef, undef, undef, undef, undef, undef, undef, undef, undef, undef, undef, undef, undef, undef, undef, undef, undef, undef, undef] by kernel_rfl]
  refine (wpIn_wide (n := 0)).1 ?_
  have hs0 : Sim ⟨fun _ => False, fun _ => False, fun _ => False, w, fun _ => none, 0, .bool false⟩ w (q_st0 s) #[.string ⟨s.toArray⟩, undef, undef, undef, undef, undef, undef, undef, undef, undef, undef, undef, undef, undef, undef, undef, undef, undef, undef, undef, undef, undef] w ⟨fun _ => none, fun _ => 0, none⟩ := by
    refine ⟨RepAVs.cons (by simp only [RepAV, Rep]) (rep_dead _ _ rfl), ?_, ?_, ?_, ?_, Below.refl _ _, ?_, ?_, ?_, ?_, trivial, ⟨fun r c h => by simp [getL, q_st0] at h, fun t o h => by simp [getL, q_st0] at h⟩, fun r c h => by simp [getL, q_st0] at h, fun d h => by cases h⟩
    · intro r cells h; simp [getL, q_st0] at h
    · intro t o h; simp [getL, q_st0] at h
    · intro x b h; cases h
    · intro x y b h; cases h
    · intro b h; cases h
    · intro b h; cases h
    · exact Nat.zero_le _
    · intro r b h; cases h
  refine wpIn_seq (evC_sound (Dk := fun l => l = []) (ρ := none) E5_ok (.region 0 q0 false) _ ?_ (q_st0 s) _ w _ (q_e0 s) hs0 rfl)
  intro ex st' tm E a1 w1 μ1 hK h1 hl hd1
  cases ex <;> simp only at hK <;> first | (cases hK; done) | skip
  obtain ⟨rfl, rfl⟩ := hl
  have h1 := abs_sound h1 (Nat.zero_le _) hK
  obtain ⟨b1, v1, e1, _, _⟩ := h1.mem.hrec 0 _ rfl rfl
  obtain ⟨b2, v2, e2, _, _⟩ := h1.mem.hrec 1 _ rfl rfl
  have h1 : Sim (parA w b1 b2) w (fill q_sA (q_a s 0)) a1.tmps w1 _ := sim_pin h1 (fun r => match r with | 0 => some b1 | 1 => some b2 | _ => none) 2 (Nat.le_refl 2) (by
    intro r b h
    rcases r with _ | _ | r <;> simp only at h <;> cases h
    · exact ⟨by omega, fun _ => e1⟩
    · exact ⟨by omega, fun _ => e2⟩)
  show Code.wpIn _ _ _ _ _ a1 w1
  by_cases hlen : 65536 < s.length
  · -- too long
    have hz' : z = zeroR 2 := by
      have : f5_F (s, ()) = some (zeroR 2) := by unfold f5_F; rw [if_pos hlen]
      rw [this] at hz; cases hz; rfl
    subst hz'
    refine wpIn_seq (evC_sound (Dk := fun l => l = []) (ρ := none) E5_ok _ _ ?_ (fill q_sA (q_a s 0)) _ w1 _ (r := .inr (zeroR 2)) ((q_e1 s).trans (by rw [decide_eq_true (by omega)]; rfl)) h1 hd1)
    intro ex st' tm E a2 w2 μ2 hK h2 hl hd2
    cases ex <;> simp only [Option.map_eq_some_iff] at hK <;> first | (cases hK; done) | skip
    · obtain ⟨_, _, e⟩ := hK; cases e
    obtain ⟨y, hy, e⟩ := hK
    cases e
    obtain ⟨rfl, rfl⟩ := hl
    obtain ⟨v, g1, g2⟩ := fin_of E5_ok (A := A) (A0 := parA w b1 b2) (fun b h => False.elim h) h2 hy
    show Leaves _ _ _ _ a2.defers _ _
    rw [hd2]
    exact ⟨v, g1, v, rfl, h2.mem.below, g2⟩
  -- parsed
  refine wpIn_seq (evC_sound (Dk := fun l => l = []) (ρ := none) E5_ok _ _ ?_ (fill q_sA (q_a s 0)) _ w1 _ (r := .inl (q_a s 0)) ((q_e1 s).trans (by rw [decide_eq_false (by omega)]; rfl)) h1 hd1)
  clear h1 hd1
  intro ex st' tm E a2 w2 μ2 hK h2 hl hd2
  cases ex <;> simp only [Option.map_eq_some_iff] at hK <;> first | (cases hK; done) | skip
  rotate_left
  · obtain ⟨_, _, e⟩ := hK; cases e
  obtain ⟨y, hy, e⟩ := hK
  cases e
  obtain ⟨rfl, rfl⟩ := hl
  have h2 := abs_sound (sh := q_sA) h2 (Nat.le_refl 2) hy
  show Code.wpIn _ _ _ _ _ a2 w2
  refine wpIn_seq (wpIn_region ?_)
  rw [show List.range q3.size = [0, 1] by kernel_rfl]
  have hev : a2.eval (.tmp 2) = .pointer (some ⟨b1, 0, none⟩) ∧ a2.eval (.tmp 3) = .pointer (some ⟨b2, 0, none⟩) ∧ 9 < a2.tmps.size := by
    have hm := h2.mem
    have k1 := (hm.pins 0 b1 rfl).2 rfl
    have k2 := (hm.pins 1 b2 rfl).2 rfl
    obtain ⟨u2, g2, r2⟩ := h2.slots.get 2 (.ptr 0 0) rfl
    obtain ⟨u3, g3, r3⟩ := h2.slots.get 3 (.ptr 1 0) rfl
    simp only [RepAV] at r2 r3
    obtain ⟨_, _, r2⟩ := r2
    obtain ⟨_, _, r3⟩ := r3
    obtain ⟨_, q2, rfl⟩ := r2 rfl
    obtain ⟨_, q3, rfl⟩ := r3 rfl
    have q2' : (μ2.keep q_sA).at_ (.r 0) = _ := q2
    have q3' : (μ2.keep q_sA).at_ (.r 1) = _ := q3
    rw [k1] at q2'; cases q2'
    rw [k2] at q3'; cases q3'
    have hsz : a2.tmps.toList.length = 22 := h2.slots.length
    refine ⟨?_, ?_, by rw [← Array.length_toList, hsz]; omega⟩
    · simp only [Act.eval, Array.getD_eq_getD_getElem?, ← Array.getElem?_toList, g2, Option.getD_some]
    · simp only [Act.eval, Array.getD_eq_getD_getElem?, ← Array.getElem?_toList, g3, Option.getD_some]
  obtain ⟨hv2, hv3, hsz⟩ := hev
  refine stepIn q3_0 _ _ (by kernel_rfl) (by kernel_rfl) (q3_mk _ _) ?_
  rw [hv2, hv3, show q3_0.dst = some 9 by kernel_rfl]
  refine stepIn_defer q3_1 (parD b1 b2) w2 (by kernel_rfl) (by kernel_rfl) (q3_df _ _ _ (by simp [Act.put, Act.eval, hsz])) ?_
  rw [show q3_1.dst = none by kernel_rfl]
  have h3 := Sim.put (a := a2) h2 (some 9) (av := .dead) (v := .func (.func 10) #[] #[.pointer (some ⟨b1, 0, none⟩), .pointer (some ⟨b2, 0, none⟩)]) (by simp only [RepAV])
  rw [show (fill q_sA (q_a s 0)).put (some 9) .dead = fill q_sA (q_a s 0) by kernel_rfl] at h3
  obtain ⟨a3, ha3⟩ : ∃ a3 : Act, a3 = ({ (a2.put (some 9) (.func (.func 10) #[] #[.pointer (some ⟨b1, 0, none⟩), .pointer (some ⟨b2, 0, none⟩)])) with defers := parD b1 b2 :: (a2.put (some 9) (.func (.func 10) #[] #[.pointer (some ⟨b1, 0, none⟩), .pointer (some ⟨b2, 0, none⟩)])).defers } : Act).put none undef := ⟨_, rfl⟩
  have h3 : Sim (parA w b1 b2) w (fill q_sA (q_a s 0)) a3.tmps w2 (μ2.keep q_sA) := by rw [ha3]; exact h3
  have hd3 : a3.defers = [parD b1 b2] := by rw [ha3]; show parD b1 b2 :: (a2.put _ _).defers = _; rw [put_defers, hd2]
  rw [← ha3]
  clear ha3 h2 hd2 hv2 hv3 hsz
  show Code.wpIn _ _ _ _ _ a3 w2
  refine wpIn_seq (evC_sound (Dk := fun l => l = [parD b1 b2]) (ρ := none) E5_ok (.region 4 q4 false) _ ?_ (fill q_sA (q_a s 0)) _ w2 _ (q_e4 s) h3 hd3)
  clear h3 hd3
  intro ex st' tm E a4 w4 μ4 hK h4 hl hd4
  cases ex <;> simp only at hK <;> first | (cases hK; done) | skip
  obtain ⟨rfl, rfl⟩ := hl
  have h4 := abs_sound (sh := q_sB) h4 (show 2 ≤ 3 by omega) hK
  obtain ⟨μ5, h5⟩ := start_sound (q := 2) (j := 2) h4 rfl rfl rfl rfl (by decide)
  have h5 : Sim (parA w b1 b2) w (q_st5 s) a4.tmps w4 μ5 := h5
  clear h4
  show Code.wpIn _ _ _ _ _ a4 w4
  cases ho : h11_F (h11_y s 0 []) with
  | none => simp only [f5_F, if_neg hlen, ho, Option.bind_none] at hz; cases hz
  | some o =>
    have hz : (match (generalizing := false) o with | .inl y => if h11_o_r0_0 y = [] then some (valR y) else some (zeroR 20) | .inr y => some (zeroR (h11_z_x0_0_0 y))) = some z := by
      simp only [f5_F, if_neg hlen, ho, Option.bind_some] at hz; exact hz
    have heq := q_e5 s
    rw [ho, Option.bind_some] at heq
    cases o with
    | inr y =>
      simp only at hz heq
      cases hz
      refine wpIn_seq (wpIn_region (evOps_sound (Dk := fun l => l = [parD b1 b2]) (ρ := none) (n := 0) (P := Try.prog) E5_ok ?_ ?_ _ (q_st5 s) a4 w4 μ5 heq h5 hd4))
      · intro st' a' w' μ' hK _ _
        simp only [Option.map_eq_some_iff] at hK
        obtain ⟨_, _, e⟩ := hK; cases e
      · intro av st' v a' w' μ' hK hv hs hd
        simp only [Option.map_eq_some_iff] at hK
        obtain ⟨p, hp, e⟩ := hK
        simp only [Sum.inr.injEq, Prod.mk.injEq] at e
        obtain ⟨rfl, rfl⟩ := e
        have hs := abs_sound (sh := q_sP) hs (Nat.le_refl 2) hp
        show Leaves _ _ _ _ a'.defers _ _
        rw [hd]
        exact leave_panic hs hv
    | inl y =>
      simp only at hz heq
      refine wpIn_seq (wpIn_region (evOps_sound (Dk := fun l => l = [parD b1 b2]) (ρ := none) (n := 0) (P := Try.prog) E5_ok ?_ ?_ _ (q_st5 s) a4 w4 μ5 heq h5 hd4))
      rotate_left
      · intro av st' v a' w' μ' hK hv hs hd
        simp only [Option.map_eq_some_iff] at hK
        obtain ⟨_, _, e⟩ := hK; cases e
      intro st' a6 w6 μ6 hK h6 hd6
      simp only [Option.map_eq_some_iff] at hK
      obtain ⟨p, hp, e⟩ := hK
      cases e
      have h6 := abs_sound (sh := q_sC) h6 (show 2 ≤ 3 by omega) hp
      clear hp heq h5 hd4
      show Code.wpIn _ _ _ _ _ a6 w6
      refine wpIn_seq (wpIn_seq (evC_sound (Dk := fun l => l = [parD b1 b2]) (ρ := none) E5_ok (.region 6 q6 false) _ ?_ (fill q_sC (q_cz y)) _ w6 _ (q_e6 y) h6 hd6))
      clear h6 hd6
      intro ex st' tm E a7 w7 μ7 hK h7 hl hd7
      cases ex <;> simp only at hK <;> first | (cases hK; done) | skip
      obtain ⟨rfl, rfl⟩ := hl
      have h7 := abs_sound (sh := q_sD) h7 (Nat.le_refl 2) hK
      show Code.wpIn _ _ _ _ _ a7 w7
      have hc : a7.eval (.tmp 19) = .bool (h11_o_r0_0 y != []) := by
        obtain ⟨u, g, r⟩ := h7.slots.get 19 (.d .bool (h11_o_r0_0 y != [])) rfl
        simp only [RepAV, Rep, List.cons.injEq, and_true] at r
        subst r
        simp only [Act.eval, Array.getD_eq_getD_getElem?, ← Array.getElem?_toList, g, Option.getD_some]
      refine wpIn_cond_split hc (fun ht => ?_) (fun hf => ?_)
      · have hne : ¬ h11_o_r0_0 y = [] := by simpa using ht
        rw [if_neg hne] at hz; cases hz
        have heq := q_e7 y (h11_o_r0_0 y != [])
        rw [h12_eq, Option.bind_some] at heq
        refine wpIn_region (evOps_sound (Dk := fun l => l = [parD b1 b2]) (ρ := none) (n := 0) (P := Try.prog) E5_ok ?_ ?_ _ (fill q_sD (q_dz y _)) a7 w7 _ heq h7 hd7)
        · intro st' a' w' μ' hK _ _; cases hK
        · intro av st' v a' w' μ' hK hv hs hd
          simp only [Option.map_eq_some_iff] at hK
          obtain ⟨p, hp, e⟩ := hK
          simp only [Prod.mk.injEq] at e
          obtain ⟨rfl, rfl⟩ := e
          have hs := abs_sound (sh := q_sP) hs (Nat.le_refl 2) hp
          show Leaves _ _ _ _ a'.defers _ _
          rw [hd]
          exact leave_panic hs hv
      · have hne : h11_o_r0_0 y = [] := by simpa using hf
        rw [if_pos hne] at hz; cases hz
        refine wpIn_skip ?_
        show Code.wpIn _ _ _ _ _ a7 w7
        refine evC_sound (Dk := fun l => l = [parD b1 b2]) (ρ := none) E5_ok _ _ ?_ (fill q_sD (q_dz y _)) _ w7 _ (q_e8 y _) h7 hd7
        clear h7 hd7 hc
        intro ex st' tm E a8 w8 μ8 hK h8 hl hd8
        cases ex <;> simp only at hK <;> first | (cases hK; done) | skip
        obtain ⟨rfl, rfl⟩ := hl
        show Leaves _ _ _ _ a8.defers _ _
        rw [hd8]
        refine leaves_cons (fv := .func 10) (cap := #[.pointer (some ⟨b1, 0, none⟩), .pointer (some ⟨b2, 0, none⟩)]) (dargs := #[]) (by simp) (par_invoke b1 b2 w8) ?_
        refine (catch_idle b1 b2 w8).mono ?_
        rintro e u' w'' ⟨rfl, rfl, rfl⟩
        show Leaves _ _ _ _ [] .returning _
        have hbl : Below w8.heap.size w8 (w8.alloc (.cells #[.int .i64 0] 35)) := (Below.refl _ w8).alloc (Nat.le_refl _) _
        have h9 := h8.ext hbl
        obtain ⟨v, g1, g2⟩ := fin_of E5_ok (A := A) (A0 := parA w b1 b2) (fun b h => False.elim h) h9 hK
        exact ⟨v, g1, v, rfl, h9.mem.below, g2⟩
theorem f5_ok : Sound Try.prog 5 (pfun f5_F) := by
  refine ⟨⟨_, Try.func5, by kernel_rfl, by kernel_rfl⟩, ?_⟩
  intro S args K r hG A w vs hA hgi hcl hrep
  simp only [pfun, Option.bind_eq_some_iff] at hG
  obtain ⟨⟨s, _⟩, hy, z, hz, hK⟩ := hG
  refine ⟨_, hK, encRes_closed _ z, ?_⟩
  have hargs := decArgs_rep hy hrep
  simp only [encArgs, KD.enc] at hargs
  obtain ⟨v1, _, rfl, r1, hargs⟩ := hargs.cons'
  obtain rfl := hargs.nil
  simp only [RepAV, Rep, List.cons.injEq, and_true] at r1
  subst r1
  exact par_calls s z hz A w
end Go.Pe.Try
