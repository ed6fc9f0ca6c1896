/- The reference's values; both parsers tell the same. -/
import Derived.Test.YtgghmllnhaahgaaPePP9
namespace Go.Pe.Try
open Go.Proofs Go.RowKit
set_option maxRecDepth 100000
set_option linter.unusedSimpArgs false
set_option linter.unusedVariables false
theorem f13_next (n : Nat) : (f13_S (n + 1)).1 = f13_b (f13_S n).1 (f13_S n).2 := by kernel_rfl
theorem rvalue (a : List UInt8) (ha : a.length ≤ 70000) : ∀ (d m i n : Nat), d ≤ 12 → d + 1 ≤ m → i ≤ a.length → n ≤ 2000 → Res a (value d (a.drop i) n) ((f13_S m).1 (a, ((i : Int), (((12 - d : Nat) : Int), ((n : Int), ()))))) := by
  intro d
  induction d with
  | zero =>
    intro m i n _ hm hi hn
    obtain ⟨m, rfl⟩ : ∃ j, m = j + 1 := ⟨m - 1, by omega⟩
    rw [f13_next, f13_eq]
    exact ⟨by decide, v0, 0, 0, rfl⟩
  | succ d ih =>
    intro m i n hd hm hi hn
    obtain ⟨m, rfl⟩ : ∃ j, m = j + 1 := ⟨m - 1, by omega⟩
    have hG := fun i n h1 h2 => ih m i n (by omega) (by omega) h1 h2
    rw [f13_next, f13_eq]
    obtain ⟨G, hGd⟩ : ∃ G, G = (f13_S m).1 := ⟨_, rfl⟩
    have hGs : Sound Try.prog 13 (pfun (f13_S m).1) := (f13_S m).2
    have h12 : (((12 - (d + 1) : Nat) : Int) == 12) = false := by rw [beq_eq_false_iff_ne]; omega
    rw [h12, cond_false]
    unfold value beginS
    rw [if_neg (show ¬ 11 - d = 12 by omega)]
    by_cases h20 : n = 2000
    · subst h20
      exact ⟨by decide, v0, 0, 0, rfl⟩
    have h20' : ((n : Int) == 2000) = false := by rw [beq_eq_false_iff_ne]; omega
    rw [h20', cond_false, if_neg h20, nxb (by omega), sign_eq, Option.bind_some]
    have hw := wrong_eq a i
    have htx := rtext_eq a ha (i + 1)
    rcases drop_cases a i with ⟨h, e⟩ | ⟨h, e⟩
    · rw [e] at hw ⊢
      simp only at hw ⊢
      rw [f13_p5_eq]
      rw [show ((-1 : Int) == 45) = false by decide, cond_false, show decide ((-1 : Int) ≥ 48) = false by decide, cond_false]
      simp only [Option.bind_some, f13_p5_o0_x36_y, cond_false, f13_p5_o0_x9_y, f13_p5_o0_x0_y, f13_p5_o0_x1_y, f13_p5_o0_x2_y, f13_p5_o0_x3_y, f13_p5_o0_r0_0_y, f13_p5_o0_r0_1_y, f13_p5_o0_r0_2_y, f13_p5_o0_r0_5_y, f13_p5_o0_r0_6_y, f13_p5_o0_r0_7_y]
      rw [show ((-1 : Int) == 34) = false by decide, cond_false, f13_p4_eq, show ((-1 : Int) != 91) = true by decide, cond_true]
      simp only [Option.bind_some, f13_p4_o0_x59_y, f13_p4_o0_x0_y, f13_p4_o0_x1_y]
      rw [show ((-1 : Int) != 123) = true by decide, cond_true, hw]
      exact ⟨by decide, v0, 0, 0, rfl⟩
    · have hrn := rnumber_eq a ha i
      have hie : i + 1 ≤ a.length := by omega
      rw [e] at hw hrn ⊢
      generalize hci : a[i] = c at hw hrn ⊢
      have hrn := hrn c (a.drop (i + 1)) rfl
      simp only at hw ⊢
      have e45 : ((c.toNat : Int) == 45) = (c == 45) := by
        rw [Bool.eq_iff_iff]; simp only [beq_iff_eq]; rw [← UInt8.toNat_inj]; simp only [UInt8.reduceToNat]; omega
      have e34 : ((c.toNat : Int) == 34) = decide (c = 34) := by
        rw [Bool.eq_iff_iff]; simp only [beq_iff_eq, decide_eq_true_eq]; rw [← UInt8.toNat_inj]; simp only [UInt8.reduceToNat]; omega
      have e91 : ((c.toNat : Int) != 91) = decide (¬ c = 91) := by
        rw [Bool.eq_iff_iff]; simp only [bne_iff, decide_eq_true_eq]; rw [← UInt8.toNat_inj]; simp only [UInt8.reduceToNat]; omega
      have e123 : ((c.toNat : Int) != 123) = decide (¬ c = 123) := by
        rw [Bool.eq_iff_iff]; simp only [bne_iff, decide_eq_true_eq]; rw [← UInt8.toNat_inj]; simp only [UInt8.reduceToNat]; omega
      have e123' : ((c.toNat : Int) == 123) = decide (c = 123) := by
        rw [Bool.eq_iff_iff]; simp only [beq_iff_eq, decide_eq_true_eq]; rw [← UInt8.toNat_inj]; simp only [UInt8.reduceToNat]; omega
      have hp5 : ∀ D : Int, f13_p5_F (f13_S m).1 (f13_S m).2 (f13_p5_y a (i : Int) D ((n + 1 : Nat) : Int) (c.toNat : Int) 0 0 [] 0 0 0) = some (f13_p5_o0_y a (i : Int) D ((n + 1 : Nat) : Int) (c.toNat : Int) (c == 45 || digitB c) 0 0 [] 0 0 0) := by
        intro D
        have h1 : ((c.toNat : Int) ≥ 48) ↔ 48 ≤ c.toNat := by omega
        have h2 : ((c.toNat : Int) ≤ 57) ↔ c.toNat ≤ 57 := by omega
        rw [f13_p5_eq, e45]
        simp only [h1, h2, digitB]
        cases c == 45 with
        | true => rfl
        | false =>
          by_cases h : 48 ≤ c.toNat
          · simp [h]
          · simp [h]
      rw [hp5]
      simp only [Option.bind_some, f13_p5_o0_x36_y, f13_p5_o0_x9_y, f13_p5_o0_x0_y, f13_p5_o0_x1_y, f13_p5_o0_x2_y, f13_p5_o0_x3_y, f13_p5_o0_r0_0_y, f13_p5_o0_r0_1_y, f13_p5_o0_r0_2_y, f13_p5_o0_r0_5_y, f13_p5_o0_r0_6_y, f13_p5_o0_r0_7_y]
      have hsuf1 : a.drop (i + 1) <:+ a := List.drop_suffix _ _
      have hsuf0 : (c :: a.drop (i + 1)) <:+ a := by rw [← hci, ← e]; exact List.drop_suffix _ _
      cases hdig : (c == 45 || digitB c) with
      | true =>
        simp only [cond_true, if_true]
        rw [hrn]
        cases hnum : num (c :: a.drop (i + 1)) with
        | error er => exact ⟨num_err hnum, v0, 0, n + 1, rfl⟩
        | ok p =>
          obtain ⟨v, r⟩ := p
          exact ⟨rfl, (num_suf hnum).trans hsuf0⟩
      | false =>
        simp only [cond_false, Bool.false_eq_true, if_false, e34]
        by_cases h34 : c = 34
        · simp only [h34, decide_true, cond_true, if_true]
          rw [nxb (by omega), htx]
          cases ht : txt (a.drop (i + 1)) [] with
          | error er => exact ⟨txt_err _ (Nat.le_refl _) ht, ⟨2, 0, [], [], []⟩, 0, n + 1, rfl⟩
          | ok p =>
            obtain ⟨s, r⟩ := p
            exact ⟨rfl, (txt_suf _ (Nat.le_refl _) (by simp) ht).1.trans hsuf1⟩
        · simp only [h34, decide_false, cond_false, if_false]
          have hp4 : ∀ D : Int, f13_p4_F (f13_S m).1 (f13_S m).2 (f13_p4_y a (i : Int) D ((n + 1 : Nat) : Int) (c.toNat : Int) 0 0 [] 0 0 0) = some (f13_p4_o0_y a (i : Int) D ((n + 1 : Nat) : Int) (c.toNat : Int) (decide (¬ (c = 91 ∨ c = 123))) 0 0 [] 0 0 0) := by
            intro D
            rw [f13_p4_eq, e91, e123]
            by_cases h91 : c = 91
            · simp [h91]
            · simp [h91]
          rw [hp4]
          simp only [Option.bind_some, f13_p4_o0_x59_y, f13_p4_o0_x9_y, f13_p4_o0_x0_y, f13_p4_o0_x1_y, f13_p4_o0_x2_y, f13_p4_o0_x3_y, f13_p4_o0_r0_0_y, f13_p4_o0_r0_1_y, f13_p4_o0_r0_2_y, f13_p4_o0_r0_5_y, f13_p4_o0_r0_6_y, f13_p4_o0_r0_7_y]
          by_cases hb : c = 91 ∨ c = 123
          · simp only [hb, not_true_eq_false, decide_false, cond_false, if_true]
            have hp3 : ∀ D : Int, f13_p3_F (f13_S m).1 (f13_S m).2 (f13_p3_y a (i : Int) D ((n + 1 : Nat) : Int) (c.toNat : Int) 93 0 0 [] 0 0 0 3 0 []) = some (f13_p3_o0_y a (i : Int) D ((n + 1 : Nat) : Int) ((clo (if c = 123 then 4 else 3)).toNat : Int) 0 0 [] 0 0 0 (if c = 123 then 4 else 3) 0 []) := by
              intro D
              rw [f13_p3_eq, e123']
              by_cases h : c = 123
              · simp [h, clo]
              · simp [h, clo]
            rw [hp3]
            generalize hkk : (if c = 123 then (4 : Int) else 3) = k
            simp only [Option.bind_some, f13_p3_o0_x0_y, f13_p3_o0_x1_y, f13_p3_o0_x2_y, f13_p3_o0_x3_y, f13_p3_o0_x13_y, f13_p3_o0_r0_0_y, f13_p3_o0_r0_1_y, f13_p3_o0_r0_2_y, f13_p3_o0_r0_5_y, f13_p3_o0_r0_6_y, f13_p3_o0_r0_7_y, f13_p3_o0_r1_0_y, f13_p3_o0_r1_1_y, f13_p3_o0_r1_2_y]
            rw [nxb (by omega), sign_eq, Option.bind_some]
            have hloop := rloop a ha d (by omega) (f13_S m).1 (f13_S m).2 hG k 2001 (i + 1) (n + 1) (fuelOf f13_p2_sh (f13_p2_y a ((i + 1 : Nat) : Int) ((11 - d : Nat) : Int) ((n + 1 : Nat) : Int) ((clo k).toNat : Int) 0 0 [] 0 0 0 k 0 [] [] [])) [] [] hie (by omega) (fun q hq => by simp at hq) (by simp) (by simp) (by omega) (by rw [fuel_def]; omega)
            have hfin : ∀ r : List UInt8, r = a.drop (i + 1) → Res a (match openS k r with | .error e => .error e | .ok (.inl (v, r)) => .ok (v, r, n + 1) | .ok (.inr (f, r)) => itemsS (value d) 2001 f r (n + 1))
                ((go (f13_p2_st (f13_S m).1 (f13_S m).2) (f13_p2_y a ((i + 1 : Nat) : Int) ((12 - (d + 1) : Nat) : Int) ((n + 1 : Nat) : Int) ((clo k).toNat : Int) 0 0 [] 0 0 0 k 0 [] [] [])).bind fun o52 => some (((f13_p2_o0_r0_0 o52), ((f13_p2_o0_r0_1 o52), ((f13_p2_o0_r0_2 o52), ((f13_p2_o0_r0_3 o52), ((f13_p2_o0_r0_4 o52), ((f13_p2_o0_r0_5 o52), ((f13_p2_o0_r0_6 o52), ((f13_p2_o0_r0_7 o52), ())))))))), ())) := by
              intro r hr
              subst hr
              have hx : (match openS k (a.drop (i + 1)) with | .error e => .error e | .ok (.inl (v, r)) => .ok (v, r, n + 1) | .ok (.inr (f, r)) => itemsS (value d) 2001 f r (n + 1) : Except Int (V × List UInt8 × Nat)) = (match preK k [] (a.drop (i + 1)) with | .error e => .error e | .ok (ks, r) => itemsS (value d) 2001 ⟨k, 0, [], [], ks⟩ r (n + 1)) := by
                unfold openS preK
                by_cases h4 : k = 4
                · subst h4
                  simp only [if_true]
                  cases keyS [] (a.drop (i + 1)) with
                  | error e => rfl
                  | ok p => rfl
                · simp only [h4, if_false]
              rw [hx, show 12 - (d + 1) = 11 - d by omega]
              unfold go
              cases hm2 : (match preK k [] (a.drop (i + 1)) with | .error e => .error e | .ok (ks, r) => itemsS (value d) 2001 ⟨k, 0, [], [], ks⟩ r (n + 1) : Except Int (V × List UInt8 × Nat)) with
              | error er =>
                have hl2 : Out a (.error er) _ := hm2 ▸ (show Out a (match preK k [] (a.drop (i + 1)) with | .error e => .error e | .ok (ks, r) => itemsS (value d) 2001 ⟨k, 0, [], [], ks⟩ r (n + 1)) _ from hloop)
                obtain ⟨hne, v, j, cc, ho⟩ := hl2
                rw [ho]
                exact ⟨hne, v, j, cc, rfl⟩
              | ok q =>
                obtain ⟨v, t', n'⟩ := q
                have hl2 : Out a (.ok (v, t', n')) _ := hm2 ▸ (show Out a (match preK k [] (a.drop (i + 1)) with | .error e => .error e | .ok (ks, r) => itemsS (value d) 2001 ⟨k, 0, [], [], ks⟩ r (n + 1)) _ from hloop)
                obtain ⟨ho, hts⟩ := hl2
                rw [ho]
                exact ⟨rfl, hts⟩
            cases hr : a.drop (i + 1) with
            | nil =>
              simp only
              have hc : ((-1 : Int) == ((clo k).toNat : Int)) = false := by rw [beq_eq_false_iff_ne]; omega
              rw [hc, cond_false]
              exact hfin [] hr.symm
            | cons q r' =>
              simp only
              have ecl : ((q.toNat : Int) == ((clo k).toNat : Int)) = decide (q = clo k) := by
                rw [Bool.eq_iff_iff]; simp only [beq_iff_eq, decide_eq_true_eq]; rw [← UInt8.toNat_inj]; omega
              rw [ecl]
              by_cases hcl : q = clo k
              · simp only [hcl, decide_true, cond_true, if_true]
                have hl : r'.length + 1 = a.length - (i + 1) := by
                  have := congrArg List.length hr; simp only [List.length_drop, List.length_cons] at this; omega
                have : IntKind.i64.wrap (((i + 1 : Nat) : Int) + 1) = ((a.length - r'.length : Nat) : Int) := by rw [nxb (by omega)]; omega
                rw [this]
                exact ⟨rfl, (List.suffix_cons q r').trans (hr ▸ hsuf1)⟩
              · simp only [hcl, decide_false, cond_false, if_false]
                exact hfin (q :: r') hr.symm
          · simp only [hb, not_false_eq_true, decide_true, cond_true, if_false]
            rw [hw]
            exact ⟨by decide, v0, 0, 0, rfl⟩
end Go.Pe.Try
