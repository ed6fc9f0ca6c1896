/- The parser is the recursion. -/
import Derived.Test.YtgghmllnhaahgaaPePP6
namespace Go.Pe.Try
open Go.Proofs Go.RowKit
set_option maxRecDepth 100000
set_option linter.unusedSimpArgs false
set_option linter.unusedVariables false
theorem openS_ok {k : Int} {r : List UInt8} {x : (V × List UInt8) ⊕ (V × List UInt8)} (h : openS k r = .ok x) : ∃ f r', x = .inr (f, r') ∧ r'.length ≤ r.length ∧ f.items = [] ∧ f.keys.length ≤ 1 := by
  unfold openS at h
  split at h
  · split at h
    · cases h
    · rename_i ks r' hk
      cases h
      have := keyS_len hk
      exact ⟨_, _, rfl, this.1, rfl, by simp only [V.keys]; simp at this; omega⟩
  · cases h; exact ⟨_, _, rfl, Nat.le_refl _, rfl, by simp [V.keys]⟩
theorem beginS_ok {d n : Nat} {t : List UInt8} {x : (V × List UInt8) ⊕ (V × List UInt8)} (h : beginS d n t = .ok x) : n ≠ 2000 ∧ match x with
    | .inl (v, r) => r.length ≤ t.length
    | .inr (f, r) => r.length ≤ t.length ∧ f.items = [] ∧ f.keys.length ≤ 1 := by
  unfold beginS at h
  split at h
  · cases h
  · split at h
    · cases h
    · rename_i hn
      refine ⟨hn, ?_⟩
      cases t with
      | nil => cases h
      | cons c r =>
        simp only at h
        generalize (if c = 123 then (4 : Int) else 3) = k at h
        split at h
        · split at h
          · cases h
          · rename_i v r' hnum
            cases h; exact num_len hnum
        · split at h
          · split at h
            · cases h
            · rename_i s r' htx
              cases h; have := txt_len _ (Nat.le_refl _) htx; simp only [List.length_cons]; omega
          · split at h
            · cases r with
              | nil =>
                obtain ⟨f, r', rfl, h1, h2, h3⟩ := openS_ok h
                exact ⟨by simp only [List.length_cons, List.length_nil] at h1 ⊢; omega, h2, h3⟩
              | cons d r' =>
                simp only at h
                split at h
                · cases h; simp only [List.length_cons]; omega
                · obtain ⟨f, r', rfl, h1, h2, h3⟩ := openS_ok h
                  exact ⟨by simp only [List.length_cons] at h1 ⊢; omega, h2, h3⟩
            · cases h
theorem round_eq (t : List UInt8) (ht : t.length ≤ 70000) (n : Nat) (hn : n ≤ 2000) (rs : List V) (hl : rs.length ≤ 12) (hb : ∀ f ∈ rs, f.items.length ≤ 100000 ∧ f.keys.length ≤ 100000) (rec : h11_p1_sh.den → Option (OutDen h11_p1_outs)) :
    h11_p1_st rec (h11_p1_y t (n : Int) rs.reverse 0 0 []) = match beginS rs.length n t with
      | .error e => some (.inl (h11_p1_o0_y e))
      | .ok (.inl (v, r)) => (match closeM v r rs with
          | .error e => some (.inl (h11_p1_o0_y e))
          | .ok (.inl (v, t)) => some (.inr (h11_p1_o1_y t ((n + 1 : Nat) : Int) [] v.kind v.n v.s v.items v.keys))
          | .ok (.inr (t, rs)) => rec (h11_p1_y t ((n + 1 : Nat) : Int) rs.reverse 0 0 []))
      | .ok (.inr (f, r)) => rec (h11_p1_y r ((n + 1 : Nat) : Int) (f :: rs).reverse 0 0 []) := by
  rw [h11_p1_eq, begin_eq t ht n hn rs.reverse (by simp; omega), List.length_reverse]
  cases hbg : beginS rs.length n t with
  | error e => simp
  | ok x =>
    cases x with
    | inl p =>
      obtain ⟨v, r⟩ := p
      simp only [Option.bind_some, h20_o_x1_y, h20_o_r0_0_y, h20_o_r0_1_y, h20_o_r0_2_y, h20_o_x0_0_y, h20_o_x0_1_y, h20_o_x0_2_y, h20_o_x0_3_y, h20_o_x0_4_y]
      unfold go
      rw [inner_eq _ 0 0 [] rs v r _ (by omega) hb (by rw [fuel_def]; omega)]
      cases closeM v r rs with
      | error e => simp
      | ok y =>
        cases y with
        | inl p => simp
        | inr p => simp
    | inr p =>
      obtain ⟨f, r⟩ := p
      simp only [Option.bind_some, h20_o_x1_y, h20_o_r0_0_y, h20_o_r0_1_y, h20_o_r0_2_y, h20_o_x0_0_y, h20_o_x0_1_y, h20_o_x0_2_y, h20_o_x0_3_y, h20_o_x0_4_y]
      have hf : ∀ y : h11_p0_sh.den, ∃ m, fuelOf h11_p0_sh y = m + 1 := fun y => ⟨fuelOf h11_p0_sh y - 1, by rw [fuel_def]; omega⟩
      unfold go
      obtain ⟨m, hm⟩ := hf (h11_p0_y false r ((n + 1 : Nat) : Int) (rs.reverse ++ [f]) 0 0 [] 0 0 [] [] [])
      rw [hm, iter, h11_p0_eq]
      simp
noncomputable def cont (K : Nat) (v : V) (t : List UInt8) (n : Nat) (rs : List V) : Option (OutDen h11_p1_outs) := match closeM v t rs with
  | .error e => some (.inl (h11_p1_o0_y e))
  | .ok (.inl (v, t)) => some (.inr (h11_p1_o1_y t (n : Int) [] v.kind v.n v.s v.items v.keys))
  | .ok (.inr (t, rs)) => iter h11_p1_st K (h11_p1_y t (n : Int) rs.reverse 0 0 [])
def okS (n : Nat) (rs : List V) : Prop := ∀ f ∈ rs, f.items.length ≤ n ∧ f.keys.length ≤ n + 1
theorem okS.mono {n m : Nat} {rs : List V} (h : okS n rs) (hm : n ≤ m) : okS m rs := fun f hf => ⟨Nat.le_trans (h f hf).1 hm, by have := (h f hf).2; omega⟩
def Run (K : Nat) (t : List UInt8) (n : Nat) (rs rs0 : List V) (x : Except Int (V × List UInt8 × Nat)) : Prop := match x with
  | .error e => iter h11_p1_st K (h11_p1_y t (n : Int) rs.reverse 0 0 []) = some (.inl (h11_p1_o0_y e))
  | .ok (v, t', n') => t'.length ≤ t.length ∧ n < n' ∧ n' ≤ 2000 ∧ iter h11_p1_st K (h11_p1_y t (n : Int) rs.reverse 0 0 []) = cont (K - (n' - n)) v t' n' rs0
theorem items_run (G : List UInt8 → Nat → Except Int (V × List UInt8 × Nat)) (rs : List V)
    (hG : ∀ f t n K, n ≤ 2000 → okS n (f :: rs) → t.length ≤ 70000 → 2002 ≤ K + n → Run K t n (f :: rs) (f :: rs) (G t n)) :
    ∀ (k : Nat) (f : V) (t : List UInt8) (n K : Nat), n ≤ 2000 → okS n (f :: rs) → t.length ≤ 70000 → 2002 ≤ K + n → 2001 ≤ k + n → Run K t n (f :: rs) rs (itemsS G k f t n) := by
  intro k
  induction k with
  | zero => intro f t n K h1 _ _ _ h5; omega
  | succ k ih =>
    intro f t n K h1 h2 h3 h4 h5
    have hg := hG f t n K h1 h2 h3 h4
    unfold itemsS
    cases hGt : G t n with
    | error e => rw [hGt] at hg; exact hg
    | ok p =>
      obtain ⟨v, t', n'⟩ := p
      rw [hGt] at hg
      obtain ⟨g1, g2, g3, g4⟩ := hg
      have hf := h2 f (by simp)
      have hfa : (addV f v).items.length ≤ n' ∧ (addV f v).keys.length ≤ n' + 1 := ⟨by show (f.items ++ [v]).length ≤ n'; simp only [List.length_append, List.length_singleton]; omega, by show f.keys.length ≤ n' + 1; omega⟩
      simp only
      cases t' with
      | nil =>
        simp only [Run]; rw [g4]; unfold cont closeM; rfl
      | cons c r =>
        simp only [List.length_cons] at g1
        simp only
        by_cases h44 : c = 44
        · simp only [h44, if_true]
          by_cases hk4 : f.kind = 4
          · simp only [hk4, if_true]
            cases hks : keyS f.keys r with
            | error e => simp only [Run]; rw [g4]; unfold cont closeM; simp [h44, hk4, hks]
            | ok p =>
              obtain ⟨ks, r'⟩ := p
              simp only
              have hkl := keyS_len hks
              have hok : okS n' (withK (addV f v) ks :: rs) := fun g hg' => by
                rcases List.mem_cons.1 hg' with rfl | hg'
                · exact ⟨show (addV f v).items.length ≤ n' from hfa.1, by show ks.length ≤ n' + 1; omega⟩
                · exact (h2.mono (by omega)) g (by simp [hg'])
              have hr := ih (withK (addV f v) ks) r' n' (K - (n' - n)) g3 hok (by omega) (by omega) (by omega)
              have hstep : iter h11_p1_st K (h11_p1_y t (n : Int) (f :: rs).reverse 0 0 []) = iter h11_p1_st (K - (n' - n)) (h11_p1_y r' (n' : Int) (withK (addV f v) ks :: rs).reverse 0 0 []) := by
                rw [g4]; unfold cont closeM; simp only [h44, if_true, hk4, hks]
              cases hi : itemsS G k (withK (addV f v) ks) r' n' with
              | error e => rw [hi] at hr; simp only [Run] at hr ⊢; rw [hstep]; exact hr
              | ok q =>
                obtain ⟨v2, t2, n2⟩ := q
                rw [hi] at hr
                obtain ⟨q1, q2, q3, q4⟩ := hr
                refine ⟨by omega, by omega, q3, ?_⟩
                rw [hstep, q4, show K - (n' - n) - (n2 - n') = K - (n2 - n) by omega]
          · simp only [hk4, if_false]
            have hok : okS n' (addV f v :: rs) := fun g hg' => by
              rcases List.mem_cons.1 hg' with rfl | hg'
              · exact hfa
              · exact (h2.mono (by omega)) g (by simp [hg'])
            have hr := ih (addV f v) r n' (K - (n' - n)) g3 hok (by omega) (by omega) (by omega)
            have hstep : iter h11_p1_st K (h11_p1_y t (n : Int) (f :: rs).reverse 0 0 []) = iter h11_p1_st (K - (n' - n)) (h11_p1_y r (n' : Int) (addV f v :: rs).reverse 0 0 []) := by
              rw [g4]; unfold cont closeM; simp only [h44, if_true, hk4, if_false]
            cases hi : itemsS G k (addV f v) r n' with
            | error e => rw [hi] at hr; simp only [Run] at hr ⊢; rw [hstep]; exact hr
            | ok q =>
              obtain ⟨v2, t2, n2⟩ := q
              rw [hi] at hr
              obtain ⟨q1, q2, q3, q4⟩ := hr
              refine ⟨by omega, by omega, q3, ?_⟩
              rw [hstep, q4, show K - (n' - n) - (n2 - n') = K - (n2 - n) by omega]
        · simp only [h44, if_false]
          by_cases hc : c = clo f.kind
          · rw [if_pos hc]
            refine ⟨by omega, g2, g3, ?_⟩
            rw [g4]; unfold cont; rw [closeM]; simp only [h44, if_false]; rw [if_pos hc]
          · rw [if_neg hc]
            simp only [Run]; rw [g4]; unfold cont closeM; simp [h44, hc]
theorem value_run : ∀ (d : Nat) (t : List UInt8) (n : Nat) (rs : List V) (K : Nat), rs.length + d = 12 → n ≤ 2000 → okS n rs → t.length ≤ 70000 → 2002 ≤ K + n → Run K t n rs rs (value d t n) := by
  intro d
  induction d with
  | zero =>
    intro t n rs K hl hn hok ht hK
    obtain ⟨K, rfl⟩ : ∃ j, K = j + 1 := ⟨K - 1, by omega⟩
    have hb : ∀ f ∈ rs, f.items.length ≤ 100000 ∧ f.keys.length ≤ 100000 := fun f hf => by have := hok f hf; omega
    simp only [value, Run]
    rw [iter, round_eq t ht n hn rs (by omega) hb]
    have : beginS rs.length n t = .error 21 := by unfold beginS; rw [if_pos (by omega)]
    rw [this]
  | succ d ih =>
    intro t n rs K hl hn hok ht hK
    obtain ⟨K, rfl⟩ : ∃ j, K = j + 1 := ⟨K - 1, by omega⟩
    have hb : ∀ f ∈ rs, f.items.length ≤ 100000 ∧ f.keys.length ≤ 100000 := fun f hf => by have := hok f hf; omega
    have hstep := round_eq t ht n hn rs (by omega) hb (iter h11_p1_st K)
    have hit : iter h11_p1_st (K + 1) (h11_p1_y t (n : Int) rs.reverse 0 0 []) = h11_p1_st (iter h11_p1_st K) (h11_p1_y t (n : Int) rs.reverse 0 0 []) := by rw [iter]
    have hd : 11 - d = rs.length := by omega
    unfold value
    rw [hd]
    cases hbg : beginS rs.length n t with
    | error e => rw [hbg] at hstep; simp only [Run]; rw [hit, hstep]
    | ok x =>
      rw [hbg] at hstep
      have hbo := beginS_ok hbg
      cases x with
      | inl p =>
        obtain ⟨v, r⟩ := p
        simp only at hbo hstep
        refine ⟨hbo.2, by omega, by omega, ?_⟩
        rw [hit, hstep]
        have : K + 1 - (n + 1 - n) = K := by omega
        rw [this]; rfl
      | inr p =>
        obtain ⟨f, r⟩ := p
        simp only at hbo hstep
        obtain ⟨hn2, hrl, hfi, hfk⟩ := hbo
        have hok' : okS (n + 1) (f :: rs) := fun g hg => by
          rcases List.mem_cons.1 hg with rfl | hg
          · exact ⟨by rw [hfi]; simp, by omega⟩
          · exact (hok.mono (by omega)) g hg
        have hr := items_run (value d) rs (fun f t n K h1 h2 h3 h4 => ih t n (f :: rs) K (by simp only [List.length_cons]; omega) h1 h2 h3 h4) 2001 f r (n + 1) K (by omega) hok' (by omega) (by omega) (by omega)
        simp only
        cases hi : itemsS (value d) 2001 f r (n + 1) with
        | error e => rw [hi] at hr; simp only [Run] at hr ⊢; rw [hit, hstep]; exact hr
        | ok q =>
          obtain ⟨v2, t2, n2⟩ := q
          rw [hi] at hr
          obtain ⟨q1, q2, q3, q4⟩ := hr
          refine ⟨by omega, by omega, q3, ?_⟩
          rw [hit, hstep, q4, show K + 1 - (n2 - n) = K - (n2 - (n + 1)) by omega]
/-- The parser's value. -/
theorem read_eq (t : List UInt8) (ht : t.length ≤ 70000) : h11_F (h11_y t 0 []) = some (match value 12 t 0 with
    | .error e => .inr (h11_z_y e)
    | .ok (v, t', n) => .inl (h11_o_y v.kind v.n v.s v.items v.keys t' (n : Int) [])) := by
  have h := value_run 12 t 0 [] (fuelOf h11_p1_sh (h11_p1_y t ((0 : Nat) : Int) ([] : List V).reverse 0 0 [])) rfl (by omega) (fun f hf => by simp at hf) ht (by rw [fuel_def]; omega)
  rw [h11_eq]
  unfold go
  cases hv : value 12 t 0 with
  | error e =>
    rw [hv] at h
    simp only [Run] at h
    have h' : iter h11_p1_st (fuelOf h11_p1_sh (h11_p1_y t 0 [] 0 0 [])) (h11_p1_y t 0 [] 0 0 []) = _ := h
    rw [h']; simp
  | ok p =>
    obtain ⟨v, t', n'⟩ := p
    rw [hv] at h
    obtain ⟨_, _, _, h⟩ := h
    have h' : iter h11_p1_st (fuelOf h11_p1_sh (h11_p1_y t 0 [] 0 0 [])) (h11_p1_y t 0 [] 0 0 []) = _ := h
    rw [h']; simp [cont, closeM]
end Go.Pe.Try
