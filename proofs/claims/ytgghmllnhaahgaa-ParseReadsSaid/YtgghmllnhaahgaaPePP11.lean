/- The law ParseReads. -/
import Derived.Test.YtgghmllnhaahgaaPePP10
namespace Go.Pe.Try
open Go.Proofs Go.RowKit
set_option maxRecDepth 100000
set_option linter.unusedSimpArgs false
set_option linter.unusedVariables false
def okV : Nat → V → Prop
  | 0, _ => False
  | d + 1, v => v.items.length ≤ 3000 ∧ v.keys.length ≤ 3000 ∧ ∀ x ∈ v.items, okV d x
theorem items_okV (d : Nat) (hd : d ≤ 12) (hG : ∀ t n v t' n', value d t n = .ok (v, t', n') → t.length ≤ 70000 → n ≤ 2000 → okV d v) :
    ∀ (kk : Nat) (f : V) (t : List UInt8) (n : Nat) (v : V) (t' : List UInt8) (n' : Nat), n ≤ 2000 → t.length ≤ 70000 → (∀ x ∈ f.items, okV d x) → f.items.length ≤ n → f.keys.length ≤ n + 1 → itemsS (value d) kk f t n = .ok (v, t', n') → okV (d + 1) v := by
  intro kk
  induction kk with
  | zero => intro f t n v t' n' _ _ _ _ _ h; cases h
  | succ kk ih =>
    intro f t n v t' n' hn ht hf hfi hfk h
    unfold itemsS at h
    split at h
    · cases h
    · rename_i v1 t1 n1 hv
      have hvo := value_ok hd hn ht hv
      have hvl : t1.length ≤ t.length := by
        have := value_run d t n (List.replicate (12 - d) v0) 2002 (by simp; omega) hn (fun f hf => by rw [List.eq_of_mem_replicate hf]; simp [v0, V.items, V.keys]) ht (by omega)
        rw [hv] at this
        exact this.1
      have hx := hG _ _ _ _ _ hv ht hn
      have hall : ∀ x ∈ (addV f v1).items, okV d x := fun x hxm => by
        have hxm : x ∈ f.items ++ [v1] := hxm
        rcases List.mem_append.1 hxm with h | h
        · exact hf x h
        · simp at h; subst h; exact hx
      have hal : (addV f v1).items.length ≤ n1 := by show (f.items ++ [v1]).length ≤ n1; simp; omega
      have hak : (addV f v1).keys.length ≤ n1 + 1 := by show f.keys.length ≤ n1 + 1; omega
      split at h
      · cases h
      · rename_i c r
        simp only [List.length_cons] at hvl
        split at h
        · split at h
          · split at h
            · cases h
            · rename_i ks r' hks
              have hkl := keyS_len hks
              exact ih (withK (addV f v1) ks) _ _ _ _ _ hvo.2 (by omega) hall hal (show ks.length ≤ n1 + 1 by omega) h
          · exact ih _ _ _ _ _ _ hvo.2 (by omega) hall hal hak h
        · split at h
          · cases h
            exact ⟨by omega, by omega, hall⟩
          · cases h
theorem value_okV : ∀ (d : Nat), d ≤ 12 → ∀ (t : List UInt8) (n : Nat) (v : V) (t' : List UInt8) (n' : Nat), value d t n = .ok (v, t', n') → t.length ≤ 70000 → n ≤ 2000 → okV d v := by
  intro d
  induction d with
  | zero => intro _ t n v t' n' h; cases h
  | succ d ih =>
    intro hd t n v t' n' h ht hn
    unfold value at h
    split at h
    · cases h
    · rename_i v1 r hb
      cases h
      have hleaf : ∀ v r, beginS (11 - d) n t = .ok (.inl (v, r)) → v.items = [] ∧ v.keys = [] := by
        intro v r hb
        unfold beginS at hb
        split at hb
        · cases hb
        · split at hb
          · cases hb
          · cases t with
            | nil => cases hb
            | cons c r0 =>
              simp only at hb
              split at hb
              · split at hb
                · cases hb
                · cases hb; exact ⟨rfl, rfl⟩
              · split at hb
                · split at hb
                  · cases hb
                  · cases hb; exact ⟨rfl, rfl⟩
                · split at hb
                  · generalize (if c = 123 then (4 : Int) else 3) = k at hb
                    cases r0 with
                    | nil => obtain ⟨_, _, e, _⟩ := openS_ok hb; cases e
                    | cons q r' =>
                      simp only at hb
                      split at hb
                      · cases hb; exact ⟨rfl, rfl⟩
                      · obtain ⟨_, _, e, _⟩ := openS_ok hb; cases e
                  · cases hb
      obtain ⟨h1, h2⟩ := hleaf _ _ hb
      exact ⟨by rw [h1]; simp, by rw [h2]; simp, by rw [h1]; simp⟩
    · rename_i f r hb
      have hbo := beginS_ok hb
      simp only at hbo
      exact items_okV d (by omega) (fun t n v t' n' h1 h2 h3 => ih (by omega) t n v t' n' h1 h2 h3) 2001 f r (n + 1) v t' n' (by omega) (by omega) (by rw [hbo.2.2.1]; simp) (by rw [hbo.2.2.1]; simp) (by omega) h
def va (v : V) : Int × Int × List UInt8 × List V × List (List UInt8) × Unit := (v.kind, (v.n, (v.s, (v.items, (v.keys, ())))))
theorem f8_next (n : Nat) : (f8_S (n + 1)).1 = f8_b (f8_S n).1 (f8_S n).2 := by kernel_rfl
theorem same_self : ∀ (d m : Nat) (v : V), okV d v → d ≤ m → (f8_S m).1 (va v, (va v, ())) = some (true, ())
  | 0, m, v, h, _ => h.elim
  | d + 1, m, v, h, hm => by
    obtain ⟨m, rfl⟩ : ∃ j, m = j + 1 := ⟨m - 1, by omega⟩
    obtain ⟨h1, h2, h3⟩ := h
    have hi := fun x hx => same_self d m x (h3 x hx) (by omega)
    rw [f8_next]
    show f8_b _ _ ((v.kind, (v.n, (v.s, (v.items, (v.keys, ()))))), ((v.kind, (v.n, (v.s, (v.items, (v.keys, ()))))), ())) = _
    rw [f8_eq]
    have hp2 : f8_p2_F (f8_S m).1 (f8_S m).2 (f8_p2_y v.kind v.n v.s v.items v.keys v.kind v.n v.s v.items v.keys) = some (f8_p2_o0_y false v.kind v.n v.s v.items v.keys v.kind v.n v.s v.items v.keys) := by
      rw [f8_p2_eq]; simp
    have hk : ∀ X, go (f8_p1_st (f8_S m).1 (f8_S m).2) (f8_p1_y (v.keys.length : Int) 0 v.kind v.n v.s v.items v.keys v.kind v.n v.s v.items v.keys) = X → X = some (.inl (f8_p1_o0_y v.kind v.n v.s v.items v.keys v.kind v.n v.s v.items v.keys)) := by
      intro X hX
      rw [← hX]
      refine go_seq (y := fun i => f8_p1_y (v.keys.length : Int) (i : Int) v.kind v.n v.s v.items v.keys v.kind v.n v.s v.items v.keys) (n := v.keys.length) (fun i hi rec => ?_) (fun rec => ?_) (by rw [fuel_def]; omega)
      · rw [f8_p1_eq, lt_t hi, cond_true, nth_lt hi, Option.bind_some, Option.bind_some, bne_self_eq_false, cond_false, nxb (by omega)]
      · rw [f8_p1_eq]; simp
    have hit : ∀ X, go (f8_p0_st (f8_S m).1 (f8_S m).2) (f8_p0_y (v.items.length : Int) 0 v.kind v.n v.s v.items v.keys v.kind v.n v.s v.items v.keys) = X → X = some (.inl f8_p0_o0_y) := by
      intro X hX
      rw [← hX]
      refine go_seq (y := fun i => f8_p0_y (v.items.length : Int) (i : Int) v.kind v.n v.s v.items v.keys v.kind v.n v.s v.items v.keys) (n := v.items.length) (fun i hi' rec => ?_) (fun rec => ?_) (by rw [fuel_def]; omega)
      · have hs := hi v.items[i] (List.getElem_mem hi')
        unfold va at hs
        rw [f8_p0_eq, lt_t hi', cond_true, nth_lt hi', Option.bind_some, Option.bind_some, hs, Option.bind_some]
        simp only [Bool.not_true, cond_false]
        rw [nxb (by omega)]
      · rw [f8_p0_eq]; simp
    rw [hp2]
    simp only [Option.bind_some, f8_p2_o0_x43_y, cond_false, f8_p2_o0_r0_0_y, f8_p2_o0_r0_1_y, f8_p2_o0_r0_2_y, f8_p2_o0_r0_3_y, f8_p2_o0_r0_4_y, f8_p2_o0_r1_0_y, f8_p2_o0_r1_1_y, f8_p2_o0_r1_2_y, f8_p2_o0_r1_3_y, f8_p2_o0_r1_4_y]
    rw [hk _ rfl]
    simp only [Option.bind_some, f8_p1_o0_r0_0_y, f8_p1_o0_r0_1_y, f8_p1_o0_r0_2_y, f8_p1_o0_r0_3_y, f8_p1_o0_r0_4_y, f8_p1_o0_r1_0_y, f8_p1_o0_r1_1_y, f8_p1_o0_r1_2_y, f8_p1_o0_r1_3_y, f8_p1_o0_r1_4_y]
    rw [hit _ rfl]
    rfl
/-! ### Both parsers -/
def parseS (s : List UInt8) : V × Int := if 65536 < s.length then (v0, 2) else match value 12 s 0 with
  | .error e => (v0, e)
  | .ok (v, t', _) => if t' = [] then (v, 0) else (v0, 20)
theorem parse_eq (s : List UInt8) : f5_F (s, ()) = some (va (parseS s).1, ((parseS s).2, ())) := by
  unfold f5_F parseS
  by_cases h : 65536 < s.length
  · simp only [h, if_true]; rfl
  · simp only [h, if_false]
    rw [read_eq s (by omega)]
    cases value 12 s 0 with
    | error e => rfl
    | ok p =>
      obtain ⟨v, t', n⟩ := p
      simp only [Option.bind_some, h11_o_r0_0_y]
      by_cases ht : t' = []
      · simp only [ht, if_true]; rfl
      · simp only [ht, if_false]; rfl
theorem rparse_eq (s : List UInt8) : f6_F (s, ()) = some (va (parseS s).1, ((parseS s).2, ())) := by
  rw [f6_eq]
  unfold parseS
  by_cases h : 65536 < s.length
  · have : ((s.length : Int) > 65536) := by omega
    simp only [this, h, decide_true, cond_true, if_true]; rfl
  · have : ¬ ((s.length : Int) > 65536) := by omega
    simp only [this, h, decide_false, cond_false, if_false]
    have hr := rvalue s (by omega) 12 recN 0 0 (by omega) (by rw [recN_eq]; omega) (by omega) (by omega)
    have hf : (f13_S recN).1 (s, (((0 : Nat) : Int), (((12 - 12 : Nat) : Int), (((0 : Nat) : Int), ())))) = f13_F (s, (0, (0, (0, ())))) := rfl
    rw [hf, List.drop_zero] at hr
    cases hv : value 12 s 0 with
    | error e =>
      rw [hv] at hr
      obtain ⟨hne, v, j, c, ho⟩ := hr
      rw [ho]
      simp only [Option.bind_some, rv]
      rw [show (e != 0) = true by simpa using hne]; rfl
    | ok p =>
      obtain ⟨v, t', n⟩ := p
      rw [hv] at hr
      obtain ⟨ho, hts⟩ := hr
      have hl := hts.length_le
      rw [ho]
      simp only [Option.bind_some, rv]
      rw [show ((0 : Int) != 0) = false by decide, cond_false]
      by_cases ht : t' = []
      · subst ht
        have : ¬ (((s.length - ([] : List UInt8).length : Nat) : Int) < (s.length : Int)) := by simp
        simp only [this, decide_false, cond_false, if_true]; rfl
      · have h0 : 0 < t'.length := List.length_pos_iff.2 ht
        have : (((s.length - t'.length : Nat) : Int) < (s.length : Int)) := by omega
        simp only [this, decide_true, cond_true, ht, if_false]; rfl
theorem parseS_okV (s : List UInt8) : okV 12 (parseS s).1 := by
  have hz : okV 12 v0 := ⟨by simp [v0, V.items], by simp [v0, V.keys], by simp [v0, V.items]⟩
  unfold parseS
  split
  · exact hz
  · split
    · exact hz
    · rename_i h v t' n hv
      split
      · exact value_okV 12 (Nat.le_refl _) s 0 v t' n hv (by omega) (by omega)
      · exact hz
theorem alive_eq : f7_F () = some (true, ()) := by
  rw [f7_eq, parse_eq]
  have : parseS [91, 49, 44, 34, 97, 34, 93] = (⟨3, 0, [], [⟨1, 1, [], [], []⟩, ⟨2, 0, [97], [], []⟩], []⟩, 0) := by kernel_rfl
  rw [this]
  rfl
theorem law (s : List UInt8) : f3_F (s, ()) = some (true, ()) := by
  rw [f3_eq]
  have hm : minI (s.length : Int) (66000 : Int) = ((min s.length 66000 : Nat) : Int) := minI_nat s.length 66000
  rw [hm, cutHi_nat' _ _ _ (Nat.min_le_left _ _)]
  generalize s.take (min s.length 66000) = t
  rw [parse_eq, rparse_eq, alive_eq]
  have hs : f8_F (va (parseS t).1, (va (parseS t).1, ())) = some (true, ()) := same_self 12 recN _ (parseS_okV t) (by rw [recN_eq]; omega)
  simp only [Option.bind_some, cond_true, BEq.rfl]
  unfold va at hs ⊢
  simp only at hs ⊢
  rw [hs]
  rfl
end Go.Pe.Try
