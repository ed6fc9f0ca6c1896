/- The reference is the recursion. -/
import Derived.Test.YtgghmllnhaahgaaPePP8
namespace Go.Pe.Try
open Go.Proofs Go.RowKit
set_option maxRecDepth 100000
set_option linter.unusedSimpArgs false
set_option linter.unusedVariables false
def preK (k : Int) (keys : List (List UInt8)) (t : List UInt8) : Except Int (List (List UInt8) × List UInt8) := if k = 4 then keyS keys t else .ok (keys, t)
theorem itemsS_succ (G : List UInt8 → Nat → Except Int (V × List UInt8 × Nat)) (kk : Nat) (k : Int) (items : List V) (ks : List (List UInt8)) (t : List UInt8) (n : Nat) : itemsS G (kk + 1) ⟨k, 0, [], items, ks⟩ t n = match G t n with
    | .error e => .error e
    | .ok (v, t', n') => match t' with
      | [] => .error 3
      | c :: r => if c = 44 then (match preK k ks r with | .error e => .error e | .ok (ks', r') => itemsS G kk ⟨k, 0, [], items ++ [v], ks'⟩ r' n')
        else if c = clo k then .ok (⟨k, 0, [], items ++ [v], ks⟩, r, n') else .error 20 := by
  rw [itemsS]
  cases G t n with
  | error e => rfl
  | ok p =>
    obtain ⟨v, t', n'⟩ := p
    cases t' with
    | nil => rfl
    | cons c r =>
      simp only [V.kind, V.keys, preK]
      by_cases h : c = 44
      · simp only [h, if_true]
        by_cases h4 : k = 4
        · simp only [h4, if_true]; rfl
        · simp only [h4, if_false]; rfl
      · simp only [h, if_false]; rfl
theorem value_ok {d : Nat} (hd : d ≤ 12) {t : List UInt8} {n : Nat} (hn : n ≤ 2000) (ht : t.length ≤ 70000) {v : V} {t' : List UInt8} {n' : Nat} (h : value d t n = .ok (v, t', n')) : n < n' ∧ n' ≤ 2000 := by
  have := value_run d t n (List.replicate (12 - d) v0) 2002 (by simp; omega) hn (fun f hf => by rw [List.eq_of_mem_replicate hf]; simp [v0, V.items, V.keys]) ht (by omega)
  rw [h] at this
  exact ⟨this.2.1, this.2.2.1⟩
def Res (a : List UInt8) (x : Except Int (V × List UInt8 × Nat)) (o : Option (argsDen f13_rs)) : Prop := match x with
  | .error e => e ≠ 0 ∧ ∃ v j c, o = some (rv v j c e)
  | .ok (v, t', n') => o = some (rv v (a.length - t'.length) n' 0) ∧ t' <:+ a
def Out (a : List UInt8) (x : Except Int (V × List UInt8 × Nat)) (o : Option (OutDen f13_p2_outs)) : Prop := match x with
  | .error e => e ≠ 0 ∧ ∃ v : V, ∃ j c : Nat, o = some (f13_p2_o0_y v.kind v.n v.s v.items v.keys (j : Int) (c : Int) e)
  | .ok (v, t', n') => o = some (f13_p2_o0_y v.kind v.n v.s v.items v.keys ((a.length - t'.length : Nat) : Int) (n' : Int) 0) ∧ t' <:+ a
theorem preK_suf {k : Int} {keys ks : List (List UInt8)} {t r : List UInt8} (hk : okK keys) (h : preK k keys t = .ok (ks, r)) : r <:+ t ∧ okK ks ∧ ks.length ≤ keys.length + 1 := by
  unfold preK at h
  split at h
  · have h1 := keyS_suf hk h
    have h2 := keyS_len h
    exact ⟨h1.1, h1.2, by omega⟩
  · cases h; exact ⟨List.suffix_refl _, hk, by omega⟩
theorem rpre_eq (G : argsDen f13_ps → Option (argsDen f13_rs)) (hG : Sound Try.prog 13 (pfun G)) (a : List UInt8) (ha : a.length ≤ 70000) (d n c k : Int) (i : Nat) (hi : i ≤ a.length) (keys : List (List UInt8)) (items : List V) (hk : okK keys) (hl : keys.length ≤ 100000) :
    f13_p1_F G hG (f13_p1_y a (i : Int) d n c 0 0 [] 0 0 0 k 0 [] keys items) = some (match preK k keys (a.drop i) with
      | .error e => .inl (f13_p1_o0_y 0 0 [] [] [] 0 0 e)
      | .ok (ks, r) => .inr (f13_p1_o1_y a ((a.length - r.length : Nat) : Int) d n c 0 0 [] 0 0 0 k 0 [] ks items)) := by
  unfold preK
  by_cases h4 : k = 4
  · subst h4; simp only [if_true]; exact rkey_eq G hG a ha d n c i hi keys items hk hl
  · simp only [h4, if_false]
    rw [rkey_no G hG a d n c k _ keys items h4]
    have : a.length - (a.drop i).length = i := by simp; omega
    rw [this]
theorem rloop (a : List UInt8) (ha : a.length ≤ 70000) (d : Nat) (hd : d ≤ 11) (G : argsDen f13_ps → Option (argsDen f13_rs)) (hG : Sound Try.prog 13 (pfun G))
    (hS : ∀ i n : Nat, i ≤ a.length → n ≤ 2000 → Res a (value d (a.drop i) n) (G (a, ((i : Int), (((12 - d : Nat) : Int), ((n : Int), ())))))) (k : Int) :
    ∀ (kk i n K : Nat) (keys : List (List UInt8)) (items : List V), i ≤ a.length → n ≤ 2000 → okK keys → keys.length ≤ n + 1 → items.length ≤ n → 2001 ≤ kk + n → 2002 ≤ K + n →
    Out a (match preK k keys (a.drop i) with | .error e => .error e | .ok (ks, r) => itemsS (value d) kk ⟨k, 0, [], items, ks⟩ r n)
      (iter (f13_p2_st G hG) K (f13_p2_y a (i : Int) ((11 - d : Nat) : Int) (n : Int) ((clo k).toNat : Int) 0 0 [] 0 0 0 k 0 [] keys items)) := by
  intro kk
  induction kk with
  | zero => intro i n K keys items _ h2 _ _ _ h6; omega
  | succ kk ih =>
    intro i n K keys items hi hn hk hkl hil hkk hK
    obtain ⟨K, rfl⟩ : ∃ j, K = j + 1 := ⟨K - 1, by omega⟩
    rw [iter, f13_p2_eq, rpre_eq G hG a ha _ _ _ k i hi keys items hk (by omega)]
    cases hp : preK k keys (a.drop i) with
    | error e =>
      have hne : e ≠ 0 := by
        unfold preK at hp
        split at hp
        · exact keyS_err hp
        · cases hp
      exact ⟨hne, v0, 0, 0, by simp [v0, V.kind, V.n, V.s, V.items, V.keys]⟩
    | ok p =>
      obtain ⟨ks, r⟩ := p
      obtain ⟨hsf, hks, hksl⟩ := preK_suf hk hp
      obtain ⟨hr, hrl⟩ := suf_drop hsf
      simp only [Option.bind_some, f13_p1_o1_x0_y, f13_p1_o1_x1_y, f13_p1_o1_x2_y, f13_p1_o1_x3_y, f13_p1_o1_x13_y, f13_p1_o1_r0_0_y, f13_p1_o1_r0_1_y, f13_p1_o1_r0_2_y, f13_p1_o1_r0_5_y, f13_p1_o1_r0_6_y, f13_p1_o1_r0_7_y, f13_p1_o1_r1_0_y, f13_p1_o1_r1_1_y, f13_p1_o1_r1_2_y, f13_p1_o1_l0_y, f13_p1_o1_l1_y]
      rw [itemsS_succ, nxb (by omega), show 11 - d + 1 = 12 - d by omega]
      have hs := hS (a.length - r.length) n (by omega) hn
      rw [← hr] at hs
      cases hv : value d r n with
      | error e =>
        rw [hv] at hs
        obtain ⟨hne, v, j, c, hG1⟩ := hs
        rw [hG1]
        simp only [Option.bind_some, rv]
        rw [show (e != 0) = true by simpa using hne, cond_true]
        exact ⟨hne, v0, 0, 0, rfl⟩
      | ok q =>
        obtain ⟨v, t', n'⟩ := q
        rw [hv] at hs
        obtain ⟨hG1, hts⟩ := hs
        have hvo := value_ok (by omega) hn (by have := hsf.length_le; simp only [List.length_drop] at this; omega) hv
        have htd : t' = a.drop (a.length - t'.length) := List.suffix_iff_eq_drop.1 hts
        have htl := hts.length_le
        rw [hG1]
        simp only [Option.bind_some, rv]
        rw [show ((0 : Int) != 0) = false by decide, cond_false, appOk_lt (by simp; omega), sign_eq, ← htd]
        have hvv : V.mk v.kind v.n v.s v.items v.keys = v := by cases v; rfl
        have hw := wrong_eq a (a.length - t'.length)
        rw [← htd] at hw
        simp only [Option.bind_some, hvv]
        cases t' with
        | nil =>
          simp only at hw ⊢
          have hc : ((-1 : Int) == ((clo k).toNat : Int)) = false := by rw [beq_eq_false_iff_ne]; omega
          rw [hc, cond_false]
          rw [show ((-1 : Int) != 44) = true by decide, cond_true, hw]
          exact ⟨by decide, v0, 0, 0, rfl⟩
        | cons q r2 =>
          simp only [List.length_cons] at htl hw htd ⊢
          have ecl : ((q.toNat : Int) == ((clo k).toNat : Int)) = decide (q = clo k) := by
            rw [Bool.eq_iff_iff]; simp only [beq_iff_eq, decide_eq_true_eq]; rw [← UInt8.toNat_inj]; omega
          have e44 : ((q.toNat : Int) != 44) = decide (¬ q = 44) := by
            rw [Bool.eq_iff_iff]; simp only [bne_iff, decide_eq_true_eq]; rw [← UInt8.toNat_inj]; simp only [UInt8.reduceToNat]; omega
          have hidx : a.length - (r2.length + 1) + 1 = a.length - r2.length := by omega
          have hr2 : r2 <:+ a := (List.suffix_cons _ _).trans hts
          have hr2d : r2 = a.drop (a.length - r2.length) := List.suffix_iff_eq_drop.1 hr2
          rw [ecl, e44, nxb (by omega), hidx]
          by_cases h44 : q = 44
          · subst h44
            have hnc : ¬ (44 : UInt8) = clo k := fun h => clo_ne k h.symm
            simp only [hnc, decide_false, cond_false, Option.bind_some, not_true_eq_false, if_true]
            have := ih (a.length - r2.length) n' K ks (items ++ [v]) (by omega) hvo.2 hks (by omega) (by simp; omega) (by omega) (by omega)
            rw [← hr2d] at this
            exact this
          · by_cases hcl : q = clo k
            · simp only [hcl, decide_true, cond_true, h44, if_false]
              have hc44 : ¬ clo k = 44 := clo_ne k
              rw [if_neg hc44, if_pos trivial]
              exact ⟨rfl, hr2⟩
            · simp only [hcl, decide_false, cond_false, Option.bind_some, h44, not_false_eq_true, decide_true, cond_true, if_false]
              rw [hw]
              exact ⟨by decide, v0, 0, 0, rfl⟩
end Go.Pe.Try
