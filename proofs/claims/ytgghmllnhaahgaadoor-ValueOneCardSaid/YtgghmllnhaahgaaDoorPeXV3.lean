/- Values: which may be. -/
import Derived.Test.YtgghmllnhaahgaaDoorPeXV2
set_option linter.unusedSectionVars false
set_option linter.unusedVariables false
set_option linter.unusedSimpArgs false
namespace Go.Pe.Tryd
open Go.Proofs Go.RowKit
set_option maxRecDepth 100000
theorem fuel0 (t : Ty) (r : List SAV) (x : t.den) (z : SAVs.den r) : t.fuel x ≤ fuelL (.hole t :: r) (x, z) := by
  simp only [fuelL, SAV.fuel]; omega
def ctl (b : UInt8) : Bool := decide ((b.toNat : Int) < 32)
def tok (s : List UInt8) : Bool := decide (s.length ≤ 4000) && !s.any ctl
theorem findIdx_any {α : Type} (p : α → Bool) (l : List α) : (l.findIdx? p).isSome = l.any p := by
  rw [Bool.eq_iff_iff, List.any_eq_true]; simp
theorem nth_bytes {s : List UInt8} {i : Nat} (h : i < s.length) : nth (bytesOf s) (i : Int) = some ((s[i].toNat : Nat) : Int) := by
  rw [nth_nat]; simp [bytesOf, h]
theorem h74_is (s : List UInt8) (h : s.length ≤ 4000) : h74_F (h74_y (bytesOf s)) = some (h74_o_y (s.any ctl)) := by
  rw [h74_eq, h99_eq]
  have hb : ((bytesOf s).length : Int) = (s.length : Int) := by simp [bytesOf]
  rw [hb]
  have e := go_scan (step := h99_p0_st) (l := s) (fun i => h99_p0_y (bytesOf s) (s.length : Int) (i : Int)) ctl (fun i => some (.inr (h99_p0_o1_y (i : Int)))) (some (.inl h99_p0_o0_y)) (fun i hi rec => by
    rw [h99_p0_eq, lt_t hi, cond_true, nth_bytes hi, Option.bind_some, f75_eq, Option.bind_some]
    dsimp only
    rw [nx (by omega)]; rfl) (fun rec => by rw [h99_p0_eq]; simp only [Int.lt_irrefl, decide_false, cond_false]) (by rw [fuel_def]; omega)
  have e' : go h99_p0_st (h99_p0_y (bytesOf s) (s.length : Int) (0 : Int)) = _ := e
  rw [e', ← findIdx_any]
  cases s.findIdx? ctl with
  | none => rfl
  | some k =>
    simp only [Option.bind_some, h99_p0_o1_x4_y, h99_o_x0_y, Option.isSome_some]
    have : decide ((k : Int) ≥ 0) = true := by simp
    rw [this]
theorem f57_ok' (s : List UInt8) : f57_F (s, ()) = some (tok s, ()) := by
  rw [f57_eq]
  by_cases h : s.length ≤ 4000
  · have : decide ((s.length : Int) ≤ 4000) = true := by simp; omega
    rw [this, cond_true, h74_is s h, Option.bind_some, h74_o_x0_y]
    simp [tok, h]
  · have : decide ((s.length : Int) ≤ 4000) = false := by simp; omega
    rw [this, cond_false]; simp [tok, h]
theorem nxb {i : Nat} (h : i ≤ 200000000000000) : IntKind.i64.wrap ((i : Int) + 1) = ((i + 1 : Nat) : Int) := by rw [wrap64 (by omega) (by omega)]; rfl
theorem f76_ok' (s : List UInt8) (hs : s.length ≤ reachBytes) : f76_F (s, ()) = some (tok s, ()) := by
  rw [f76_eq]
  unfold reachBytes at hs
  have e := go_scan (step := f76_p0_st) (l := s) (fun i => f76_p0_y s (i : Int)) ctl (fun i => some (.inr (f76_p0_o1_y false))) (some (.inl (f76_p0_o0_y s))) (fun i hi rec => by
    rw [f76_p0_eq, lt_t hi, cond_true, nth_lt hi, Option.bind_some, nxb (by omega)]; rfl) (fun rec => by rw [f76_p0_eq]; simp only [Int.lt_irrefl, decide_false, cond_false]) (by rw [fuel_def]; have : s.length ≤ fuelL f76_p0_sh.slots (f76_p0_y s ((0 : Nat) : Int)).1 := fuel0 .str _ s _; omega)
  have e' : go f76_p0_st (f76_p0_y s (0 : Int)) = _ := e
  rw [e']
  have h2 := findIdx_any ctl s
  cases hf : s.findIdx? ctl with
  | none =>
    rw [hf] at h2
    have h3 : s.any ctl = false := h2.symm
    have h4 : decide ((s.length : Int) ≤ 4000) = tok s := by
      unfold tok; rw [h3]; rw [Bool.eq_iff_iff]; simp; omega
    rw [Option.bind_some, ← h4]; dsimp only; rw [f76_p0_o0_x0_y]
  | some k =>
    rw [hf] at h2
    have h3 : s.any ctl = true := h2.symm
    have h4 : false = tok s := by unfold tok; rw [h3]; simp
    rw [Option.bind_some, ← h4]; dsimp only; rw [f76_p0_o1_x2_y]
/-! Keys. -/
theorem less_drop (a b : List UInt8) (i : Nat) (ha : i < a.length) (hb : i < b.length) : Op.bytesLess (a.drop i) (b.drop i) = (decide (a[i] < b[i]) || (a[i] == b[i] && Op.bytesLess (a.drop (i + 1)) (b.drop (i + 1)))) := by
  rw [List.drop_eq_getElem_cons ha, List.drop_eq_getElem_cons hb]; rfl
theorem f52_ok' (a b : List UInt8) (ha : a.length ≤ reachBytes) : f52_F (a, (b, ())) = some (Op.bytesLess a b, ()) := by
  rw [f52_eq]
  unfold reachBytes at ha
  have key : ∀ (d i : Nat), i + d = a.length → i ≤ b.length → ∀ m, d + 1 ≤ m → ((iter f52_p0_st m (f52_p0_y a b (i : Int))).bind fun o114 => (match o114 with | .inl z115 => some ((decide (((f52_p0_o0_x0 z115).length : Int) < ((f52_p0_o0_x1 z115).length : Int))), ()) | .inr o116 => some ((f52_p0_o1_x4 o116), ()))) = some (Op.bytesLess (a.drop i) (b.drop i), ()) := by
    intro d
    induction d with
    | zero =>
      intro i hi hib m hm
      obtain ⟨m, rfl⟩ : ∃ k, m = k + 1 := ⟨m - 1, by omega⟩
      have : i = a.length := by omega
      subst this
      rw [iter, f52_p0_eq]
      simp only [Int.lt_irrefl, decide_false, cond_false, Option.bind_some, f52_p0_o0_x0_y, f52_p0_o0_x1_y]
      rw [List.drop_of_length_le (Nat.le_refl _)]
      rcases Nat.lt_or_ge a.length b.length with h | h
      · rw [List.drop_eq_getElem_cons h]
        have : decide ((a.length : Int) < (b.length : Int)) = true := by simp; omega
        rw [this]; rfl
      · rw [List.drop_of_length_le h]
        have : decide ((a.length : Int) < (b.length : Int)) = false := by simp; omega
        rw [this]; rfl
    | succ d ih =>
      intro i hi hib m hm
      obtain ⟨m, rfl⟩ : ∃ k, m = k + 1 := ⟨m - 1, by omega⟩
      have hia : i < a.length := by omega
      rw [iter, f52_p0_eq, lt_t hia, cond_true]
      rcases Nat.lt_or_ge i b.length with h | h
      · rw [lt_t h, cond_true, nth_lt hia, nth_lt h, Option.bind_some, Option.bind_some, less_drop a b i hia h]
        by_cases e : a[i] = b[i]
        · have e1 : (((a[i]).toNat : Int) != ((b[i]).toNat : Int)) = false := by simp [e]
          rw [e1, cond_false, nxb (by omega), ih (i + 1) (by omega) (by omega) m (by omega)]
          have e2 : decide (a[i] < b[i]) = false := by simp [e]
          have e3 : (a[i] == b[i]) = true := by simp [e]
          rw [e2, e3]; rfl
        · have hne : (a[i]).toNat ≠ (b[i]).toNat := fun h => e (UInt8.toNat_inj.1 h)
          have e1 : (((a[i]).toNat : Int) != ((b[i]).toNat : Int)) = true := by simp; omega
          have e3 : (a[i] == b[i]) = false := by simp [e]
          rw [e1, cond_true, Option.bind_some, Option.bind_some, Option.bind_some, e3]
          simp only [f52_p0_o1_x4_y, Bool.false_and, Bool.or_false]
          congr 2; rw [Bool.eq_iff_iff]; simp [UInt8.lt_iff_toNat_lt]
      · have : i = b.length := by omega
        have e1 : decide ((i : Int) < (b.length : Int)) = false := by simp; omega
        rw [e1, cond_false, Option.bind_some]
        simp only [f52_p0_o0_x0_y, f52_p0_o0_x1_y]
        have e2 : decide ((a.length : Int) < (b.length : Int)) = false := by simp; omega
        rw [e2, List.drop_of_length_le (l := b) h, List.drop_eq_getElem_cons hia]; rfl
  have := key a.length 0 (by omega) (by omega) (fuelOf _ (f52_p0_y a b (0 : Int))) (by rw [fuel_def]; have : a.length ≤ fuelL f52_p0_sh.slots (f52_p0_y a b (0 : Int)).1 := fuel0 .str _ a _; omega)
  exact this
def kbad (ks : List (List UInt8)) (i : Nat) : Bool := !tok (ks.getD i []) || (decide (0 < i) && !Op.bytesLess (ks.getD (i - 1) []) (ks.getD i []))
def kok (ks : List (List UInt8)) : Bool := !(List.range ks.length).any (kbad ks)
theorem getD_lt {α : Type} {l : List α} {i : Nat} {d : α} (h : i < l.length) : l.getD i d = l[i] := by simp [List.getD_eq_getElem?_getD, h]
theorem pred_nat {i : Nat} (h : 0 < i) (h2 : i ≤ 1000000) : IntKind.i64.wrap ((i : Int) - 1) = ((i - 1 : Nat) : Int) := by rw [wrap64 (by omega) (by omega)]; omega
theorem f58_ok' (ks : List (List UInt8)) (h : ks.length ≤ 4000) : f58_F (ks, ()) = some (kok ks, ()) := by
  rw [f58_eq]
  have hr : (List.range ks.length).length = ks.length := by simp
  have e := go_scan (step := f58_p1_st) (l := List.range ks.length) (fun i => f58_p1_y ks ks (ks.length : Int) (i : Int)) (kbad ks) (fun i => some (.inr (f58_p1_o1_y false))) (some (.inl f58_p1_o0_y)) (fun i hi rec => by
    have hi' : i < ks.length := by simpa using hi
    rw [f58_p1_eq, lt_t hi', cond_true, nth_lt hi', Option.bind_some, f58_p0_eq, f57_ok', Option.bind_some, List.getElem_range]
    dsimp only
    unfold kbad
    rw [getD_lt hi']
    cases ht : tok ks[i] with
    | false => simp only [Bool.not_false, cond_true, Option.bind_some, f58_p0_o0_x27_y, Bool.true_or]
    | true =>
      simp only [Bool.not_true, cond_false, Bool.false_or]
      by_cases h0 : 0 < i
      · have e1 : decide ((i : Int) > 0) = true := by simp; omega
        have h1 : i - 1 < ks.length := by omega
        rw [e1, cond_true, pred_nat h0 (by omega), nth_lt h1, Option.bind_some, Option.bind_some, f58_p0_o0_x27_y, f58_p0_o0_x0_y, f58_p0_o0_x5_y, f58_p0_o0_x6_y, f58_p0_o0_x7_y, nx (by omega), getD_lt h1]
        simp [h0]
      · have e1 : decide ((i : Int) > 0) = false := by simp; omega
        rw [e1, cond_false, Option.bind_some, f58_p0_o0_x27_y, f58_p0_o0_x0_y, f58_p0_o0_x5_y, f58_p0_o0_x6_y, f58_p0_o0_x7_y, nx (by omega)]
        simp [h0]) (fun rec => by rw [hr, f58_p1_eq]; simp only [Int.lt_irrefl, decide_false, cond_false]) (by rw [fuel_def]; omega)
  have e' : go f58_p1_st (f58_p1_y ks ks (ks.length : Int) (0 : Int)) = _ := e
  rw [e']
  unfold kok
  rw [← findIdx_any]
  cases (List.range ks.length).findIdx? (kbad ks) with
  | none => rfl
  | some k => simp only [Option.bind_some, f58_p1_o1_x2_y]; rfl
end Go.Pe.Tryd
