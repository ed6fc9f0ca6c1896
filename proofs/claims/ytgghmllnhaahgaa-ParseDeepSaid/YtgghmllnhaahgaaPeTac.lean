/- Small laws for plain proofs over the printed equations. -/
import Derived.Test.YtgghmllnhaahgaaPeTi
namespace Go.Pe
open Go.RowKit
set_option linter.unusedSectionVars false
variable [GI]
theorem go_seq {sh : Shape} {β : Type} {step : (sh.den → Option β) → sh.den → Option β} {y : Nat → sh.den} {n : Nat} {r : Option β}
    (hs : ∀ i, i < n → ∀ rec, step rec (y i) = rec (y (i + 1))) (he : ∀ rec, step rec (y n) = r) (hm : n + 1 ≤ fuelOf sh (y 0)) : go step (y 0) = r := by
  have key : ∀ d i, i + d = n → ∀ m, d + 1 ≤ m → iter step m (y i) = r := by
    intro d
    induction d with
    | zero =>
      intro i hi m hm
      obtain ⟨m, rfl⟩ : ∃ k, m = k + 1 := ⟨m - 1, by omega⟩
      have : i = n := by omega
      subst this
      rw [iter, he]
    | succ d ih =>
      intro i hi m hm
      obtain ⟨m, rfl⟩ : ∃ k, m = k + 1 := ⟨m - 1, by omega⟩
      rw [iter, hs i (by omega), ih (i + 1) (by omega) m (by omega)]
  exact key n 0 (by omega) _ hm
theorem wrap64 {x : Int} (h0 : -9223372036854775808 ≤ x) (h1 : x < 9223372036854775808) : IntKind.i64.wrap x = x := by
  simp only [IntKind.wrap, IntKind.bits, IntKind.signed]
  simp
  omega
theorem wrapU64 {x : Int} (h0 : 0 ≤ x) (h1 : x < 18446744073709551616) : IntKind.u64.wrap x = x := by
  simp only [IntKind.wrap, IntKind.bits, IntKind.signed]
  simp
  omega
theorem wrapU8 {x : Int} (h0 : 0 ≤ x) (h1 : x < 256) : IntKind.u8.wrap x = x := by
  simp only [IntKind.wrap, IntKind.bits, IntKind.signed]
  simp
  omega
theorem wrap64_range (x : Int) : -9223372036854775808 ≤ IntKind.i64.wrap x ∧ IntKind.i64.wrap x < 9223372036854775808 := by
  simp only [IntKind.wrap, IntKind.bits, IntKind.signed]
  simp
  omega
theorem wrapU8_eq (x : Int) : IntKind.u8.wrap x = x % 256 := by
  simp only [IntKind.wrap, IntKind.bits, IntKind.signed]
  simp
theorem int64_range {n : Int} (h : (Lit.int .i64 n).wf = true) : -9223372036854775808 ≤ n ∧ n < 9223372036854775808 := by
  simp only [Lit.wf, Bool.and_eq_true, decide_eq_true_eq] at h
  have h1 : IntKind.i64.min = -9223372036854775808 := by decide
  have h2 : IntKind.i64.max = 9223372036854775807 := by decide
  omega
theorem nth_nat {α : Type} (l : List α) (i : Nat) : nth l (i : Int) = l[i]? := by simp [nth]
theorem nth_lt {α : Type} {l : List α} {i : Nat} (h : i < l.length) : nth l (i : Int) = some l[i] := by rw [nth_nat, List.getElem?_eq_getElem h]
theorem cutHi_nat' {α S : Type} (l : List α) (n : Nat) (K : List α → Option S) (h : n ≤ l.length) : cutHi l (n : Int) K = K (l.take n) := by rw [cutHi, if_pos (by omega), Int.toNat_natCast]
theorem cutLo_nat' {α S : Type} (l : List α) (n : Nat) (K : List α → Option S) (h : n ≤ l.length) : cutLo l (n : Int) K = K (l.drop n) := by rw [cutLo, if_pos (by omega), Int.toNat_natCast]
theorem cutMid_nat' {α S : Type} (l : List α) (a b : Nat) (K : List α → Option S) (h : a ≤ b) (h2 : b ≤ l.length) : cutMid l (a : Int) (b : Int) K = K ((l.take b).drop a) := by
  rw [cutMid, if_pos (by omega), Int.toNat_natCast, Int.toNat_natCast]
theorem cut_min {α S : Type} (l : List α) (m : Nat) (K : List α → Option S) : cutHi l (minI (l.length : Int) (m : Int)) K = K (l.take m) := by
  have h : minI (l.length : Int) (m : Int) = ((min m l.length : Nat) : Int) := by
    rw [minI_eq]; split <;> omega
  rw [h, cutHi, if_pos (by omega), Int.toNat_natCast]
  congr 1
  rcases Nat.le_total m l.length with h | h
  · rw [Nat.min_eq_left h]
  · rw [Nat.min_eq_right h, List.take_of_length_le (Nat.le_refl _), List.take_of_length_le h]
theorem within_lt {S : Type} {i n : Nat} (h : i < n) (K : Option S) : within (i : Int) n K = K := by rw [within, if_pos (by omega)]
theorem appOk_lt {S : Type} {n : Nat} (h : n ≤ 4294967296) (K : Option S) : appOk n K = K := by
  unfold appOk; rw [if_pos (by omega)]
theorem minI_nat (a b : Nat) : minI (a : Int) (b : Int) = ((min a b : Nat) : Int) := by rw [minI_eq]; split <;> omega
theorem maxI_nat (a b : Nat) : maxI (a : Int) (b : Int) = ((max a b : Nat) : Int) := by rw [maxI_eq]; split <;> omega
theorem first_bad {α : Type} (p : α → Prop) [DecidablePred p] : ∀ l : List α, (∀ x ∈ l, p x) ∨ ∃ k, ∃ h : k < l.length, ¬ p l[k] ∧ ∀ i (hi : i < k), p (l[i]'(Nat.lt_trans hi h))
  | [] => .inl (by simp)
  | x :: l => by
    by_cases hx : p x
    · rcases first_bad p l with h | ⟨k, hk, h1, h2⟩
      · exact .inl (by simp only [List.mem_cons, forall_eq_or_imp]; exact ⟨hx, h⟩)
      · refine .inr ⟨k + 1, by simp; omega, by simpa using h1, fun i hi => ?_⟩
        cases i with
        | zero => simpa using hx
        | succ i => simpa using h2 i (by omega)
    · exact .inr ⟨0, by simp, by simpa using hx, fun i hi => by omega⟩
theorem bne_iff {α : Type} [BEq α] [LawfulBEq α] {a b : α} : (a != b) = true ↔ a ≠ b := by simp
/-- Fuel is there. -/
theorem fuel_def (sh : Shape) (z : sh.den) : fuelOf sh z = 1000000 + (fuelL sh.slots z.1 + fuelR sh.recs z.2.1 + fuelT sh.lsts z.2.2) := rfl
end Go.Pe
