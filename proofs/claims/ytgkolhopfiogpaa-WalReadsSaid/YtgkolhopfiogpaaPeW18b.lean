import Derived.Test.YtgkolhopfiogpaaPeW18a
namespace Go.Pe.Try
open Go.Proofs Go.RowKit
set_option maxRecDepth 100000
/-- A number of bytes, the first one the highest. -/
def num (s : List UInt8) : Nat := s.foldl (fun n b => n * 256 + b.toNat) 0
theorem num_snoc (s : List UInt8) (b : UInt8) : num (s ++ [b]) = num s * 256 + b.toNat := by simp [num, List.foldl_append]
theorem num_take (s : List UInt8) (i : Nat) (h : i < s.length) : num (s.take (i + 1)) = num (s.take i) * 256 + s[i].toNat := by
  rw [List.take_succ_eq_append_getElem h, num_snoc]
theorem num_lt (s : List UInt8) : ∀ i, i ≤ s.length → num (s.take i) < 256 ^ i
  | 0, _ => by simp [num]
  | i + 1, h => by
    rw [num_take s i (by omega), Nat.pow_succ]
    have := num_lt s i (by omega)
    have h2 := (s[i]'(by omega)).toNat_lt
    omega
theorem num_lt8 (s : List UInt8) (i : Nat) (h : i ≤ s.length) (h8 : i ≤ 4) : num (s.take i) < 4294967296 := by
  have := num_lt s i h
  have h2 : 256 ^ i ≤ 256 ^ 4 := Nat.pow_le_pow_right (by decide) h8
  have h3 : (256 : Nat) ^ 4 = 4294967296 := by decide
  omega
theorem numref_loop (s : List UInt8) (hs : s.length ≤ 4) : ∀ (d i : Nat), i + d = s.length → ∀ n, d + 1 ≤ n →
    iter f41_p0_st n (f41_p0_y s (num (s.take i) : Nat) i) = some (f41_p0_o0_y (num s : Nat)) := by
  intro d
  induction d with
  | zero =>
    intro i hi n hn
    obtain ⟨n, rfl⟩ : ∃ k, n = k + 1 := ⟨n - 1, by omega⟩
    rw [iter, f41_p0_eq]
    have h3 : decide ((i : Int) < (s.length : Int)) = false := by simp; omega
    rw [h3, cond_false, List.take_of_length_le (by omega)]
  | succ d ih =>
    intro i hi n hn
    obtain ⟨n, rfl⟩ : ∃ k, n = k + 1 := ⟨n - 1, by omega⟩
    rw [iter, f41_p0_eq]
    have h3 : decide ((i : Int) < (s.length : Int)) = true := by simp; omega
    have hil : i < s.length := by omega
    rw [h3, cond_true, nth_nat, List.getElem?_eq_getElem hil, Option.bind_some]
    have hw : IntKind.i64.wrap ((i : Int) + 1) = ((i + 1 : Nat) : Int) := by rw [wrap64 (by omega) (by omega)]; rfl
    have hn' := num_lt8 s i (by omega) (by omega)
    have hc := (s[i]).toNat_lt
    have hv : IntKind.u64.wrap (IntKind.u64.wrap ((256 : Int) * (num (s.take i) : Nat)) + IntKind.u64.wrap ((s[i]).toNat : Int)) = ((num (s.take (i + 1)) : Nat) : Int) := by
      rw [num_take s i hil, wrapU64 (x := (256 : Int) * _) (by omega) (by omega), wrapU64 (x := ((s[i]).toNat : Int)) (by omega) (by omega), wrapU64 (by omega) (by omega)]
      push_cast; omega
    rw [hw, hv, ih (i + 1) (by omega) n (by omega)]
theorem numref_eq (s : List UInt8) (hs : s.length ≤ 4) : f41_F (s, ()) = some (((num s : Nat) : Int), ()) := by
  rw [f41_eq]
  have : go f41_p0_st (f41_p0_y s 0 0) = some (f41_p0_o0_y (num s : Nat)) := by
    refine go_le (m := s.length + 1) (fun n hn => ?_) ?_
    · exact numref_loop s hs s.length 0 (by omega) n hn
    · simp only [fuelOf, fuelL, SAV.fuel, Ty.fuel, fuelR, fuelT]
      omega
  rw [this]; rfl
theorem or_byte (x c : Nat) (hx : x < 72057594037927936) (hc : c < 256) :
    IntKind.u64.wrap (((BitVec.ofInt 64 (IntKind.u64.wrap ((x : Int) * 2 ^ (min (Int.toNat (8 : Int)) 64))) ||| BitVec.ofInt 64 (IntKind.u64.wrap (c : Int))).toNat : Int)) = ((x * 256 + c : Nat) : Int) := by
  have h1 : (2 : Int) ^ (min (Int.toNat (8 : Int)) 64) = 256 := by decide
  rw [h1, wrapU64 (x := (x : Int) * 256) (by omega) (by omega), wrapU64 (x := (c : Int)) (by omega) (by omega)]
  have h2 : ((x : Int) * 256) = ((x * 256 : Nat) : Int) := by push_cast; rfl
  rw [h2]
  have h3 : (BitVec.ofInt 64 ((x * 256 : Nat) : Int) ||| BitVec.ofInt 64 (c : Int)).toNat = x * 256 + c := by
    rw [BitVec.toNat_or, BitVec.toNat_ofInt, BitVec.toNat_ofInt]
    have e1 : (((x * 256 : Nat) : Int) % ((2 ^ 64 : Nat) : Int)).toNat = x * 256 := by omega
    have e2 : ((c : Int) % ((2 ^ 64 : Nat) : Int)).toNat = c := by omega
    rw [e1, e2]
    have := Nat.two_pow_add_eq_or_of_lt (i := 8) (b := c) (by omega) x
    have e3 : 2 ^ 8 * x = x * 256 := by omega
    rw [e3] at this
    exact this.symm
  rw [h3, wrapU64 (by omega) (by omega)]
theorem num_loop (s : List UInt8) (hs : s.length ≤ 4) : ∀ (d i : Nat), i + d = s.length → ∀ n, d + 1 ≤ n →
    iter f40_p0_st n (f40_p0_y s (num (s.take i) : Nat) s.length i) = some (f40_p0_o0_y (num s : Nat)) := by
  intro d
  induction d with
  | zero =>
    intro i hi n hn
    obtain ⟨n, rfl⟩ : ∃ k, n = k + 1 := ⟨n - 1, by omega⟩
    rw [iter, f40_p0_eq]
    have h3 : decide ((i : Int) < (s.length : Int)) = false := by simp; omega
    rw [h3, cond_false, List.take_of_length_le (by omega)]
  | succ d ih =>
    intro i hi n hn
    obtain ⟨n, rfl⟩ : ∃ k, n = k + 1 := ⟨n - 1, by omega⟩
    rw [iter, f40_p0_eq]
    have h3 : decide ((i : Int) < (s.length : Int)) = true := by simp; omega
    have hil : i < s.length := by omega
    rw [h3, cond_true, nth_nat, List.getElem?_eq_getElem hil, Option.bind_some]
    have hw : IntKind.i64.wrap ((i : Int) + 1) = ((i + 1 : Nat) : Int) := by rw [wrap64 (by omega) (by omega)]; rfl
    have hn' := num_lt8 s i (by omega) (by omega)
    rw [or_byte _ _ (by omega) (s[i]).toNat_lt, ← num_take s i hil, hw, ih (i + 1) (by omega) n (by omega)]
theorem num_eq (s : List UInt8) (hs : s.length ≤ 4) : f40_F (s, ()) = some (((num s : Nat) : Int), (0, ())) := by
  rw [f40_eq]
  have h : decide ((s.length : Int) > 8) = false := by simp; omega
  have : go f40_p0_st (f40_p0_y s 0 s.length 0) = some (f40_p0_o0_y (num s : Nat)) := by
    refine go_le (m := s.length + 1) (fun n hn => ?_) ?_
    · exact num_loop s hs s.length 0 (by omega) n hn
    · simp only [fuelOf, fuelL, SAV.fuel, Ty.fuel, fuelR, fuelT]
      omega
  rw [h, cond_false, this]; rfl
end Go.Pe.Try
