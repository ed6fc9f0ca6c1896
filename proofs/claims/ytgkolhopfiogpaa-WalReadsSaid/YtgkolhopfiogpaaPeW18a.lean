import Derived.Test.YtgkolhopfiogpaaPeG3q
namespace Go.Pe.Try
open Go.Proofs Go.RowKit
set_option maxRecDepth 100000
theorem go_le {sh : Shape} {β : Type} {step : (sh.den → Option β) → sh.den → Option β} {y : sh.den} {r : Option β} {m : Nat} (h : ∀ n, m ≤ n → iter step n y = r) (hm : m ≤ fuelOf sh y) : go step y = r := h _ hm
theorem wrap64 {x : Int} (h0 : -9223372036854775808 ≤ x) (h1 : x < 9223372036854775808) : IntKind.i64.wrap x = x := by
  simp only [IntKind.wrap, IntKind.bits, IntKind.signed]
  simp
  omega
theorem wrapU64 {x : Int} (h0 : 0 ≤ x) (h1 : x < 18446744073709551616) : IntKind.u64.wrap x = x := by
  simp only [IntKind.wrap, IntKind.bits, IntKind.signed]
  simp
  omega
theorem nth_nat {α : Type} (l : List α) (i : Nat) : nth l (i : Int) = l[i]? := by simp [nth]
/-- Same: the loop. -/
theorem same_loop (l m : List (List UInt8)) (hl : l.length = m.length) (hb : l.length < 4611686018427387904) : ∀ (d i : Nat), i + d = l.length → ∀ n, d + 1 ≤ n →
    iter f14_p0_st n (f14_p0_y l m l.length i) = some (if l.drop i = m.drop i then .inl f14_p0_o0_y else .inr (f14_p0_o1_y false)) := by
  intro d
  induction d with
  | zero =>
    intro i hi n hn
    obtain ⟨n, rfl⟩ : ∃ k, n = k + 1 := ⟨n - 1, by omega⟩
    rw [iter, f14_p0_eq]
    have h1 : l.drop i = [] := List.drop_eq_nil_of_le (by omega)
    have h2 : m.drop i = [] := List.drop_eq_nil_of_le (by omega)
    have h3 : decide ((i : Int) < (l.length : Int)) = false := by simp; omega
    rw [h3, h1, h2]; rfl
  | succ d ih =>
    intro i hi n hn
    obtain ⟨n, rfl⟩ : ∃ k, n = k + 1 := ⟨n - 1, by omega⟩
    rw [iter, f14_p0_eq]
    have h3 : decide ((i : Int) < (l.length : Int)) = true := by simp; omega
    have hil : i < l.length := by omega
    have him : i < m.length := by omega
    rw [h3, cond_true, nth_nat, nth_nat, List.getElem?_eq_getElem hil, List.getElem?_eq_getElem him]
    simp only [Option.bind_some]
    have hdl := List.drop_eq_getElem_cons hil
    have hdm := List.drop_eq_getElem_cons him
    by_cases he : l[i] = m[i]
    · have : (l[i] != m[i]) = false := by simp [he]
      rw [this, cond_false]
      have hw : IntKind.i64.wrap ((i : Int) + 1) = ((i + 1 : Nat) : Int) := by rw [wrap64 (by omega) (by omega)]; rfl
      rw [hw, ih (i + 1) (by omega) n (by omega)]
      have : (l.drop (i + 1) = m.drop (i + 1)) = (l.drop i = m.drop i) := by rw [hdl, hdm, he]; simp only [List.cons.injEq, true_and]
      simp only [this]
    · have h5 : (l[i] != m[i]) = true := by simp [he]
      rw [h5, cond_true]
      have : ¬ (l.drop i = m.drop i) := by rw [hdl, hdm]; intro h; exact he (List.cons.inj h).1
      rw [if_neg this]

theorem same_eq (l m : List (List UInt8)) (hb : l.length < 4611686018427387904) : f14_F (l, (m, ())) = some (decide (l = m), ()) := by
  rw [f14_eq]
  by_cases hl : l.length = m.length
  · have h1 : ((l.length : Int) != (m.length : Int)) = false := by simp [hl]
    rw [h1, cond_false]
    have h2 : go f14_p0_st (f14_p0_y l m l.length 0) = some (if l = m then .inl f14_p0_o0_y else .inr (f14_p0_o1_y false)) := by
      refine go_le (m := l.length + 1) (fun n hn => ?_) ?_
      · have := same_loop l m hl hb l.length 0 (by omega) n hn
        simpa using this
      · simp only [fuelOf, fuelL, SAV.fuel, Ty.fuel, fuelR, fuelT]
        omega
    rw [h2]
    by_cases h : l = m <;> simp [h, f14_p0_o1_x4]
  · have h1 : ((l.length : Int) != (m.length : Int)) = true := by simp; omega
    rw [h1, cond_true]
    have : l ≠ m := fun h => hl (by rw [h])
    simp [this]

/-- Four bytes of a number. -/
def be4 (n : Nat) : List UInt8 := [UInt8.ofNat (n / 16777216), UInt8.ofNat (n / 65536), UInt8.ofNat (n / 256), UInt8.ofNat n]
theorem u8_low (n : Nat) : strOf [IntKind.u8.wrap (Int.tmod (n : Int) 256)] = [UInt8.ofNat n] := by
  have h : Int.tmod (n : Int) 256 = ((n % 256 : Nat) : Int) := rfl
  have h2 : IntKind.u8.wrap ((n % 256 : Nat) : Int) = ((n % 256 : Nat) : Int) := by
    simp only [IntKind.wrap, IntKind.bits, IntKind.signed]
    simp
  rw [h, h2]
  simp only [strOf, List.map_cons, List.map_nil, Int.toNat_natCast, List.cons.injEq, and_true]
  apply UInt8.toNat_inj.1
  simp
theorem div256 (n : Nat) (h : n < 18446744073709551616) : IntKind.u64.wrap (Int.tdiv (n : Int) 256) = ((n / 256 : Nat) : Int) := by
  have h1 : Int.tdiv (n : Int) 256 = ((n / 256 : Nat) : Int) := rfl
  rw [h1, wrapU64 (by omega) (by omega)]
theorem big_ref_step (rec) (n i : Nat) (acc : List UInt8) (h : n < 18446744073709551616) (hi : i < 4) (ha : acc.length ≤ 8) :
    f42_p0_st rec (f42_p0_y (n : Int) 4 acc (i : Int)) = rec (f42_p0_y ((n / 256 : Nat) : Int) 4 (UInt8.ofNat n :: acc) ((i + 1 : Nat) : Int)) := by
  rw [f42_p0_eq]
  have h3 : decide ((i : Int) < 4) = true := by simp; omega
  rw [h3, cond_true, u8_low, div256 n h]
  rw [if_pos (by simp; omega)]
  have hw : IntKind.i64.wrap ((i : Int) + 1) = ((i + 1 : Nat) : Int) := by rw [wrap64 (by omega) (by omega)]; rfl
  rw [hw]; rfl
theorem big_ref (n : Nat) (h : n < 4294967296) : f42_F ((n : Int), ((4 : Int), ())) = some (be4 n, ()) := by
  rw [f42_eq]
  have : go f42_p0_st (f42_p0_y (n : Int) 4 [] 0) = some (f42_p0_o0_y (be4 n)) := by
    refine go_le (m := 5) (fun k hk => ?_) ?_
    · obtain ⟨k, rfl⟩ : ∃ j, k = j + 5 := ⟨k - 5, by omega⟩
      have e0 : (0 : Int) = ((0 : Nat) : Int) := rfl
      rw [iter, e0, big_ref_step _ n 0 [] (by omega) (by omega) (by simp), iter, big_ref_step _ _ 1 _ (by omega) (by omega) (by simp), iter, big_ref_step _ _ 2 _ (by omega) (by omega) (by simp), iter, big_ref_step _ _ 3 _ (by omega) (by omega) (by simp), iter, f42_p0_eq]
      have h3 : decide (((3 + 1 : Nat) : Int) < 4) = false := by decide
      rw [h3, cond_false]
      have e1 : n / 256 / 256 = n / 65536 := by omega
      have e2 : n / 65536 / 256 = n / 16777216 := by omega
      rw [e1, e2]; rfl
    · simp only [fuelOf, fuelL, SAV.fuel, Ty.fuel, fuelR, fuelT]
      omega
  rw [this]; rfl

theorem big_guard (n : Nat) (h : n < 4294967296) : f39_p1_F (f39_p1_y (n : Int) 4) = some (f39_p1_o0_y (n : Int) 4 false) := by
  rw [f39_p1_eq]
  rw [show decide ((4 : Int) < 0) = false from by decide, cond_false, show decide ((4 : Int) > 8) = false from by decide, cond_false, show decide ((4 : Int) < 8) = true from by decide, cond_true]
  have h1 : IntKind.i64.wrap ((8 : Int) * 4) = 32 := by decide
  rw [h1, if_neg (by decide)]
  have h2 : (Int.fdiv (n : Int) (2 ^ (min (Int.toNat 32) 64)) != (0 : Int)) = false := by
    have : (2 : Int) ^ (min (Int.toNat 32) 64) = 4294967296 := by decide
    rw [this]
    have : Int.fdiv (n : Int) 4294967296 = ((n / 4294967296 : Nat) : Int) := by rw [Int.fdiv_eq_ediv_of_nonneg _ (by decide)]; rfl
    rw [this, Nat.div_eq_of_lt h]; rfl
  rw [h2]
theorem u8_byte (n k : Nat) (e : Int) (he : e = ((2 ^ k : Nat) : Int)) : IntKind.u8.wrap (Int.fdiv (n : Int) e) = ((n / 2 ^ k % 256 : Nat) : Int) := by
  subst he
  rw [Int.fdiv_eq_ediv_of_nonneg _ (Int.natCast_nonneg _)]
  simp only [IntKind.wrap, IntKind.bits, IntKind.signed]
  simp
theorem big_step (rec) (n i : Nat) (l : List Int) (hi : i < 4) (hl : l.length = 4) :
    f39_p0_st rec (f39_p0_y (n : Int) 4 4 (i : Int) l) = rec (f39_p0_y (n : Int) 4 4 ((i + 1 : Nat) : Int) (l.set (3 - i) ((n / 2 ^ (8 * i) % 256 : Nat) : Int))) := by
  rw [f39_p0_eq]
  have h3 : decide ((i : Int) < 4) = true := by simp; omega
  have h8 : IntKind.i64.wrap ((8 : Int) * i) = ((8 * i : Nat) : Int) := by rw [wrap64 (by omega) (by omega)]; rfl
  have hx : IntKind.i64.wrap (IntKind.i64.wrap ((4 : Int) - 1) - i) = ((3 - i : Nat) : Int) := by
    have : IntKind.i64.wrap ((4 : Int) - 1) = 3 := by decide
    rw [this, wrap64 (by omega) (by omega)]; omega
  have hw : IntKind.i64.wrap ((i : Int) + 1) = ((i + 1 : Nat) : Int) := by rw [wrap64 (by omega) (by omega)]; rfl
  rw [h3, cond_true, h8, if_neg (by omega), hx, hw, within, if_pos (by omega), Int.toNat_natCast, List.getElem?_eq_getElem (by omega), Option.bind_some]
  rw [u8_byte n (8 * i)]
  rw [Int.toNat_natCast, Nat.min_eq_left (by omega)]
  push_cast; rfl
theorem big_eq (n : Nat) (h : n < 4294967296) : f39_F ((n : Int), ((4 : Int), ())) = some (be4 n, (0, ())) := by
  rw [f39_eq, big_guard n h, Option.bind_some]
  have a1 : f39_p1_o0_x24 (f39_p1_o0_y (n : Int) 4 false) = false := rfl
  have a2 : f39_p1_o0_x0 (f39_p1_o0_y (n : Int) 4 false) = (n : Int) := rfl
  have a3 : f39_p1_o0_x1 (f39_p1_o0_y (n : Int) 4 false) = 4 := rfl
  have a4 : List.replicate (Int.toNat 4) (0 : Int) = [0, 0, 0, 0] := rfl
  have a5 : ((([0, 0, 0, 0] : List Int).length : Nat) : Int) = 4 := rfl
  rw [a1, cond_false, a2, a3, a4, a5]
  have : go f39_p0_st (f39_p0_y (n : Int) 4 4 0 [0, 0, 0, 0]) = some (f39_p0_o0_y [((n / 2 ^ (8 * 3) % 256 : Nat) : Int), ((n / 2 ^ (8 * 2) % 256 : Nat) : Int), ((n / 2 ^ (8 * 1) % 256 : Nat) : Int), ((n / 2 ^ (8 * 0) % 256 : Nat) : Int)]) := by
    refine go_le (m := 5) (fun k hk => ?_) ?_
    · obtain ⟨k, rfl⟩ : ∃ j, k = j + 5 := ⟨k - 5, by omega⟩
      have e0 : f39_p0_y (n : Int) 4 4 0 [0, 0, 0, 0] = f39_p0_y (n : Int) 4 4 ((0 : Nat) : Int) [0, 0, 0, 0] := rfl
      rw [iter, e0, big_step _ n 0 _ (by omega) rfl, iter, big_step _ n 1 _ (by omega) rfl, iter, big_step _ n 2 _ (by omega) rfl, iter, big_step _ n 3 _ (by omega) rfl, iter, f39_p0_eq]
      have h3 : decide (((3 + 1 : Nat) : Int) < 4) = false := by decide
      rw [h3, cond_false]; rfl
    · simp only [fuelOf, fuelL, SAV.fuel, Ty.fuel, fuelR, fuelT]
      omega
  rw [this, makeOk, if_pos (by decide), Option.bind_some]
  have key : ∀ m : Nat, UInt8.ofNat (m % 256) = UInt8.ofNat m := fun m => by apply UInt8.toNat_inj.1; simp
  have a6 : ∀ l : List Int, f39_p0_o0_l0 (f39_p0_o0_y l) = l := fun _ => rfl
  rw [a6]
  simp only [strOf, List.map_cons, List.map_nil, Int.toNat_natCast, key, be4]
  have p3 : (2 : Nat) ^ (8 * 3) = 16777216 := by decide
  have p2 : (2 : Nat) ^ (8 * 2) = 65536 := by decide
  have p1 : (2 : Nat) ^ (8 * 1) = 256 := by decide
  have p0 : (2 : Nat) ^ (8 * 0) = 1 := by decide
  rw [p3, p2, p1, p0, Nat.div_one]
end Go.Pe.Try
