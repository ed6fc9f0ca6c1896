/- Texts of the proof, what is used of them: K1, X18a, K3, LoopT, K4, GKqD, K5, KP1, GKqE, GKqF, K6, K7, X17a, K2, K8, K9, K10, K11, K12, K13, K14, Open. -/
import Derived.Sort.KeysCollected
import Derived.Sort.Walk0
import Derived.SliceStrings
import Derived.Test.YtobcopbplngdaaaPeZKvCr6
section
namespace Go.Pe.Try
open Go.Proofs Go.RowKit
set_option maxRecDepth 100000
set_option linter.unusedSimpArgs false
set_option linter.unusedVariables false
theorem go_le {sh : Shape} {β : Type} {step : (sh.den → Option β) → sh.den → Option β} {y : sh.den} {r : Option β} {m : Nat} (h : ∀ n, m ≤ n → iter step n y = r) (hm : m ≤ fuelOf sh y) : go step y = r := h _ hm
def be4 (n : Nat) : List UInt8 := [UInt8.ofNat (n / 16777216), UInt8.ofNat (n / 65536), UInt8.ofNat (n / 256), UInt8.ofNat n]
theorem big_guard (n : Nat) (h : n < 4294967296) : f52_p1_F (f52_p1_y (n : Int) 4) = some (f52_p1_o0_y (n : Int) 4 false) := by
  rw [f52_p1_eq]
  rw [show decide ((4 : Int) < 0) = false from by decide, cond_false, show decide ((4 : Int) > 8) = false from by decide, cond_false, show decide ((4 : Int) < 8) = true from by decide, cond_true]
  have h1 : IntKind.i64.wrap ((8 : Int) * 4) = 32 := by decide
  rw [h1, if_neg (by decide)]
  have h2 : (Int.fdiv (n : Int) (2 ^ (min (Int.toNat 32) 64)) != (0 : Int)) = false := by
    have : (2 : Int) ^ (min (Int.toNat 32) 64) = 4294967296 := by decide
    rw [this]
    have : Int.fdiv (n : Int) 4294967296 = ((n / 4294967296 : Nat) : Int) := by rw [Int.fdiv_eq_ediv_of_nonneg _ (by decide)]; rfl
    rw [this, Nat.div_eq_of_lt h]; rfl
  rw [h2]
theorem u8_byte (n k : Nat) (e : Int) (he : e = ((2 ^ k : Nat) : Int)) : IntKind.u8.wrap (Int.fdiv (n : Int) e) = ((n / 2 ^ k % 256 : Nat) : Int) := by
  subst he
  rw [Int.fdiv_eq_ediv_of_nonneg _ (Int.natCast_nonneg _)]
  simp only [IntKind.wrap, IntKind.bits, IntKind.signed]
  simp
theorem big_step (rec) (n i : Nat) (l : List Int) (hi : i < 4) (hl : l.length = 4) :
    f52_p0_st rec (f52_p0_y (n : Int) 4 4 (i : Int) l) = rec (f52_p0_y (n : Int) 4 4 ((i + 1 : Nat) : Int) (l.set (3 - i) ((n / 2 ^ (8 * i) % 256 : Nat) : Int))) := by
  rw [f52_p0_eq]
  have h3 : decide ((i : Int) < 4) = true := by simp; omega
  have h8 : IntKind.i64.wrap ((8 : Int) * i) = ((8 * i : Nat) : Int) := by rw [wrap64 (by omega) (by omega)]; rfl
  have hx : IntKind.i64.wrap (IntKind.i64.wrap ((4 : Int) - 1) - i) = ((3 - i : Nat) : Int) := by
    have : IntKind.i64.wrap ((4 : Int) - 1) = 3 := by decide
    rw [this, wrap64 (by omega) (by omega)]; omega
  have hw : IntKind.i64.wrap ((i : Int) + 1) = ((i + 1 : Nat) : Int) := by rw [wrap64 (by omega) (by omega)]; rfl
  rw [h3, cond_true, h8, if_neg (by omega), hx, hw, within, if_pos (by omega), Int.toNat_natCast, List.getElem?_eq_getElem (by omega), Option.bind_some]
  rw [u8_byte n (8 * i)]
  rw [Int.toNat_natCast, Nat.min_eq_left (by omega)]
  push_cast; rfl
theorem big_eq (n : Nat) (h : n < 4294967296) : f52_F ((n : Int), ((4 : Int), ())) = some (be4 n, (0, ())) := by
  rw [f52_eq, big_guard n h, Option.bind_some]
  have a1 : f52_p1_o0_x24 (f52_p1_o0_y (n : Int) 4 false) = false := rfl
  have a2 : f52_p1_o0_x0 (f52_p1_o0_y (n : Int) 4 false) = (n : Int) := rfl
  have a3 : f52_p1_o0_x1 (f52_p1_o0_y (n : Int) 4 false) = 4 := rfl
  have a4 : List.replicate (Int.toNat 4) (0 : Int) = [0, 0, 0, 0] := rfl
  have a5 : ((([0, 0, 0, 0] : List Int).length : Nat) : Int) = 4 := rfl
  rw [a1, cond_false, a2, a3, a4, a5]
  have : go f52_p0_st (f52_p0_y (n : Int) 4 4 0 [0, 0, 0, 0]) = some (f52_p0_o0_y [((n / 2 ^ (8 * 3) % 256 : Nat) : Int), ((n / 2 ^ (8 * 2) % 256 : Nat) : Int), ((n / 2 ^ (8 * 1) % 256 : Nat) : Int), ((n / 2 ^ (8 * 0) % 256 : Nat) : Int)]) := by
    refine go_le (m := 5) (fun k hk => ?_) ?_
    · obtain ⟨k, rfl⟩ : ∃ j, k = j + 5 := ⟨k - 5, by omega⟩
      have e0 : f52_p0_y (n : Int) 4 4 0 [0, 0, 0, 0] = f52_p0_y (n : Int) 4 4 ((0 : Nat) : Int) [0, 0, 0, 0] := rfl
      rw [iter, e0, big_step _ n 0 _ (by omega) rfl, iter, big_step _ n 1 _ (by omega) rfl, iter, big_step _ n 2 _ (by omega) rfl, iter, big_step _ n 3 _ (by omega) rfl, iter, f52_p0_eq]
      have h3 : decide (((3 + 1 : Nat) : Int) < 4) = false := by decide
      rw [h3, cond_false]; rfl
    · simp only [fuelOf, fuelL, SAV.fuel, Ty.fuel, fuelR, fuelT]
      omega
  rw [this, makeOk, if_pos (by decide), Option.bind_some]
  have key : ∀ m : Nat, UInt8.ofNat (m % 256) = UInt8.ofNat m := fun m => by apply UInt8.toNat_inj.1; simp
  have a6 : ∀ l : List Int, f52_p0_o0_l0 (f52_p0_o0_y l) = l := fun _ => rfl
  rw [a6]
  simp only [strOf, List.map_cons, List.map_nil, Int.toNat_natCast, key, be4]
  have p3 : (2 : Nat) ^ (8 * 3) = 16777216 := by decide
  have p2 : (2 : Nat) ^ (8 * 2) = 65536 := by decide
  have p1 : (2 : Nat) ^ (8 * 1) = 256 := by decide
  have p0 : (2 : Nat) ^ (8 * 0) = 1 := by decide
  rw [p3, p2, p1, p0, Nat.div_one]
def num (s : List UInt8) : Nat := s.foldl (fun n b => n * 256 + b.toNat) 0
theorem num_snoc (s : List UInt8) (b : UInt8) : num (s ++ [b]) = num s * 256 + b.toNat := by simp [num, List.foldl_append]
theorem num_take (s : List UInt8) (i : Nat) (h : i < s.length) : num (s.take (i + 1)) = num (s.take i) * 256 + s[i].toNat := by
  rw [List.take_succ_eq_append_getElem h, num_snoc]
theorem num_lt (s : List UInt8) : ∀ i, i ≤ s.length → num (s.take i) < 256 ^ i
  | 0, _ => by simp [num]
  | i + 1, h => by
    rw [num_take s i (by omega), Nat.pow_succ]
    have := num_lt s i (by omega)
    have h2 := (s[i]'(by omega)).toNat_lt
    omega
theorem or_byte (x c : Nat) (hx : x < 72057594037927936) (hc : c < 256) :
    IntKind.u64.wrap (((BitVec.ofInt 64 (IntKind.u64.wrap ((x : Int) * 2 ^ (min (Int.toNat (8 : Int)) 64))) ||| BitVec.ofInt 64 (IntKind.u64.wrap (c : Int))).toNat : Int)) = ((x * 256 + c : Nat) : Int) := by
  have h1 : (2 : Int) ^ (min (Int.toNat (8 : Int)) 64) = 256 := by decide
  rw [h1, wrapU64 (x := (x : Int) * 256) (by omega) (by omega), wrapU64 (x := (c : Int)) (by omega) (by omega)]
  have h2 : ((x : Int) * 256) = ((x * 256 : Nat) : Int) := by push_cast; rfl
  rw [h2]
  have h3 : (BitVec.ofInt 64 ((x * 256 : Nat) : Int) ||| BitVec.ofInt 64 (c : Int)).toNat = x * 256 + c := by
    rw [BitVec.toNat_or, BitVec.toNat_ofInt, BitVec.toNat_ofInt]
    have e1 : (((x * 256 : Nat) : Int) % ((2 ^ 64 : Nat) : Int)).toNat = x * 256 := by omega
    have e2 : ((c : Int) % ((2 ^ 64 : Nat) : Int)).toNat = c := by omega
    rw [e1, e2]
    have := Nat.two_pow_add_eq_or_of_lt (i := 8) (b := c) (by omega) x
    have e3 : 2 ^ 8 * x = x * 256 := by omega
    rw [e3] at this
    exact this.symm
  rw [h3, wrapU64 (by omega) (by omega)]
theorem num_lt56 (s : List UInt8) (i : Nat) (h : i ≤ s.length) (h8 : i ≤ 7) : num (s.take i) < 72057594037927936 := by
  have := num_lt s i h
  have h2 : 256 ^ i ≤ 256 ^ 7 := Nat.pow_le_pow_right (by decide) h8
  have h3 : (256 : Nat) ^ 7 = 72057594037927936 := by decide
  omega
theorem num_loop (s : List UInt8) (hs : s.length ≤ 8) : ∀ (d i : Nat), i + d = s.length → ∀ n, d + 1 ≤ n →
    iter f59_p0_st n (f59_p0_y s (num (s.take i) : Nat) s.length i) = some (f59_p0_o0_y (num s : Nat)) := by
  intro d
  induction d with
  | zero =>
    intro i hi n hn
    obtain ⟨n, rfl⟩ : ∃ k, n = k + 1 := ⟨n - 1, by omega⟩
    rw [iter, f59_p0_eq]
    have h3 : decide ((i : Int) < (s.length : Int)) = false := by simp; omega
    rw [h3, cond_false, List.take_of_length_le (by omega)]
  | succ d ih =>
    intro i hi n hn
    obtain ⟨n, rfl⟩ : ∃ k, n = k + 1 := ⟨n - 1, by omega⟩
    rw [iter, f59_p0_eq]
    have h3 : decide ((i : Int) < (s.length : Int)) = true := by simp; omega
    have hil : i < s.length := by omega
    rw [h3, cond_true, nth_nat, List.getElem?_eq_getElem hil, Option.bind_some]
    have hw : IntKind.i64.wrap ((i : Int) + 1) = ((i + 1 : Nat) : Int) := by rw [wrap64 (by omega) (by omega)]; rfl
    have hn' := num_lt56 s i (by omega) (by omega)
    rw [or_byte _ _ (by omega) (s[i]).toNat_lt, ← num_take s i hil, hw, ih (i + 1) (by omega) n (by omega)]
theorem num8_eq (s : List UInt8) (hs : s.length ≤ 8) : f59_F (s, ()) = some (((num s : Nat) : Int), (0, ())) := by
  rw [f59_eq]
  have h : decide ((s.length : Int) > 8) = false := by simp; omega
  have : go f59_p0_st (f59_p0_y s 0 s.length 0) = some (f59_p0_o0_y (num s : Nat)) := by
    refine go_le (m := s.length + 1) (fun n hn => ?_) ?_
    · exact num_loop s hs s.length 0 (by omega) n hn
    · simp only [fuelOf, fuelL, SAV.fuel, Ty.fuel, fuelR, fuelT]
      omega
  rw [h, cond_false, this]; rfl
theorem num_eq (s : List UInt8) (hs : s.length ≤ 4) : f59_F (s, ()) = some (((num s : Nat) : Int), (0, ())) := num8_eq s (by omega)
theorem num_long (s : List UInt8) (hs : 8 < s.length) : f59_F (s, ()) = some (0, (1, ())) := by
  rw [f59_eq]
  have h : decide ((s.length : Int) > 8) = true := by simp; omega
  rw [h, cond_true]
def parse : Nat → List UInt8 → Option (List (List UInt8))
  | 0, s => if s = [] then some [] else none
  | k + 1, s => if s = [] then some [] else if s.length < 4 then none else
      if num (s.take 4) > 4096 ∨ num (s.take 4) > (s.drop 4).length then none else
        (parse k ((s.drop 4).drop (num (s.take 4)))).map fun r => (s.drop 4).take (num (s.take 4)) :: r
def readOut (l : List (List UInt8)) : Option (List (List UInt8)) → OutDen f62_p1_outs
  | some r => .inl (f62_p1_o0_y (l ++ r))
  | none => .inr (f62_p1_o1_y 41)
theorem read_guard (t : List UInt8) (n : Nat) (l : List (List UInt8)) (ht : t.length < 18446744073709551616) :
    f62_p0_F (f62_p0_y t (n : Int) l) = some (f62_p0_o0_y t (n : Int) (decide (n > 4096 ∨ n > t.length)) l) := by
  rw [f62_p0_eq, wrapU64 (by omega) (by omega)]
  by_cases h : n > 4096
  · have h1 : decide ((n : Int) > 4096) = true := by simp; omega
    rw [h1, cond_true]; simp [h]
  · have h1 : decide ((n : Int) > 4096) = false := by simp; omega
    rw [h1, cond_false]
    have h2 : decide ((n : Int) > (t.length : Int)) = decide (n > 4096 ∨ n > t.length) := by
      apply decide_eq_decide.2; omega
    rw [h2]
theorem read_loop : ∀ (k : Nat) (s : List UInt8) (l : List (List UInt8)), s.length ≤ k → s.length + l.length < 4294967296 → ∀ n, k + 1 ≤ n →
    iter f62_p1_st n (f62_p1_y s l) = some (readOut l (parse k s)) := by
  intro k
  induction k with
  | zero =>
    intro s l hs hb n hn
    obtain ⟨n, rfl⟩ : ∃ j, n = j + 1 := ⟨n - 1, by omega⟩
    have : s = [] := List.length_eq_zero_iff.1 (by omega)
    subst this
    rw [iter, f62_p1_eq]
    simp [parse, readOut]
  | succ k ih =>
    intro s l hs hb n hn
    obtain ⟨n, rfl⟩ : ∃ j, n = j + 1 := ⟨n - 1, by omega⟩
    rw [iter, f62_p1_eq]
    by_cases h0 : s = []
    · subst h0; simp [parse, readOut]
    have h1 : (s != []) = true := by simp [h0]
    rw [h1, cond_true]
    by_cases h4 : s.length < 4
    · have h2 : decide ((s.length : Int) < 4) = true := by simp; omega
      rw [h2, cond_true]
      simp [parse, h0, h4, readOut]
    have h2 : decide ((s.length : Int) < 4) = false := by simp; omega
    rw [h2, cond_false, cutHi, if_pos (by omega)]
    have e4 : Int.toNat 4 = 4 := rfl
    rw [e4, num_eq _ (by simp; omega), Option.bind_some, cutLo, if_pos (by omega), e4]
    show ((f62_p0_F (f62_p0_y (s.drop 4) (num (s.take 4) : Nat) l)).bind _) = _
    rw [read_guard _ _ _ (by simp; omega), Option.bind_some]
    have a1 : ∀ (t : List UInt8) (x : Int) (b : Bool) (m : List (List UInt8)), f62_p0_o0_x28 (f62_p0_o0_y t x b m) = b := fun _ _ _ _ => rfl
    have a2 : ∀ (t : List UInt8) (x : Int) (b : Bool) (m : List (List UInt8)), f62_p0_o0_x0 (f62_p0_o0_y t x b m) = t := fun _ _ _ _ => rfl
    have a3 : ∀ (t : List UInt8) (x : Int) (b : Bool) (m : List (List UInt8)), f62_p0_o0_x5 (f62_p0_o0_y t x b m) = x := fun _ _ _ _ => rfl
    have a4 : ∀ (t : List UInt8) (x : Int) (b : Bool) (m : List (List UInt8)), f62_p0_o0_l0 (f62_p0_o0_y t x b m) = m := fun _ _ _ _ => rfl
    rw [a1]
    by_cases hg : num (s.take 4) > 4096 ∨ num (s.take 4) > (s.drop 4).length
    · rw [decide_eq_true hg, cond_true]
      simp only [parse, if_neg h0, if_neg h4, if_pos hg]; rfl
    rw [decide_eq_false hg, cond_false, a2, a3, a4]
    rw [cutHi, if_pos (by omega), appOk, if_pos (by simp at hb ⊢; omega), cutLo, if_pos (by omega), Int.toNat_natCast]
    have hlen : ((s.drop 4).drop (num (s.take 4))).length ≤ s.length - 4 := by simp; omega
    rw [ih _ _ (by omega) (by simp at hlen hb ⊢; omega) n (by omega)]
    simp only [parse, if_neg h0, if_neg h4, if_neg hg]
    cases parse k ((s.drop 4).drop (num (s.take 4))) with
    | none => rfl
    | some r => simp [readOut]
theorem read_eq (s : List UInt8) (hb : s.length < 1073741824) : f62_F (s, ()) = some (match parse s.length s with | some r => (r, (0, ())) | none => ([], (41, ()))) := by
  rw [f62_eq]
  have : go f62_p1_st (f62_p1_y s []) = some (readOut [] (parse s.length s)) := by
    refine go_le (m := s.length + 1) (fun n hn => ?_) ?_
    · exact read_loop s.length s [] (by omega) (by simp; omega) n hn
    · simp only [fuelOf, fuelL, SAV.fuel, Ty.fuel, fuelR, fuelT, f62_p1_y]
      omega
  rw [this, Option.bind_some]
  cases parse s.length s <;> rfl
def frame (s : List UInt8) : List UInt8 := be4 s.length ++ s
theorem be4_length (n : Nat) : (be4 n).length = 4 := rfl
theorem frame_eq (s : List UInt8) (h : s.length ≤ 4096) : f43_F (s, ()) = some (frame s, (0, ())) := by
  rw [f43_eq]
  have h1 : decide ((s.length : Int) > 4096) = false := by simp; omega
  rw [h1, cond_false, wrapU64 (by omega) (by omega), big_eq _ (by omega), Option.bind_some]
  rw [if_pos (by rw [be4_length]; omega)]; rfl
theorem frame_long (s : List UInt8) (h : 4096 < s.length) : f43_F (s, ()) = some ([], (2, ())) := by
  rw [f43_eq]
  have h1 : decide ((s.length : Int) > 4096) = true := by simp; omega
  rw [h1, cond_true]
theorem num_be4 (n : Nat) (h : n < 4294967296) : num (be4 n) = n := by
  simp only [num, be4, List.foldl_cons, List.foldl_nil, UInt8.toNat_ofNat']
  omega
theorem parse_frames : ∀ (l : List (List UInt8)) (k : Nat), (∀ s ∈ l, s.length ≤ 4096) → (l.flatMap frame).length ≤ k → parse k (l.flatMap frame) = some l
  | [], 0, _, _ => by simp [parse]
  | [], k + 1, _, _ => by simp [parse]
  | s :: l, 0, _, h => by simp [frame, be4_length] at h
  | s :: l, k + 1, hs, h => by
    have hs0 := hs s (by simp)
    have e : (s :: l).flatMap frame = be4 s.length ++ (s ++ l.flatMap frame) := by rw [List.flatMap_cons, frame, List.append_assoc]
    rw [e] at h ⊢
    have h1 : be4 s.length ++ (s ++ l.flatMap frame) ≠ [] := by simp [be4]
    have h2 : ¬ (be4 s.length ++ (s ++ l.flatMap frame)).length < 4 := by rw [List.length_append, be4_length]; omega
    have h3 : (be4 s.length ++ (s ++ l.flatMap frame)).take 4 = be4 s.length := by rw [List.take_append_of_le_length (by rw [be4_length]; omega), List.take_of_length_le (by rw [be4_length]; omega)]
    have h4 : (be4 s.length ++ (s ++ l.flatMap frame)).drop 4 = s ++ l.flatMap frame := by rw [List.drop_append_of_le_length (by rw [be4_length]; omega), List.drop_of_length_le (by rw [be4_length]; omega)]; rfl
    simp only [parse, if_neg h1, if_neg h2, h3, h4, num_be4 _ (show s.length < 4294967296 by omega)]
    rw [if_neg (by simp; omega)]
    have h5 : (s ++ l.flatMap frame).drop s.length = l.flatMap frame := by simp
    have h6 : (s ++ l.flatMap frame).take s.length = s := by simp
    rw [h5, h6, parse_frames l k (fun t ht => hs t (by simp [ht])) (by rw [List.length_append, List.length_append, be4_length] at h; omega)]
    rfl
end Go.Pe.Try
end
section
namespace Go.Pe.X18
def Uni (s : List (List UInt8)) : Prop := ∀ x ∈ s, x.length = 128
theorem flat_len : ∀ {s : List (List UInt8)}, Uni s → s.flatten.length = 128 * s.length
  | [], _ => rfl
  | x :: s, h => by
    have h1 := h x (by simp)
    have h2 := flat_len (s := s) fun y hy => h y (by simp [hy])
    simp only [List.flatten_cons, List.length_append, List.length_cons, h1, h2]; omega
theorem flat_get : ∀ {s : List (List UInt8)}, Uni s → ∀ i, s.flatten[i]? = (s[i / 128]?).bind fun x => x[i % 128]?
  | [], _, i => by simp
  | x :: s, h, i => by
    have h1 := h x (by simp)
    have ih := flat_get (s := s) fun y hy => h y (by simp [hy])
    rw [List.flatten_cons]
    by_cases hi : i < 128
    · rw [List.getElem?_append_left (by omega), Nat.div_eq_of_lt hi, Nat.mod_eq_of_lt hi]; rfl
    · rw [List.getElem?_append_right (by omega), h1, ih, show i / 128 = (i - 128) / 128 + 1 by omega, show i % 128 = (i - 128) % 128 by omega]; rfl
def chunk (all : List UInt8) (j : Nat) : List UInt8 := (all.take ((j + 1) * 128)).drop (j * 128)
theorem chunk_get (all : List UInt8) (j k : Nat) (hk : k < 128) : (chunk all j)[k]? = all[j * 128 + k]? := by
  unfold chunk
  rw [List.getElem?_drop, List.getElem?_take_of_lt (by omega)]
theorem chunk_len (all : List UInt8) (j : Nat) (h : (j + 1) * 128 ≤ all.length) : (chunk all j).length = 128 := by
  unfold chunk; simp; omega
def writes (all : List UInt8) (lo : Nat) : Nat → List (Int × List UInt8)
  | 0 => []
  | n + 1 => ((lo : Int), chunk all lo) :: writes all (lo + 1) n
theorem writes_len (all : List UInt8) : ∀ (lo n : Nat), (writes all lo n).length = n
  | _, 0 => rfl
  | lo, n + 1 => by simp [writes, writes_len all (lo + 1) n]
theorem writes_mem {all : List UInt8} : ∀ {lo n : Nat} {w : Int × List UInt8}, w ∈ writes all lo n ↔ ∃ j, lo ≤ j ∧ j < lo + n ∧ w = ((j : Int), chunk all j)
  | lo, 0, w => by simp [writes]; omega
  | lo, n + 1, w => by
    rw [writes, List.mem_cons, writes_mem]
    constructor
    · rintro (rfl | ⟨j, h1, h2, rfl⟩)
      · exact ⟨lo, Nat.le_refl _, by omega, rfl⟩
      · exact ⟨j, by omega, by omega, rfl⟩
    · rintro ⟨j, h1, h2, rfl⟩
      by_cases e : j = lo
      · left; rw [e]
      · right; exact ⟨j, by omega, by omega, rfl⟩
theorem writes_snoc (all : List UInt8) : ∀ (lo n : Nat), writes all lo (n + 1) = writes all lo n ++ [(((lo + n : Nat) : Int), chunk all (lo + n))]
  | lo, 0 => by simp [writes]
  | lo, n + 1 => by
    rw [writes, writes_snoc all (lo + 1) n, writes, show lo + 1 + n = lo + (n + 1) by omega]; rfl
def put (s : List (List UInt8)) (l : List (Int × List UInt8)) : List (List UInt8) := l.foldl (fun s w => s.set w.1.toNat w.2) s
theorem put_len (l : List (Int × List UInt8)) : ∀ s, (put s l).length = s.length := by
  induction l with
  | nil => intro s; rfl
  | cons w l ih => intro s; show (put (s.set _ _) l).length = _; rw [ih]; simp
def Of (all : List UInt8) (n : Nat) (l : List (Int × List UInt8)) : Prop := ∀ w ∈ l, ∃ j, j < n ∧ w = ((j : Int), chunk all j)
theorem put_get {all : List UInt8} {n : Nat} : ∀ {l : List (Int × List UInt8)}, Of all n l → ∀ {s : List (List UInt8)}, s.length = n → ∀ j : Nat, (put s l)[j]? = if (j : Int) ∈ l.map (·.1) then some (chunk all j) else s[j]?
  | [], _, s, _, j => by simp [put]
  | w :: l, h, s, hs, j => by
    obtain ⟨k, hk, rfl⟩ := h w (by simp)
    have ih := put_get (l := l) (fun w hw => h w (by simp [hw])) (s := s.set k (chunk all k)) (by simp [hs]) j
    show (put (s.set (Int.toNat (k : Int)) (chunk all k)) l)[j]? = _
    rw [Int.toNat_natCast, ih]
    by_cases h1 : (j : Int) ∈ l.map (·.1)
    · rw [if_pos h1, if_pos (by simp only [List.map_cons, List.mem_cons]; exact .inr h1)]
    · rw [if_neg h1, List.getElem?_set]
      by_cases h2 : k = j
      · subst h2
        rw [if_pos rfl, if_pos (by omega), if_pos (by simp)]
      · rw [if_neg h2, if_neg]
        simp only [List.map_cons, List.mem_cons, not_or]
        exact ⟨by omega, h1⟩
theorem put_uni {all : List UInt8} {n : Nat} {l : List (Int × List UInt8)} (h : Of all n l) (hall : 128 * n ≤ all.length) {s : List (List UInt8)} (hs : s.length = n) (hu : Uni s) : Uni (put s l) := by
  intro x hx
  obtain ⟨j, hj⟩ := List.mem_iff_getElem?.1 hx
  rw [put_get h hs] at hj
  split at hj
  · rename_i hm
    cases hj
    have hjn : j < n := by
      rw [List.mem_map] at hm
      obtain ⟨w, hw, e⟩ := hm
      obtain ⟨k, hk, rfl⟩ := h w hw
      simp only at e; omega
    exact chunk_len all j (by omega)
  · exact hu x (List.mem_of_getElem? hj)
theorem put_flat {all : List UInt8} {n : Nat} {l : List (Int × List UInt8)} (h : Of all n l) (hall : all.length = 128 * n) {s : List (List UInt8)} (hs : s.length = n) (hu : Uni s) (i : Nat) :
    (put s l).flatten[i]? = if ((i / 128 : Nat) : Int) ∈ l.map (·.1) then all[i]? else s.flatten[i]? := by
  rw [flat_get (put_uni h (by omega) hs hu), put_get h hs, flat_get hu]
  split
  · rw [Option.bind_some, chunk_get _ _ _ (Nat.mod_lt _ (by omega))]
    congr 1; omega
  · rfl
def whole (s : List (List UInt8)) (used : Nat) (data : List UInt8) : List UInt8 := s.flatten.take used ++ data ++ List.replicate (128 * s.length - used - data.length) 0
theorem whole_len {s : List (List UInt8)} (hu : Uni s) {used : Nat} {data : List UInt8} (h : used + data.length ≤ 128 * s.length) : (whole s used data).length = 128 * s.length := by
  have := flat_len hu
  unfold whole
  generalize s.flatten = t at this ⊢
  simp only [List.length_append, List.length_take, List.length_replicate]; omega
theorem whole_take {s : List (List UInt8)} (hu : Uni s) {used : Nat} {data : List UInt8} (h : used + data.length ≤ 128 * s.length) : (whole s used data).take (used + data.length) = s.flatten.take used ++ data := by
  have := flat_len hu
  unfold whole
  generalize s.flatten = t at this ⊢
  rw [List.take_append_of_le_length (by simp; omega), List.take_of_length_le (by simp; omega)]
theorem whole_below {s : List (List UInt8)} (hu : Uni s) {used : Nat} {data : List UInt8} (h : used ≤ 128 * s.length) {i : Nat} (hi : i < used) : (whole s used data)[i]? = s.flatten[i]? := by
  have := flat_len hu
  unfold whole
  generalize s.flatten = t at this ⊢
  rw [List.append_assoc, List.getElem?_append_left (by simp; omega), List.getElem?_take_of_lt hi]
def many (used : Nat) (data : List UInt8) : Nat := if data = [] then 0 else (used + data.length + 127) / 128 - used / 128
def lays (s : List (List UInt8)) (used : Nat) (data : List UInt8) : List (Int × List UInt8) := writes (whole s used data) (used / 128) (many used data)
theorem lay_of {s : List (List UInt8)} {used : Nat} {data : List UInt8} (h : used + data.length ≤ 128 * s.length) : Of (whole s used data) s.length (lays s used data) := by
  intro w hw
  obtain ⟨j, h1, h2, rfl⟩ := writes_mem.1 hw
  refine ⟨j, ?_, rfl⟩
  unfold many at h2
  split at h2
  · omega
  · omega
theorem lay_mem {s : List (List UInt8)} {used : Nat} {data : List UInt8} (hd : data ≠ []) (j : Nat) : (j : Int) ∈ (lays s used data).map (·.1) ↔ used / 128 ≤ j ∧ j * 128 < used + data.length := by
  have hp : 0 < data.length := List.length_pos_iff.2 hd
  rw [List.mem_map]
  constructor
  · rintro ⟨w, hw, e⟩
    obtain ⟨k, h1, h2, rfl⟩ := writes_mem.1 hw
    unfold many at h2
    rw [if_neg hd] at h2
    simp only at e
    omega
  · rintro ⟨h1, h2⟩
    refine ⟨_, writes_mem.2 ⟨j, h1, ?_, rfl⟩, rfl⟩
    unfold many
    rw [if_neg hd]; omega
theorem lay_text {s : List (List UInt8)} (hu : Uni s) {used : Nat} {data : List UInt8} (h : used + data.length ≤ 128 * s.length) : (put s (lays s used data)).flatten.take (used + data.length) = s.flatten.take used ++ data := by
  by_cases hd : data = []
  · subst hd
    have : lays s used [] = [] := by simp [lays, many, writes]
    rw [this]; simp [put]
  · rw [← whole_take hu h]
    apply List.ext_getElem?
    intro i
    by_cases hi : i < used + data.length
    · rw [List.getElem?_take_of_lt hi, List.getElem?_take_of_lt hi, put_flat (lay_of h) (whole_len hu h) rfl hu]
      split
      · rfl
      · rename_i hm
        rw [lay_mem hd] at hm
        rw [whole_below hu (by omega) (by omega)]
    · rw [List.getElem?_eq_none (by rw [List.length_take]; omega), List.getElem?_eq_none (by rw [List.length_take]; omega)]
theorem some_text {s : List (List UInt8)} (hu : Uni s) {used : Nat} {data : List UInt8} (h : used + data.length ≤ 128 * s.length) {l : List (Int × List UInt8)} (hl : Of (whole s used data) s.length l) : (put s l).flatten.take used = s.flatten.take used := by
  apply List.ext_getElem?
  intro i
  by_cases hi : i < used
  · rw [List.getElem?_take_of_lt hi, List.getElem?_take_of_lt hi, put_flat hl (whole_len hu h) rfl hu]
    split
    · exact whole_below hu (by omega) hi
    · rfl
  · rw [List.getElem?_eq_none (by rw [List.length_take]; omega), List.getElem?_eq_none (by rw [List.length_take]; omega)]
end Go.Pe.X18
end
section
namespace Go.Pe.Try
open Go.Proofs Go.RowKit Go.Pe.X18
set_option maxRecDepth 100000
set_option linter.unusedSimpArgs false
set_option linter.unusedVariables false
theorem ne128 (x : List UInt8) : ((x.length : Int) != 128) = decide (x.length ≠ 128) := by
  by_cases h : x.length = 128
  · simp [h]
  · have : (x.length : Int) ≠ 128 := by omega
    simp [h, this]
theorem short_eq (x : List UInt8) : f76_F (x, ()) = some (decide (x.length ≠ 128), ()) := by rw [f76_eq, ne128]
instance (s : List (List UInt8)) : Decidable (Uni s) := inferInstanceAs (Decidable (∀ x ∈ s, x.length = 128))
theorem index_eq (l : List (List UInt8)) (hl : l.length < 4611686018427387904) : ∃ n : Int, h74a_F (h74a_y l) = some (h74a_o_y n) ∧ decide (n ≥ 0) = !decide (Uni l) := by
  rw [h74a_eq]
  rcases first_bad (fun x : List UInt8 => x.length = 128) l with h | ⟨k, hk, h1, h2⟩
  · have hgo : go h74a_p0_st (h74a_p0_y l l.length 0) = some (.inl h74a_p0_o0_y) := by
      refine go_seq (y := fun i => h74a_p0_y l l.length i) (n := l.length) (fun i hi rec => ?_) (fun rec => ?_) ?_
      · rw [h74a_p0_eq, nth_lt hi, Option.bind_some, short_eq, Option.bind_some, wrap64 (by omega) (by omega)]
        have : l[i].length = 128 := h _ (List.getElem_mem hi)
        simp [hi, this]
      · rw [h74a_p0_eq]; simp
      · simp only [h74a_p0_y, fuelOf, fuelL, SAV.fuel, Ty.fuel, fuelR, fuelT]; omega
    rw [hgo]
    have hu : Uni l := h
    exact ⟨_, rfl, by simp [hu]⟩
  · have hgo : go h74a_p0_st (h74a_p0_y l l.length 0) = some (.inr (h74a_p0_o1_y k)) := by
      refine go_seq (y := fun i => h74a_p0_y l l.length i) (n := k) (fun i hi rec => ?_) (fun rec => ?_) ?_
      · rw [h74a_p0_eq, nth_lt (by omega : i < l.length), Option.bind_some, short_eq, Option.bind_some, wrap64 (by omega) (by omega)]
        have : (l[i]'(by omega)).length = 128 := h2 i hi
        have h3 : (i : Int) < l.length := by omega
        simp [h3, this]
      · rw [h74a_p0_eq, nth_lt hk, Option.bind_some, short_eq, Option.bind_some]
        have h3 : (k : Int) < l.length := by omega
        simp [h3, h1]
      · simp only [h74a_p0_y, fuelOf, fuelL, SAV.fuel, Ty.fuel, fuelR, fuelT]; omega
    rw [hgo]
    have hu : ¬ Uni l := fun hu => h1 (hu _ (List.getElem_mem hk))
    exact ⟨_, rfl, by simp [hu, h74a_p0_o1_x4_y]⟩
theorem contains_eq (l : List (List UInt8)) (hl : l.length < 4611686018427387904) : h56a_F (h56a_y l) = some (h56a_o_y (!decide (Uni l))) := by
  rw [h56a_eq]
  obtain ⟨n, h1, h2⟩ := index_eq l hl
  rw [h1, Option.bind_some]
  simp only [h74a_o_x0_y]
  rw [h2]

def May (s : List (List UInt8)) (used : Int) : Prop := s.length ≤ 64 ∧ Uni s ∧ 0 ≤ used ∧ used ≤ 128 * s.length
instance (s : List (List UInt8)) (used : Int) : Decidable (May s used) := inferInstanceAs (Decidable (_ ∧ _ ∧ _ ∧ _))
theorem may_eq (s : List (List UInt8)) (used : Int) (hl : s.length ≤ 66) : f60_F ((s, (used, ())), ()) = some (decide (May s used), ()) := by
  rw [f60_eq, contains_eq s (by omega), Option.bind_some, wrap64 (by omega) (by omega)]
  simp only [h56a_o_x0_y, Bool.not_not]
  by_cases h1 : s.length ≤ 64
  · by_cases h2 : Uni s
    · by_cases h3 : 0 ≤ used
      · have h4 : (s.length : Int) ≤ 64 := by omega
        simp only [May, h1, h2, h3, h4, ge_iff_le, decide_true, cond_true, true_and, show ((s.length : Int) * 128) = 128 * (s.length : Int) from Int.mul_comm _ _]
      · have h4 : (s.length : Int) ≤ 64 := by omega
        simp [May, h2, h3, h4]
    · have h4 : (s.length : Int) ≤ 64 := by omega
      simp [May, h2, h4]
  · have h4 : ¬ (s.length : Int) ≤ 64 := by omega
    have h5 : ¬ May s used := fun h => h1 h.1
    simp [h4, h5]
theorem join_flat (s : List (List UInt8)) : Lib.join s [] = s.flatten := by
  cases s with
  | nil => rfl
  | cons x r => rw [Lib.join_cons, Lib.joinTail, List.flatten_cons]; simp
theorem flat_small {s : List (List UInt8)} (hu : Uni s) (h : s.length ≤ 66) : s.flatten.length ≤ 8448 := by rw [flat_len hu]; omega
theorem bytes_eq (s : List (List UInt8)) (hu : Uni s) (hl : s.length ≤ 66) : f61_F ((s, ()), ()) = some (s.flatten, ()) := by
  have := flat_small hu hl
  rw [f61_eq]
  unfold joinF
  simp only [join_flat]
  rw [if_pos ⟨by omega, by omega⟩]; rfl
theorem text_eq (s : List (List UInt8)) (used : Int) (hl : s.length ≤ 66) : f28_F (s, (used, ())) = if May s used then some (s.flatten.take used.toNat, (0, ())) else some ([], (1, ())) := by
  rw [f28_eq, may_eq s used hl, Option.bind_some]
  by_cases h : May s used
  · rw [if_pos h]
    simp only [h, decide_true, Bool.not_true, cond_false]
    rw [bytes_eq s h.2.1 hl, Option.bind_some]
    obtain ⟨n, rfl⟩ := Int.eq_ofNat_of_zero_le h.2.2.1
    have h4 := h.2.2.2
    rw [cutHi_nat' _ _ _ (by rw [flat_len h.2.1]; omega)]
    rfl
  · rw [if_neg h]; simp [h]
theorem tdiv128 (n : Nat) : Int.tdiv (n : Int) 128 = ((n / 128 : Nat) : Int) := by
  rw [Int.tdiv_eq_ediv_of_nonneg (by omega)]; omega
theorem lay_loop (used : Nat) (data all : List UInt8) (hd : data ≠ []) (ha : all.length ≤ 8448) (hall : used + data.length ≤ all.length) (h128 : all.length % 128 = 0) :
    go f44_p0_st (f44_p0_y used data all ((used / 128 : Nat) : Int) []) = some (f44_p0_o0_y (writes all (used / 128) (many used data))) := by
  have hp : 0 < data.length := List.length_pos_iff.2 hd
  have hm : many used data = (used + data.length + 127) / 128 - used / 128 := by unfold many; rw [if_neg hd]
  refine go_seq (y := fun i => f44_p0_y used data all ((used / 128 + i : Nat) : Int) (writes all (used / 128) i)) (n := many used data) (fun i hi rec => ?_) (fun rec => ?_) ?_
  · rw [f44_p0_eq]
    have w1 : IntKind.i64.wrap (((used / 128 + i : Nat) : Int) * 128) = (((used / 128 + i) * 128 : Nat) : Int) := by rw [wrap64 (by omega) (by omega)]; omega
    have w2 : IntKind.i64.wrap ((used : Int) + (data.length : Int)) = ((used + data.length : Nat) : Int) := by rw [wrap64 (by omega) (by omega)]; omega
    have w3 : IntKind.i64.wrap (((used / 128 + i : Nat) : Int) + 1) = ((used / 128 + (i + 1) : Nat) : Int) := by rw [wrap64 (by omega) (by omega)]; omega
    have w4 : IntKind.i64.wrap (((used / 128 + (i + 1) : Nat) : Int) * 128) = (((used / 128 + i + 1) * 128 : Nat) : Int) := by rw [wrap64 (by omega) (by omega)]; omega
    rw [w1, w2, w3, w4, cutMid_nat' _ _ _ _ (by omega) (by omega), appOk_lt (by rw [writes_len]; simp; omega)]
    have h3 : (((used / 128 + i) * 128 : Nat) : Int) < ((used + data.length : Nat) : Int) := by omega
    simp only [h3, decide_true, cond_true]
    rw [writes_snoc]; rfl
  · rw [f44_p0_eq]
    have w1 : IntKind.i64.wrap (((used / 128 + many used data : Nat) : Int) * 128) = (((used / 128 + many used data) * 128 : Nat) : Int) := by rw [wrap64 (by omega) (by omega)]; omega
    have w2 : IntKind.i64.wrap ((used : Int) + (data.length : Int)) = ((used + data.length : Nat) : Int) := by rw [wrap64 (by omega) (by omega)]; omega
    rw [w1, w2]
    have h3 : ¬ (((used / 128 + many used data) * 128 : Nat) : Int) < ((used + data.length : Nat) : Int) := by omega
    simp only [h3, decide_false, cond_false]
  · simp only [f44_p0_y, fuelOf, fuelL, SAV.fuel, Ty.fuel, fuelR, fuelT]; omega
theorem repeat_zero (n : Nat) (h : n ≤ 8448) : repeatF ([0], ((n : Int), ())) = some (List.replicate n 0, ()) := by
  unfold repeatF
  simp only [Int.toNat_natCast, List.length_singleton, Nat.one_mul]
  rw [if_pos (show (0 : Int) ≤ (n : Int) ∧ (n : Int) ≤ 9223372036854775807 ∧ n ≤ 140737488355328 from ⟨by omega, by omega, by omega⟩)]
  congr 2
  clear h
  induction n with
  | zero => rfl
  | succ n ih => rw [Lib.repeatL, List.replicate_succ, ih]; rfl
theorem lay_eq (s : List (List UInt8)) (used : Int) (data : List UInt8) (hl : s.length ≤ 66) (hd : data.length ≤ 8448) (hr : -9223372036854775808 ≤ used ∧ used < 9223372036854775808) : f44_F (s, (used, (data, ()))) =
    if May s used then (if (data.length : Int) > 128 * s.length - used then some ([], (40, ())) else some (lays s used.toNat data, (0, ()))) else some ([], (1, ())) := by
  rw [f44_eq, may_eq s used hl, Option.bind_some]
  by_cases h : May s used
  · rw [if_pos h]
    obtain ⟨n, rfl⟩ := Int.eq_ofNat_of_zero_le h.2.2.1
    have h4 := h.2.2.2
    have hu := h.2.1
    have hn : n ≤ 8448 := by omega
    have w1 : IntKind.i64.wrap ((s.length : Int) * 128) = 128 * (s.length : Int) := by rw [wrap64 (by omega) (by omega)]; omega
    have w2 : IntKind.i64.wrap (128 * (s.length : Int) - (n : Int)) = 128 * (s.length : Int) - (n : Int) := wrap64 (by omega) (by omega)
    simp only [h, decide_true, Bool.not_true, cond_false, w1, w2]
    by_cases h5 : (data.length : Int) > 128 * s.length - n
    · simp only [h5, decide_true, cond_true, if_true]
    · simp only [h5, decide_false, cond_false, if_false]
      have hflat := flat_len hu
      by_cases h6 : data = []
      · subst h6
        simp [lays, many, writes]
      · have h7 : (data == []) = false := by simp [h6]
        have w3 : IntKind.i64.wrap (128 * (s.length : Int) - (n : Int) - (data.length : Int)) = ((128 * s.length - n - data.length : Nat) : Int) := by rw [wrap64 (by omega) (by omega)]; omega
        rw [h7, cond_false, bytes_eq s hu hl, Option.bind_some]
        dsimp only
        rw [cutHi_nat' _ _ _ (by omega), if_pos (by rw [List.length_take]; omega), w3, repeat_zero _ (by omega), Option.bind_some, if_pos (by simp only [List.length_append, List.length_take, List.length_replicate]; omega)]
        have hw : s.flatten.take n ++ data ++ List.replicate (128 * s.length - n - data.length) 0 = whole s n data := rfl
        simp only [hw]
        have hwl := whole_len hu (used := n) (data := data) (by omega)
        rw [f44_p1_eq, tdiv128]
        have w4 : IntKind.i64.wrap ((n / 128 : Nat) : Int) = ((n / 128 : Nat) : Int) := wrap64 (by omega) (by omega)
        rw [w4, lay_loop n data _ h6 (by omega) (by omega) (by omega)]
        simp only [Option.bind_some, f44_p1_o0_l0_y, f44_p1_o0_x7_y, f44_p0_o0_l0_y]
        rfl
  · rw [if_neg h]; simp [h]
theorem may_of {s : List (List UInt8)} (hu : Uni s) (hl : s.length ≤ 64) {used : Nat} (h : used ≤ 128 * s.length) : May s (used : Int) := ⟨hl, hu, by omega, by omega⟩
theorem lay_ok {s : List (List UInt8)} (hu : Uni s) (hl : s.length ≤ 64) {used : Nat} {data : List UInt8} (h : used + data.length ≤ 128 * s.length) : f44_F (s, ((used : Int), (data, ()))) = some (lays s used data, (0, ())) := by
  rw [lay_eq s used data (by omega) (by omega) ⟨by omega, by omega⟩, if_pos (may_of hu hl (by omega)), if_neg (by omega)]; rfl
theorem text_ok {s : List (List UInt8)} (hu : Uni s) (hl : s.length ≤ 64) {used : Nat} (h : used ≤ 128 * s.length) : f28_F (s, ((used : Int), ())) = some (s.flatten.take used, (0, ())) := by
  rw [text_eq s used (by omega), if_pos (may_of hu hl h)]; rfl
end Go.Pe.Try
end
section
namespace Go.Pe
open Go.RowKit
set_option linter.unusedSectionVars false
variable [GI]
theorem go_scan {sh : Shape} {α β : Type} {step : (sh.den → Option β) → sh.den → Option β} {l : List α} (y : Nat → sh.den) (p : α → Bool) (out : Nat → Option β) (fin : Option β)
    (h1 : ∀ i (h : i < l.length) rec, step rec (y i) = bif p l[i] then out i else rec (y (i + 1))) (h2 : ∀ rec, step rec (y l.length) = fin) (hm : l.length + 1 ≤ fuelOf sh (y 0)) :
    go step (y 0) = match l.findIdx? p with | some k => out k | none => fin := by
  cases hf : l.findIdx? p with
  | none =>
    rw [List.findIdx?_eq_none_iff] at hf
    refine go_seq (y := y) (n := l.length) (fun i hi rec => ?_) h2 hm
    rw [h1 i hi, hf _ (List.getElem_mem hi)]; rfl
  | some k =>
    rw [List.findIdx?_eq_some_iff_getElem] at hf
    obtain ⟨hk, hp, hlt⟩ := hf
    refine go_seq (y := y) (n := k) (fun i hi rec => ?_) (fun rec => ?_) (by omega)
    · rw [h1 i (by omega)]
      have := hlt i hi
      simp only [Bool.not_eq_true] at this
      rw [this]; rfl
    · rw [h1 k hk, hp]; rfl
def foldi {σ α : Type} (f : Nat → σ → α → σ) : Nat → σ → List α → σ
  | _, s, [] => s
  | k, s, x :: l => foldi f (k + 1) (f k s x) l
theorem foldi_eq {σ α : Type} (f : σ → α → σ) : ∀ (l : List α) (k : Nat) (s : σ), foldi (fun _ => f) k s l = l.foldl f s
  | [], _, _ => rfl
  | x :: l, k, s => foldi_eq f l (k + 1) (f s x)
theorem go_foldi {sh : Shape} {σ α β : Type} {step : (sh.den → Option β) → sh.den → Option β} {l : List α} (y : Nat → σ → sh.den) (f : Nat → σ → α → σ) (Inv : Nat → σ → Prop) {s0 : σ} {fin : σ → Option β} (h0 : Inv 0 s0)
    (h1 : ∀ i s (h : i < l.length), Inv i s → Inv (i + 1) (f i s l[i]) ∧ ∀ rec, step rec (y i s) = rec (y (i + 1) (f i s l[i]))) (h2 : ∀ s, Inv l.length s → ∀ rec, step rec (y l.length s) = fin s) (hm : l.length + 1 ≤ fuelOf sh (y 0 s0)) :
    go step (y 0 s0) = fin (foldi f 0 s0 l) ∧ Inv l.length (foldi f 0 s0 l) := by
  have key : ∀ (l' : List α) (i : Nat) (s : σ) (m : Nat), l.drop i = l' → i + l'.length = l.length → Inv i s → l'.length + 1 ≤ m → iter step m (y i s) = fin (foldi f i s l') ∧ Inv l.length (foldi f i s l') := by
    intro l'
    induction l' with
    | nil =>
      intro i s m hd hi hI hm
      obtain ⟨m, rfl⟩ : ∃ k, m = k + 1 := ⟨m - 1, by simp at hm; omega⟩
      have : i = l.length := by simpa using hi
      subst this
      exact ⟨by rw [iter, h2 s hI]; rfl, hI⟩
    | cons x l' ih =>
      intro i s m hd hi hI hm
      obtain ⟨m, rfl⟩ : ∃ k, m = k + 1 := ⟨m - 1, by simp at hm; omega⟩
      have hlt : i < l.length := by simp at hi; omega
      have hx : l[i] = x := by
        rw [List.drop_eq_getElem_cons hlt] at hd
        exact (List.cons.inj hd).1
      obtain ⟨hI', hs⟩ := h1 i s hlt hI
      rw [hx] at hI' hs
      have hd' : l.drop (i + 1) = l' := by
        rw [List.drop_eq_getElem_cons hlt] at hd
        exact (List.cons.inj hd).2
      rw [iter, hs]
      exact ih (i + 1) _ m hd' (by simp at hi; omega) hI' (by simp at hm; omega)
  exact key l 0 s0 _ rfl (by simp) h0 hm
end Go.Pe
end
section
namespace Go.Pe.Try
open Go.Proofs Go.RowKit
set_option maxRecDepth 100000
set_option linter.unusedSimpArgs false
set_option linter.unusedVariables false
theorem str_of_bytes (s : List UInt8) : strOf (bytesOf s) = s := by
  induction s with
  | nil => rfl
  | cons b s ih =>
    simp only [bytesOf, strOf, List.map_cons, Int.toNat_natCast] at ih ⊢
    rw [ih, UInt8.ofNat_toNat]
theorem bytes_len (s : List UInt8) : (bytesOf s).length = s.length := by simp [bytesOf]
theorem bytes_app (s t : List UInt8) : bytesOf (s ++ t) = bytesOf s ++ bytesOf t := by simp [bytesOf]
theorem write_eq (x : List UInt8) (l : List Int) (h : l.length + x.length ≤ 4294967296) : h37a_F (h37a_y x l) = some (h37a_o_y (x.length : Int) (l ++ bytesOf x)) := by
  rw [h37a_eq]
  show appOk (l.length + (bytesOf x).length) _ = _
  rw [bytes_len, appOk_lt h]; rfl
theorem len_eq (l : List Int) : h38a_F (h38a_y l) = some (h38a_o_y (l.length : Int) l) := h38a_eq l
theorem string_eq (s : List UInt8) (h : s.length ≤ 4294967296) : h39_F (h39_y (bytesOf s)) = some (h39_o_y s) := by
  show (if bytesOf (strOf (bytesOf s)) = bytesOf s ∧ (bytesOf s).length ≤ 4294967296 then some ((strOf (bytesOf s), ()), (), ()) else none) = _
  rw [str_of_bytes, bytes_len, if_pos ⟨rfl, h⟩]; rfl
def pack (l : List (List UInt8)) : List UInt8 := l.flatMap frame
theorem pack_guard (x : List UInt8) (l : List (List UInt8)) (n i : Int) (acc : List UInt8) (ha : acc.length ≤ 65536) (hx : x.length < 4611686018427387904) :
    f42_p0_F (f42_p0_y x l n i (bytesOf acc)) = some (f42_p0_o0_y x l n i (decide (acc.length + (4 + x.length) > 65536)) (bytesOf acc)) := by
  rw [f42_p0_eq]
  by_cases h : x.length > 65536
  · have h1 : decide ((x.length : Int) > 65536) = true := by simp; omega
    have h2 : decide (acc.length + (4 + x.length) > 65536) = true := by simp; omega
    rw [h1, cond_true, h2]
  · have h1 : decide ((x.length : Int) > 65536) = false := by simp; omega
    rw [h1, cond_false, len_eq, Option.bind_some]
    rw [show h38a_o_x0 (h38a_o_y ((bytesOf acc).length : Int) (bytesOf acc)) = ((bytesOf acc).length : Int) from rfl, show h38a_o_l0 (h38a_o_y ((bytesOf acc).length : Int) (bytesOf acc)) = bytesOf acc from rfl, bytes_len]
    rw [wrap64 (x := (acc.length : Int) + 4) (by omega) (by omega), wrap64 (by omega) (by omega)]
    have h2 : decide ((acc.length : Int) + 4 + (x.length : Int) > 65536) = decide (acc.length + (4 + x.length) > 65536) := by apply decide_eq_decide.2; omega
    rw [h2]
theorem frame_len (s : List UInt8) : (frame s).length = 4 + s.length := by rw [frame, List.length_append, be4_length]
theorem pack_loop (l : List (List UInt8)) (hl : l.length ≤ 64) (hs : ∀ s ∈ l, s.length < 4611686018427387904) : ∀ (d i : Nat), i + d = l.length → ∀ n, d + 1 ≤ n → ∀ acc : List UInt8, acc.length ≤ 65536 →
    iter f42_p1_st n (f42_p1_y l l.length i (bytesOf acc)) = some (if acc.length + (pack (l.drop i)).length ≤ 65536 then .inl (f42_p1_o0_y (bytesOf (acc ++ pack (l.drop i)))) else .inr (f42_p1_o1_y [] 2)) := by
  intro d
  induction d with
  | zero =>
    intro i hi n hn acc ha
    obtain ⟨n, rfl⟩ : ∃ k, n = k + 1 := ⟨n - 1, by omega⟩
    rw [iter, f42_p1_eq]
    have h3 : decide ((i : Int) < (l.length : Int)) = false := by simp; omega
    rw [h3, cond_false, List.drop_eq_nil_of_le (by omega)]
    have : pack [] = [] := rfl
    rw [this, if_pos (by simp; omega), List.append_nil]
  | succ d ih =>
    intro i hi n hn acc ha
    obtain ⟨n, rfl⟩ : ∃ k, n = k + 1 := ⟨n - 1, by omega⟩
    rw [iter, f42_p1_eq]
    have h3 : decide ((i : Int) < (l.length : Int)) = true := by simp; omega
    have hil : i < l.length := by omega
    have hx := hs _ (List.getElem_mem hil)
    rw [h3, cond_true, nth_lt hil, Option.bind_some, pack_guard _ _ _ _ _ ha hx, Option.bind_some]
    have hd : l.drop i = l[i] :: l.drop (i + 1) := List.drop_eq_getElem_cons hil
    have hp : pack (l.drop i) = frame l[i] ++ pack (l.drop (i + 1)) := by rw [hd]; rfl
    rw [hp, List.length_append, frame_len]
    by_cases hg : acc.length + (4 + l[i].length) > 65536
    · rw [if_neg (by omega)]
      rw [show ∀ b, f42_p0_o0_x28 (f42_p0_o0_y l[i] l l.length i b (bytesOf acc)) = b from fun _ => rfl, decide_eq_true hg, cond_true]
    · rw [show ∀ b, f42_p0_o0_x28 (f42_p0_o0_y l[i] l l.length i b (bytesOf acc)) = b from fun _ => rfl, decide_eq_false hg, cond_false]
      rw [show ∀ b, f42_p0_o0_x6 (f42_p0_o0_y l[i] l l.length i b (bytesOf acc)) = l[i] from fun _ => rfl, show ∀ b, f42_p0_o0_l0 (f42_p0_o0_y l[i] l l.length i b (bytesOf acc)) = bytesOf acc from fun _ => rfl]
      rw [wrapU64 (by omega) (by omega), big_eq _ (by omega), Option.bind_some, write_eq _ _ (by rw [bytes_len]; show acc.length + (be4 l[i].length).length ≤ _; rw [be4_length]; omega), Option.bind_some]
      rw [show ∀ (a : Int) (b : List Int), h37a_o_l0 (h37a_o_y a b) = b from fun _ _ => rfl, ← bytes_app, write_eq _ _ (by rw [bytes_len, List.length_append]; show acc.length + (be4 l[i].length).length + _ ≤ _; rw [be4_length]; omega), Option.bind_some]
      rw [show ∀ (a : Int) (b : List Int), h37a_o_l0 (h37a_o_y a b) = b from fun _ _ => rfl, ← bytes_app]
      have hw : IntKind.i64.wrap ((i : Int) + 1) = ((i + 1 : Nat) : Int) := by rw [wrap64 (by omega) (by omega)]; rfl
      show iter f42_p1_st n (f42_p1_y l l.length (IntKind.i64.wrap ((i : Int) + 1)) (bytesOf (acc ++ be4 l[i].length ++ l[i]))) = _
      rw [hw, List.append_assoc, show be4 l[i].length ++ l[i] = frame l[i] from rfl, ih (i + 1) (by omega) n (by omega) _ (by rw [List.length_append, frame_len]; omega)]
      rw [List.length_append, frame_len, List.append_assoc]
      simp only [Nat.add_assoc]
theorem pack_eq (l : List (List UInt8)) (hl : l.length ≤ 64) (hs : ∀ s ∈ l, s.length < 4611686018427387904) : f42_F (l, ()) = some (if (pack l).length ≤ 65536 then (pack l, (0, ())) else ([], (2, ()))) := by
  rw [f42_eq]
  have h1 : decide ((l.length : Int) > 64) = false := by simp; omega
  have h2 : go f42_p1_st (f42_p1_y l l.length 0 []) = some (if (pack l).length ≤ 65536 then .inl (f42_p1_o0_y (bytesOf (pack l))) else .inr (f42_p1_o1_y [] 2)) := by
    refine go_le (m := l.length + 1) (fun n hn => ?_) (by rw [fuel_def]; omega)
    have := pack_loop l hl hs l.length 0 (by omega) n hn [] (by simp)
    simpa [show bytesOf [] = [] from rfl] using this
  rw [h1, cond_false, h2, Option.bind_some]
  by_cases h : (pack l).length ≤ 65536
  · rw [if_pos h, if_pos h]
    show ((h39_F (h39_y (bytesOf (pack l)))).bind _) = _
    rw [string_eq _ (by omega)]; rfl
  · rw [if_neg h, if_neg h]; rfl
def parts : Nat → Nat → List UInt8 → Option (List (List UInt8))
  | 0, _, s => if s = [] then some [] else none
  | k + 1, c, s => if s = [] then some [] else if c = 0 then none else if s.length < 4 then none else
      if num (s.take 4) > (s.drop 4).length then none else (parts k (c - 1) ((s.drop 4).drop (num (s.take 4)))).map fun r => (s.drop 4).take (num (s.take 4)) :: r
def partsOut (e : Int) (l : List (List UInt8)) : Option (List (List UInt8)) → OutDen f58_p0_outs
  | some r => .inl (f58_p0_o0_y (l ++ r))
  | none => .inr (f58_p0_o1_y e)
theorem parts_loop : ∀ (k : Nat) (s : List UInt8) (l : List (List UInt8)), s.length ≤ k → s.length ≤ 65536 → l.length ≤ 64 → ∀ n, k + 1 ≤ n →
    ∃ e : Int, (e = 22 ∨ e = 3) ∧ iter f58_p0_st n (f58_p0_y s l) = some (partsOut e l (parts k (64 - l.length) s)) := by
  intro k
  induction k with
  | zero =>
    intro s l hs hb hl n hn
    obtain ⟨n, rfl⟩ : ∃ j, n = j + 1 := ⟨n - 1, by omega⟩
    have : s = [] := List.length_eq_zero_iff.1 (by omega)
    subst this
    refine ⟨3, .inr rfl, ?_⟩
    rw [iter, f58_p0_eq]
    simp [parts, partsOut]
  | succ k ih =>
    intro s l hs hb hl n hn
    obtain ⟨n, rfl⟩ : ∃ j, n = j + 1 := ⟨n - 1, by omega⟩
    rw [iter, f58_p0_eq]
    by_cases h0 : s = []
    · subst h0; exact ⟨3, .inr rfl, by simp [parts, partsOut]⟩
    have h1 : (s != []) = true := by simp [h0]
    rw [h1, cond_true]
    by_cases hc : l.length = 64
    · have h2 : ((l.length : Int) == 64) = true := by simp; omega
      refine ⟨22, .inl rfl, ?_⟩
      rw [h2, cond_true]
      have h3 : 64 - l.length = 0 := by omega
      simp [parts, h0, h3, partsOut]
    have h2 : ((l.length : Int) == 64) = false := by simp; omega
    rw [h2, cond_false]
    have hc' : ¬ 64 - l.length = 0 := by omega
    by_cases h4 : s.length < 4
    · have h2 : decide ((s.length : Int) < 4) = true := by simp; omega
      refine ⟨3, .inr rfl, ?_⟩
      rw [h2, cond_true]
      simp only [parts, if_neg h0, if_neg hc', if_pos h4, partsOut]
    have h5 : decide ((s.length : Int) < 4) = false := by simp; omega
    rw [h5, cond_false, cutHi, if_pos (by omega)]
    have e4 : Int.toNat 4 = 4 := rfl
    rw [e4, num_eq _ (by simp; omega), Option.bind_some, cutLo, if_pos (by omega), e4]
    rw [wrapU64 (x := ((s.drop 4).length : Int)) (by omega) (by simp; omega)]
    by_cases hg : num (s.take 4) > (s.drop 4).length
    · have h6 : decide ((((num (s.take 4) : Nat) : Int)) > ((s.drop 4).length : Int)) = true := by simp only [decide_eq_true_eq]; omega
      refine ⟨3, .inr rfl, ?_⟩
      show (bif decide ((((num (s.take 4) : Nat) : Int)) > ((s.drop 4).length : Int)) then _ else _) = _
      rw [h6, cond_true]
      simp only [parts, if_neg h0, if_neg hc', if_neg h4, if_pos hg, partsOut]
    have h6 : decide ((((num (s.take 4) : Nat) : Int)) > ((s.drop 4).length : Int)) = false := by simp only [decide_eq_false_iff_not]; omega
    have hlen : ((s.drop 4).drop (num (s.take 4))).length ≤ s.length - 4 := by simp; omega
    obtain ⟨e, he, hit⟩ := ih ((s.drop 4).drop (num (s.take 4))) (l ++ [(s.drop 4).take (num (s.take 4))]) (by omega) (by omega) (by simp; omega) n (by omega)
    refine ⟨e, he, ?_⟩
    show (bif decide ((((num (s.take 4) : Nat) : Int)) > ((s.drop 4).length : Int)) then _ else _) = _
    rw [h6, cond_false, cutHi, if_pos (by omega), appOk, if_pos (by simp; omega), cutLo, if_pos (by omega), Int.toNat_natCast, hit]
    have e64 : 64 - (l ++ [(s.drop 4).take (num (s.take 4))]).length = 64 - l.length - 1 := by simp; omega
    rw [e64]
    simp only [parts, if_neg h0, if_neg hc', if_neg h4, if_neg hg]
    cases parts k (64 - l.length - 1) ((s.drop 4).drop (num (s.take 4))) with
    | none => rfl
    | some r => simp [partsOut]
theorem unpack_eq (s : List UInt8) (h : s.length ≤ 65536) : ∃ e : Int, (e = 22 ∨ e = 3) ∧ f58_F (s, ()) = some (match parts s.length 64 s with | some r => (r, (0, ())) | none => ([], (e, ()))) := by
  obtain ⟨e, he, hit⟩ : ∃ e : Int, (e = 22 ∨ e = 3) ∧ go f58_p0_st (f58_p0_y s []) = some (partsOut e [] (parts s.length 64 s)) := by
    obtain ⟨e, he, hit⟩ := parts_loop s.length s [] (Nat.le_refl _) h (by simp) (fuelOf f58_p0_sh (f58_p0_y s [])) (by rw [fuel_def]; omega)
    exact ⟨e, he, hit⟩
  refine ⟨e, he, ?_⟩
  rw [f58_eq]
  have h1 : decide ((s.length : Int) > 65536) = false := by simp; omega
  rw [h1, cond_false, hit, Option.bind_some]
  cases parts s.length 64 s with
  | none => rfl
  | some r => rfl
theorem parts_pack : ∀ (l : List (List UInt8)) (k c : Nat), (∀ s ∈ l, s.length < 4294967296) → l.length ≤ c → (pack l).length ≤ k → parts k c (pack l) = some l
  | [], 0, _, _, _, _ => by simp [parts, pack]
  | [], k + 1, _, _, _, _ => by simp [parts, pack]
  | s :: l, 0, _, _, _, h => by simp [pack, frame_len] at h
  | s :: l, k + 1, c, hs, hc, h => by
    have hs0 := hs s (by simp)
    have e : pack (s :: l) = be4 s.length ++ (s ++ pack l) := by show frame s ++ _ = _; rw [frame, List.append_assoc]; rfl
    rw [e] at h ⊢
    have h1 : be4 s.length ++ (s ++ pack l) ≠ [] := by simp [be4]
    have h2 : ¬ (be4 s.length ++ (s ++ pack l)).length < 4 := by rw [List.length_append, be4_length]; omega
    have h3 : (be4 s.length ++ (s ++ pack l)).take 4 = be4 s.length := by rw [List.take_append_of_le_length (by rw [be4_length]; omega), List.take_of_length_le (by rw [be4_length]; omega)]
    have h4 : (be4 s.length ++ (s ++ pack l)).drop 4 = s ++ pack l := by rw [List.drop_append_of_le_length (by rw [be4_length]; omega), List.drop_of_length_le (by rw [be4_length]; omega)]; rfl
    have h0 : ¬ c = 0 := by simp at hc; omega
    simp only [parts, if_neg h1, if_neg h0, if_neg h2, h3, h4, num_be4 _ hs0]
    rw [if_neg (by simp)]
    have h5 : (s ++ pack l).drop s.length = pack l := by simp
    have h6 : (s ++ pack l).take s.length = s := by simp
    rw [h5, h6, parts_pack l k (c - 1) (fun t ht => hs t (by simp [ht])) (by simp at hc; omega) (by rw [List.length_append, List.length_append, be4_length] at h; omega)]
    rfl
end Go.Pe.Try
end
section
namespace Go.Pe.Try
open Go.Proofs Go.RowKit
set_option maxRecDepth 100000
set_option linter.unusedVariables false
theorem h48_p0_eq x12 x13 x14 l0 : h48_p0_F (h48_p0_y x12 x13 x14 l0) = ((nth x12 x14).bind fun y172 => (f49_F (x14, ())).bind fun r173 => bif r173.1 then (within y172.1 l0.length ((l0[(Int.toNat y172.1)]?).bind fun e174 => some ((h48_p0_o0_y x12 x13 x14 (l0.set (Int.toNat y172.1) y172.2))))) else (some ((h48_p0_o0_y x12 x13 x14 l0)))) := by kernel_rfl
theorem h48_p1_eq rec x12 x13 x14 l0 : h48_p1_st rec (h48_p1_y x12 x13 x14 l0) = (bif (decide (x14 < x13)) then ((h48_p0_F (h48_p0_y x12 x13 x14 l0)).bind fun o175 => rec (h48_p1_y (h48_p0_o0_x12 o175) (h48_p0_o0_x13 o175) (IntKind.i64.wrap ((h48_p0_o0_x14 o175) + (1 : Int))) (h48_p0_o0_l0 o175))) else (some ((h48_p1_o0_y l0)))) := by kernel_rfl
theorem h48_eq x0_0 x0_1 : h48_F (h48_y x0_0 x0_1) = ((h73_F (h73_y x0_0)).bind fun z176 => (go h48_p1_st (h48_p1_y x0_1 (x0_1.length : Int) (0 : Int) (h73_o_l0 z176))).bind fun o177 => some (h48_o_y (h48_p1_o0_l0 o177))) := by kernel_rfl
theorem f20_eq a0_0 a0_1 : f20_F ((a0_0, (a0_1, ())), ()) = ((f25_F ((a0_0, (a0_1, ())), ())).bind fun r178 => bif (!r178.1) then (some ((([] : List (List UInt8)), (([] : List ((Int × List UInt8))), ())), ((1 : Int), ()))) else ((h48_F (h48_y a0_0 a0_1)).bind fun z179 => some (((h48_o_l0 z179), (([] : List ((Int × List UInt8))), ())), ((0 : Int), ())))) := by kernel_rfl
theorem f10_p0_eq rec x25 x26 x27 x31 x32 x33 r1_4 r1_5 r1_6 r2_0 r2_1 : f10_p0_st rec (f10_p0_y x25 x26 x27 x31 x32 x33 r1_4 r1_5 r1_6 r2_0 r2_1) = (bif (decide (x33 < x32)) then ((nth x31 x33).bind fun y180 => (f19_F ((r2_0, (r2_1, ())), (y180.1, (y180.2, ())))).bind fun r181 => rec (f10_p0_y x25 x26 x27 x31 x32 (IntKind.i64.wrap (x33 + (1 : Int))) r1_4 r1_5 r1_6 r181.1.1 r181.1.2.1)) else (some ((f10_p0_o0_y x25 x26 x27 r1_4 r1_5 r1_6 r2_0 r2_1)))) := by kernel_rfl
theorem f10_p1_eq rec x25 x26 x27 r1_4 r1_5 r1_6 r2_0 r2_1 : f10_p1_st rec (f10_p1_y x25 x26 x27 r1_4 r1_5 r1_6 r2_0 r2_1) = (bif (decide (x27 < x26)) then ((nth x25 x27).bind fun y182 => (go f10_p0_st (f10_p0_y x25 x26 x27 y182 (y182.length : Int) (0 : Int) r1_4 r1_5 r1_6 r2_0 r2_1)).bind fun o183 => (f20_F (((f10_p0_o0_r2_0 o183), ((f10_p0_o0_r2_1 o183), ())), ())).bind fun r184 => rec (f10_p1_y (f10_p0_o0_x25 o183) (f10_p0_o0_x26 o183) (IntKind.i64.wrap ((f10_p0_o0_x27 o183) + (1 : Int))) (f10_p0_o0_r1_4 o183) (f10_p0_o0_r1_5 o183) (f10_p0_o0_r1_6 o183) r184.1.1 r184.1.2.1)) else (some ((f10_p1_o0_y r1_4 r1_5 r1_6 r2_0 r2_1)))) := by kernel_rfl
theorem f10_eq a0_0 a0_1 a0_2 a0_3 a0_4 a0_5 a0_6 a1 : f10_F ((a0_0, (a0_1, (a0_2, (a0_3, (a0_4, (a0_5, (a0_6, ()))))))), (a1, ())) = ((f18_F ((a0_0, (a0_1, (a0_2, (a0_3, (a0_4, (a0_5, (a0_6, ()))))))), (a1, ()))).bind fun r185 => bif (r185.2.1 != (0 : Int)) then (some ((([] : List (List UInt8)), (([] : List ((Int × List UInt8))), (([] : List (List UInt8)), (([] : List (List UInt8)), ((0 : Int), ((0 : Int), ((0 : Int), ()))))))), (r185.2.1, ()))) else ((go f10_p1_st (f10_p1_y r185.1 (r185.1.length : Int) (0 : Int) (0 : Int) (0 : Int) (0 : Int) a0_0 a0_1)).bind fun o186 => (f13_F (((f10_p1_o0_r2_0 o186), ((f10_p1_o0_r2_1 o186), ())), ())).bind fun r187 => some ((r187.1.1, (r187.1.2.1, (r187.1.2.2.1, (r187.1.2.2.2.1, (r187.1.2.2.2.2.1, (r187.1.2.2.2.2.2.1, (r187.1.2.2.2.2.2.2.1, ()))))))), (r187.2.1, ())))) := by kernel_rfl
theorem f81_eq a0 : f81_F (a0, ()) = (some ((a0 != a0), ())) := by kernel_rfl
theorem f66_eq a0 a1 : f66_F (a0, (a1, ())) = ((f81_F (a0, ())).bind fun r188 => bif r188.1 then ((f81_F (a1, ())).bind fun r189 => bif (!r189.1) then (some (true, ())) else (some ((Op.bytesLess a0 a1), ()))) else (some ((Op.bytesLess a0 a1), ()))) := by kernel_rfl
theorem f67_eq a0 : f67_F (a0, ()) = (some ((a0 != a0), ())) := by kernel_rfl
theorem f33_p0_eq rec x0 x1 x6 x7 x8 : f33_p0_st rec (f33_p0_y x0 x1 x6 x7 x8) = (bif (decide (x7 < x8)) then ((nth x0 (IntKind.i64.wrap (Int.fdiv (IntKind.u64.wrap (IntKind.i64.wrap (x7 + x8))) (2 ^ (min (Int.toNat (1 : Int)) 64))))).bind fun y190 => (f66_F (y190, (x1, ()))).bind fun r191 => bif r191.1 then (rec (f33_p0_y x0 x1 x6 (IntKind.i64.wrap ((IntKind.i64.wrap (Int.fdiv (IntKind.u64.wrap (IntKind.i64.wrap (x7 + x8))) (2 ^ (min (Int.toNat (1 : Int)) 64)))) + (1 : Int))) x8)) else (rec (f33_p0_y x0 x1 x6 x7 (IntKind.i64.wrap (Int.fdiv (IntKind.u64.wrap (IntKind.i64.wrap (x7 + x8))) (2 ^ (min (Int.toNat (1 : Int)) 64))))))) else (some ((f33_p0_o0_y x0 x1 x6 x7)))) := by kernel_rfl
theorem f33_eq a0 a1 : f33_F (a0, (a1, ())) = ((go f33_p0_st (f33_p0_y a0 a1 (a0.length : Int) (0 : Int) (a0.length : Int))).bind fun o192 => bif (decide ((f33_p0_o0_x7 o192) < (f33_p0_o0_x6 o192))) then ((nth (f33_p0_o0_x0 o192) (f33_p0_o0_x7 o192)).bind fun y193 => bif (y193 == (f33_p0_o0_x1 o192)) then (some ((f33_p0_o0_x7 o192), (true, ()))) else ((nth (f33_p0_o0_x0 o192) (f33_p0_o0_x7 o192)).bind fun y194 => (f67_F (y194, ())).bind fun r195 => bif r195.1 then ((f67_F ((f33_p0_o0_x1 o192), ())).bind fun r196 => some ((f33_p0_o0_x7 o192), (r196.1, ()))) else (some ((f33_p0_o0_x7 o192), (false, ()))))) else (some ((f33_p0_o0_x7 o192), (false, ())))) := by kernel_rfl
theorem f14_eq a0_0 a0_1 a0_2 a0_3 a0_4 a0_5 a0_6 a1 : f14_F ((a0_0, (a0_1, (a0_2, (a0_3, (a0_4, (a0_5, (a0_6, ()))))))), (a1, ())) = ((f17_F ((a0_0, (a0_1, (a0_2, (a0_3, (a0_4, (a0_5, (a0_6, ()))))))), ())).bind fun r197 => bif (!r197.1) then (some (([] : List UInt8), ((1 : Int), ()))) else ((f33_F (a0_2, (a1, ()))).bind fun r198 => bif (!r198.2.1) then (some (([] : List UInt8), ((37 : Int), ()))) else ((nth a0_3 r198.1).bind fun y199 => some (y199, ((0 : Int), ()))))) := by kernel_rfl
theorem f8_eq : f8_F () = ((f7_L ((8 : Int), ())).bind fun r200 => (f10_L ((r200.1.1, (r200.1.2.1, (r200.1.2.2.1, (r200.1.2.2.2.1, (r200.1.2.2.2.2.1, (r200.1.2.2.2.2.2.1, (r200.1.2.2.2.2.2.2.1, ()))))))), ([([97] : List UInt8), ([49] : List UInt8)], ()))).bind fun r201 => (f14_L ((r201.1.1, (r201.1.2.1, (r201.1.2.2.1, (r201.1.2.2.2.1, (r201.1.2.2.2.2.1, (r201.1.2.2.2.2.2.1, (r201.1.2.2.2.2.2.2.1, ()))))))), (([97] : List UInt8), ()))).bind fun r202 => bif (r200.2.1 == (0 : Int)) then (bif (r201.2.1 == (0 : Int)) then (bif (r202.2.1 == (0 : Int)) then (some ((r202.1 == ([49] : List UInt8)), ())) else (some (false, ()))) else (some (false, ()))) else (some (false, ()))) := by rw [f8_Fe]; kernel_rfl
theorem f9_p0_eq rec x13 x14 l0 : f9_p0_st rec (f9_p0_y x13 x14 l0) = (bif (decide (x14 < x13)) then (within x14 l0.length ((l0[(Int.toNat x14)]?).bind fun e203 => cutHi e203 (minI (e203.length : Int) (3100 : Int)) fun s204 => within x14 l0.length ((l0[(Int.toNat x14)]?).bind fun e205 => rec (f9_p0_y x13 (IntKind.i64.wrap (x14 + (1 : Int))) (l0.set (Int.toNat x14) s204))))) else (some ((f9_p0_o0_y l0)))) := by kernel_rfl
theorem f9_eq a0 : f9_F (a0, ()) = (cutHi a0 (minI (a0.length : Int) (66 : Int)) fun s206 => appOk (([] : List (List UInt8)).length + s206.length) ((go f9_p0_st (f9_p0_y ((([] : List (List UInt8)) ++ s206).length : Int) (0 : Int) (([] : List (List UInt8)) ++ s206))).bind fun o207 => some ((f9_p0_o0_l0 o207), ()))) := by kernel_rfl
theorem f53_p0_eq rec x0 x1 x5 : f53_p0_st rec (f53_p0_y x0 x1 x5) = (bif (decide (x5 < (x0.length : Int))) then (bif (decide (x5 < (x1.length : Int))) then ((nth x0 x5).bind fun c216 => (nth x1 x5).bind fun c217 => bif ((c216.toNat : Int) != (c217.toNat : Int)) then ((nth x0 x5).bind fun c218 => (nth x1 x5).bind fun c219 => some (.inr ((f53_p0_o1_y (decide ((c218.toNat : Int) < (c219.toNat : Int))))))) else (rec (f53_p0_y x0 x1 (IntKind.i64.wrap (x5 + (1 : Int)))))) else (some (.inl (f53_p0_o0_y x0 x1)))) else (some (.inl (f53_p0_o0_y x0 x1)))) := by kernel_rfl
theorem f53_eq a0 a1 : f53_F (a0, (a1, ())) = ((go f53_p0_st (f53_p0_y a0 a1 (0 : Int))).bind fun o220 => (match o220 with | .inl z221 => some ((decide (((f53_p0_o0_x0 z221).length : Int) < ((f53_p0_o0_x1 z221).length : Int))), ()) | .inr o222 => some ((f53_p0_o1_x4 o222), ()))) := by kernel_rfl
end Go.Pe.Try
end
section
namespace Go.Pe.Try
open Go.Proofs Go.RowKit
set_option maxRecDepth 100000
set_option linter.unusedSimpArgs false
set_option linter.unusedVariables false
def be8 (n : Nat) : List UInt8 := [UInt8.ofNat (n / 72057594037927936), UInt8.ofNat (n / 281474976710656), UInt8.ofNat (n / 1099511627776), UInt8.ofNat (n / 4294967296), UInt8.ofNat (n / 16777216), UInt8.ofNat (n / 65536), UInt8.ofNat (n / 256), UInt8.ofNat n]
theorem be8_length (n : Nat) : (be8 n).length = 8 := rfl
theorem num_be8 (n : Nat) (h : n < 18446744073709551616) : num (be8 n) = n := by
  simp only [num, be8, List.foldl_cons, List.foldl_nil, UInt8.toNat_ofNat']
  omega
theorem big_guard8 (n : Nat) : f52_p1_F (f52_p1_y (n : Int) 8) = some (f52_p1_o0_y (n : Int) 8 false) := by
  rw [f52_p1_eq]
  rw [show decide ((8 : Int) < 0) = false from by decide, cond_false, show decide ((8 : Int) > 8) = false from by decide, cond_false, cond_false]
theorem big_step8 (rec) (n i : Nat) (l : List Int) (hi : i < 8) (hl : l.length = 8) :
    f52_p0_st rec (f52_p0_y (n : Int) 8 8 (i : Int) l) = rec (f52_p0_y (n : Int) 8 8 ((i + 1 : Nat) : Int) (l.set (7 - i) ((n / 2 ^ (8 * i) % 256 : Nat) : Int))) := by
  rw [f52_p0_eq]
  have h3 : decide ((i : Int) < 8) = true := by simp; omega
  have h8 : IntKind.i64.wrap ((8 : Int) * i) = ((8 * i : Nat) : Int) := by rw [wrap64 (by omega) (by omega)]; rfl
  have hx : IntKind.i64.wrap (IntKind.i64.wrap ((8 : Int) - 1) - i) = ((7 - i : Nat) : Int) := by
    have : IntKind.i64.wrap ((8 : Int) - 1) = 7 := by decide
    rw [this, wrap64 (by omega) (by omega)]; omega
  have hw : IntKind.i64.wrap ((i : Int) + 1) = ((i + 1 : Nat) : Int) := by rw [wrap64 (by omega) (by omega)]; rfl
  rw [h3, cond_true, h8, if_neg (by omega), hx, hw, within, if_pos (by omega), Int.toNat_natCast, List.getElem?_eq_getElem (by omega), Option.bind_some]
  rw [u8_byte n (8 * i)]
  rw [Int.toNat_natCast, Nat.min_eq_left (by omega)]
  push_cast; rfl
theorem big8_eq (n : Nat) : f52_F ((n : Int), ((8 : Int), ())) = some (be8 n, (0, ())) := by
  rw [f52_eq, big_guard8 n, Option.bind_some]
  have a1 : f52_p1_o0_x24 (f52_p1_o0_y (n : Int) 8 false) = false := rfl
  have a2 : f52_p1_o0_x0 (f52_p1_o0_y (n : Int) 8 false) = (n : Int) := rfl
  have a3 : f52_p1_o0_x1 (f52_p1_o0_y (n : Int) 8 false) = 8 := rfl
  have a4 : List.replicate (Int.toNat 8) (0 : Int) = [0, 0, 0, 0, 0, 0, 0, 0] := rfl
  have a5 : ((([0, 0, 0, 0, 0, 0, 0, 0] : List Int).length : Nat) : Int) = 8 := rfl
  rw [a1, cond_false, a2, a3, a4, a5]
  have : go f52_p0_st (f52_p0_y (n : Int) 8 8 0 [0, 0, 0, 0, 0, 0, 0, 0]) = some (f52_p0_o0_y [((n / 2 ^ (8 * 7) % 256 : Nat) : Int), ((n / 2 ^ (8 * 6) % 256 : Nat) : Int), ((n / 2 ^ (8 * 5) % 256 : Nat) : Int), ((n / 2 ^ (8 * 4) % 256 : Nat) : Int), ((n / 2 ^ (8 * 3) % 256 : Nat) : Int), ((n / 2 ^ (8 * 2) % 256 : Nat) : Int), ((n / 2 ^ (8 * 1) % 256 : Nat) : Int), ((n / 2 ^ (8 * 0) % 256 : Nat) : Int)]) := by
    refine go_le (m := 9) (fun k hk => ?_) (by rw [fuel_def]; omega)
    obtain ⟨k, rfl⟩ : ∃ j, k = j + 9 := ⟨k - 9, by omega⟩
    have e0 : f52_p0_y (n : Int) 8 8 0 [0, 0, 0, 0, 0, 0, 0, 0] = f52_p0_y (n : Int) 8 8 ((0 : Nat) : Int) [0, 0, 0, 0, 0, 0, 0, 0] := rfl
    rw [iter, e0, big_step8 _ n 0 _ (by omega) rfl, iter, big_step8 _ n 1 _ (by omega) rfl, iter, big_step8 _ n 2 _ (by omega) rfl, iter, big_step8 _ n 3 _ (by omega) rfl, iter, big_step8 _ n 4 _ (by omega) rfl, iter, big_step8 _ n 5 _ (by omega) rfl, iter, big_step8 _ n 6 _ (by omega) rfl, iter, big_step8 _ n 7 _ (by omega) rfl, iter, f52_p0_eq]
    have h3 : decide (((7 + 1 : Nat) : Int) < 8) = false := by decide
    rw [h3, cond_false]; rfl
  rw [this, makeOk, if_pos (by decide), Option.bind_some]
  have key : ∀ m : Nat, UInt8.ofNat (m % 256) = UInt8.ofNat m := fun m => by apply UInt8.toNat_inj.1; simp
  have a6 : ∀ l : List Int, f52_p0_o0_l0 (f52_p0_o0_y l) = l := fun _ => rfl
  rw [a6]
  simp only [strOf, List.map_cons, List.map_nil, Int.toNat_natCast, key, be8]
  have p7 : (2 : Nat) ^ (8 * 7) = 72057594037927936 := by decide
  have p6 : (2 : Nat) ^ (8 * 6) = 281474976710656 := by decide
  have p5 : (2 : Nat) ^ (8 * 5) = 1099511627776 := by decide
  have p4 : (2 : Nat) ^ (8 * 4) = 4294967296 := by decide
  have p3 : (2 : Nat) ^ (8 * 3) = 16777216 := by decide
  have p2 : (2 : Nat) ^ (8 * 2) = 65536 := by decide
  have p1 : (2 : Nat) ^ (8 * 1) = 256 := by decide
  have p0 : (2 : Nat) ^ (8 * 0) = 1 := by decide
  rw [p7, p6, p5, p4, p3, p2, p1, p0, Nat.div_one]
def head (t u : Nat) : List UInt8 := pack [[107, 118], be8 t, be4 u] ++ List.replicate 102 0
theorem head_pack (t u : Nat) : (pack [[107, 118], be8 t, be4 u]).length = 26 := rfl
theorem head_len (t u : Nat) : (head t u).length = 128 := rfl
theorem head_eq (t u : Nat) (ht : t < 9223372036854775808) (hu : u < 4294967296) : f23_F ((t : Int), ((u : Int), ())) = some (head t u, ()) := by
  rw [f23_eq, wrapU64 (by omega) (by omega), wrapU64 (by omega) (by omega), big8_eq, Option.bind_some, big_eq _ hu, Option.bind_some]
  show ((f42_F ([[107, 118], be8 t, be4 u], ())).bind _) = _
  rw [pack_eq _ (by simp) (by intro s hs; simp only [List.mem_cons, List.not_mem_nil, or_false] at hs; rcases hs with rfl | rfl | rfl <;> simp [be8, be4]), if_pos (by rw [head_pack]; omega), Option.bind_some]
  show ((repeatF (([0] : List UInt8), ((IntKind.i64.wrap ((128 : Int) - ((pack [[107, 118], be8 t, be4 u]).length : Int))), ()))).bind _) = _
  rw [head_pack, show IntKind.i64.wrap ((128 : Int) - ((26 : Nat) : Int)) = ((102 : Nat) : Int) from by decide, repeat_zero 102 (by omega), Option.bind_some]
  show (if (pack [[107, 118], be8 t, be4 u]).length + (List.replicate 102 (0 : UInt8)).length ≤ 4611686018427387904 then _ else none) = _
  rw [head_pack, if_pos (by simp)]; rfl
def numb (s : List UInt8) : Nat := if s.length ≤ 8 then num s else 0
theorem numb_eq (s : List UInt8) : ∃ e : Int, f59_F (s, ()) = some (((numb s : Nat) : Int), (e, ())) := by
  unfold numb
  by_cases h : s.length ≤ 8
  · exact ⟨0, by rw [if_pos h, num8_eq s h]⟩
  · exact ⟨1, by rw [if_neg h, num_long s (by omega)]; rfl⟩
theorem numb_lt (s : List UInt8) : numb s < 18446744073709551616 := by
  unfold numb
  split
  · rename_i h
    have := num_lt s s.length (Nat.le_refl _)
    rw [List.take_length] at this
    have h2 : 256 ^ s.length ≤ 256 ^ 8 := Nat.pow_le_pow_right (by decide) h
    have h3 : (256 : Nat) ^ 8 = 18446744073709551616 := by decide
    omega
  · omega
def tellsOf (b c s : List UInt8) (L : Nat) : Nat × Nat := if 1 ≤ numb b ∧ numb b ≤ 1099511627776 ∧ numb c ≤ 128 * L ∧ head (numb b) (numb c) = s then (numb b, numb c) else (0, 0)
def tl (s : List UInt8) (L : Nat) : Nat × Nat := match parts 26 64 (s.take 26) with
  | some [_, b, c] => tellsOf b c s L
  | _ => (0, 0)
theorem tells_guard (l : List (List UInt8)) (b c s : List UInt8) (hl : l.length ≤ 64) : ∃ t, f26_p0_F (f26_p0_y l s (numb b) (numb c)) = some (f26_p0_o0_y (numb b) (numb c) (decide (t = true))) ∧
    (t = true ↔ ¬ (1 ≤ numb b ∧ numb b ≤ 1099511627776 ∧ numb c ≤ 128 * l.length ∧ head (numb b) (numb c) = s)) := by
  have hb := numb_lt b; have hc := numb_lt c
  refine ⟨decide (¬ (1 ≤ numb b ∧ numb b ≤ 1099511627776 ∧ numb c ≤ 128 * l.length ∧ head (numb b) (numb c) = s)), ?_, by rw [decide_eq_true_eq]⟩
  simp only [decide_eq_true_eq]
  rw [f26_p0_eq]
  by_cases h1 : 1 ≤ numb b
  · rw [show decide ((numb b : Int) < 1) = false from by simp only [decide_eq_false_iff_not]; omega, cond_false]
    by_cases h2 : numb b ≤ 1099511627776
    · rw [show decide ((numb b : Int) > 1099511627776) = false from by simp only [decide_eq_false_iff_not]; omega, cond_false]
      rw [wrap64 (x := (l.length : Int) * 128) (by omega) (by omega), wrapU64 (x := (l.length : Int) * 128) (by omega) (by omega)]
      by_cases h3 : numb c ≤ 128 * l.length
      · rw [show decide ((numb c : Int) > (l.length : Int) * 128) = false from by simp only [decide_eq_false_iff_not]; omega, cond_false]
        rw [wrap64 (by omega) (by omega), wrap64 (by omega) (by omega), head_eq _ _ (by omega) (by omega), Option.bind_some]
        have : (head (numb b) (numb c) != s) = decide (¬ (1 ≤ numb b ∧ numb b ≤ 1099511627776 ∧ numb c ≤ 128 * l.length ∧ head (numb b) (numb c) = s)) := by
          by_cases h4 : head (numb b) (numb c) = s
          · simp [h1, h2, h3, h4]
          · simp [h4]
        rw [this]
      · rw [show decide ((numb c : Int) > (l.length : Int) * 128) = true from by simp only [decide_eq_true_eq]; omega, cond_true]
        simp [h3]
    · rw [show decide ((numb b : Int) > 1099511627776) = true from by simp only [decide_eq_true_eq]; omega, cond_true]
      simp [h2]
  · rw [show decide ((numb b : Int) < 1) = true from by simp only [decide_eq_true_eq]; omega, cond_true]
    simp [h1]
def atH (S : List (List UInt8)) (k : Nat) : Nat := k * (S.length / 2)
def logH (S : List (List UInt8)) (k : Nat) : List (List UInt8) := (S.take ((k + 1) * (S.length / 2))).drop (k * (S.length / 2) + 1)
theorem logH_len (S : List (List UInt8)) (k : Nat) (hk : k ≤ 1) (h1 : 4 ≤ S.length) : (logH S k).length = S.length / 2 - 1 := by
  have : k = 0 ∨ k = 1 := by omega
  rcases this with rfl | rfl <;> simp [logH] <;> omega
theorem atH_lt (S : List (List UInt8)) (k : Nat) (hk : k ≤ 1) (h1 : 4 ≤ S.length) : atH S k < S.length := by
  have : k = 0 ∨ k = 1 := by omega
  rcases this with rfl | rfl <;> simp [atH] <;> omega
theorem half_eq (S : List (List UInt8)) (D : List (Int × List UInt8)) (k : Nat) (hk : k ≤ 1) (h1 : 4 ≤ S.length) (h2 : S.length ≤ 64) : f27_F ((S, (D, ())), ((k : Int), ())) = some ((atH S k : Int), (logH S k, ())) := by
  rw [f27_eq]
  have e2 : Int.tdiv (S.length : Int) 2 = ((S.length / 2 : Nat) : Int) := rfl
  rw [e2, wrap64 (x := ((S.length / 2 : Nat) : Int)) (by omega) (by omega)]
  have : k = 0 ∨ k = 1 := by omega
  have ew : IntKind.i64.wrap ((k : Int) * ((S.length / 2 : Nat) : Int)) = ((k * (S.length / 2) : Nat) : Int) := by
    rw [wrap64 (by rcases this with rfl | rfl <;> omega) (by rcases this with rfl | rfl <;> omega)]; rfl
  have ew2 : IntKind.i64.wrap ((k : Int) + 1) = ((k + 1 : Nat) : Int) := by rw [wrap64 (by omega) (by omega)]; rfl
  have ew3 : IntKind.i64.wrap (((k + 1 : Nat) : Int) * ((S.length / 2 : Nat) : Int)) = (((k + 1) * (S.length / 2) : Nat) : Int) := by
    rw [wrap64 (by rcases this with rfl | rfl <;> omega) (by rcases this with rfl | rfl <;> omega)]; rfl
  have ew4 : IntKind.i64.wrap (((k * (S.length / 2) : Nat) : Int) + 1) = ((k * (S.length / 2) + 1 : Nat) : Int) := by
    rw [wrap64 (by rcases this with rfl | rfl <;> omega) (by rcases this with rfl | rfl <;> omega)]; rfl
  rw [ew, ew2, ew3, ew4, cutMid_nat' _ _ _ _ (by rcases this with rfl | rfl <;> omega) (by rcases this with rfl | rfl <;> omega)]
  rfl
theorem tells_eq (S : List (List UInt8)) (D : List (Int × List UInt8)) (k : Nat) (hk : k ≤ 1) (h1 : 4 ≤ S.length) (h2 : S.length ≤ 64) (hs : ∀ s ∈ S, s.length = 128) :
    f26_F ((S, (D, ())), ((k : Int), ())) = some (((tl (S.getD (atH S k) []) (logH S k).length).1 : Int), (((tl (S.getD (atH S k) []) (logH S k).length).2 : Int), ())) := by
  have hat := atH_lt S k hk h1
  have hL := logH_len S k hk h1
  rw [f26_eq, half_eq S D k hk h1 h2, Option.bind_some]
  show ((nth S (atH S k : Int)).bind _) = _
  have hg : S.getD (atH S k) [] = S[atH S k] := by rw [List.getD_eq_getElem?_getD, List.getElem?_eq_getElem hat]; rfl
  rw [nth_lt hat, Option.bind_some, hg]
  generalize hsx : S[atH S k] = s
  have hsl : s.length = 128 := by rw [← hsx]; exact hs _ (List.getElem_mem hat)
  rw [show (26 : Int) = ((26 : Nat) : Int) from rfl, cutHi_nat' _ _ _ (by omega)]
  obtain ⟨e, _, he⟩ := unpack_eq (s.take 26) (by simp; omega)
  have hl26 : (s.take 26).length = 26 := by simp; omega
  rw [he, hl26, Option.bind_some]
  unfold tl
  generalize parts 26 64 (s.take 26) = p
  have fin0 : ∀ l : List (List UInt8), l.length ≠ 3 → ((l.length : Int) != 3) = true := fun l h => by simp; omega
  match p with
  | none => rfl
  | some [] => rfl
  | some [a] => rfl
  | some [a, b] => rfl
  | some (a :: b :: c :: d :: r) =>
    dsimp only
    rw [fin0 _ (by simp), cond_true]; rfl
  | some [a, b, c] =>
    dsimp only
    obtain ⟨e1, h59b⟩ := numb_eq b
    obtain ⟨e2, h59c⟩ := numb_eq c
    rw [show ((([a, b, c] : List (List UInt8)).length : Int) != 3) = false from rfl, cond_false]
    rw [show nth [a, b, c] (1 : Int) = some b from rfl, Option.bind_some, h59b, Option.bind_some, f26_p1_eq]
    rw [show nth [a, b, c] (2 : Int) = some c from rfl, Option.bind_some, h59c, Option.bind_some]
    obtain ⟨t, ht, hti⟩ := tells_guard (logH S k) b c s (by omega)
    show ((((f26_p0_F (f26_p0_y (logH S k) s (numb b) (numb c))).bind _)).bind _) = _
    rw [ht, Option.bind_some]
    rw [show ∀ x, f26_p0_o0_x73 (f26_p0_o0_y (numb b) (numb c) x) = x from fun _ => rfl]
    have hb := numb_lt b; have hc := numb_lt c
    unfold tellsOf
    by_cases hh : 1 ≤ numb b ∧ numb b ≤ 1099511627776 ∧ numb c ≤ 128 * (logH S k).length ∧ head (numb b) (numb c) = s
    · rw [if_pos hh]
      have : decide (t = true) = false := by simp only [decide_eq_false_iff_not]; intro h; exact (hti.1 h) hh
      rw [this, cond_false, Option.bind_some]
      show some (IntKind.i64.wrap (numb b : Int), (IntKind.i64.wrap (numb c : Int), ())) = _
      rw [wrap64 (by omega) (by omega), wrap64 (by omega) (by omega)]
    · rw [if_neg hh]
      have : decide (t = true) = true := by simp only [decide_eq_true_eq]; exact hti.2 hh
      rw [this, cond_true, Option.bind_some]; rfl
theorem tl_head (t u L : Nat) (h1 : 1 ≤ t) (h2 : t ≤ 1099511627776) (h3 : u ≤ 128 * L) (h4 : u < 4294967296) : tl (head t u) L = (t, u) := by
  have e : (head t u).take 26 = pack [[107, 118], be8 t, be4 u] := by
    unfold head
    rw [List.take_append_of_le_length (by rw [head_pack]; omega), List.take_of_length_le (by rw [head_pack]; omega)]
  unfold tl
  rw [e, parts_pack _ 26 64 (by intro s hs; simp only [List.mem_cons, List.not_mem_nil, or_false] at hs; rcases hs with rfl | rfl | rfl <;> simp [be8, be4]) (by simp) (by rw [head_pack]; omega)]
  dsimp only
  have n1 : numb (be8 t) = t := by rw [numb, if_pos (by rw [be8_length]; omega), num_be8 _ (by omega)]
  have n2 : numb (be4 u) = u := by rw [numb, if_pos (by rw [be4_length]; omega), num_be4 _ h4]
  unfold tellsOf
  rw [n1, n2, if_pos ⟨h1, h2, h3, rfl⟩]
theorem tl_bound (s : List UInt8) (L : Nat) : (tl s L).1 ≤ 1099511627776 ∧ (tl s L).2 ≤ 128 * L ∧ ((tl s L).1 = 0 → (tl s L).2 = 0) := by
  unfold tl
  split
  · unfold tellsOf
    split
    · rename_i h; exact ⟨h.2.1, h.2.2.1, fun h0 => by simp only at h0; omega⟩
    · simp
  · simp
theorem tl_zero (L : Nat) : tl (List.replicate 128 0) L = (0, 0) := by
  have : parts 26 64 ((List.replicate 128 (0 : UInt8)).take 26) = none := by decide +kernel
  unfold tl
  rw [this]
end Go.Pe.Try
end
section
namespace Go.Pe.Kv
open Go.Pe
set_option linter.unusedSimpArgs false
set_option linter.unusedVariables false
abbrev Str := List UInt8
abbrev PR := Str × Str
theorem lt_irr (a : Str) : ¬ a < a := List.lt_irrefl a
theorem lt_tr {a b c : Str} (h : a < b) (h2 : b < c) : a < c := List.lt_trans h h2
theorem le_lt {a b c : Str} (h : a ≤ b) (h2 : b < c) : a < c := List.lt_of_le_of_lt h h2
theorem not_lt {a b : Str} (h : ¬ a < b) : b ≤ a := List.not_lt.1 h
theorem le_ne {a b : Str} (h : a ≤ b) (h2 : a ≠ b) : a < b := by
  rcases List.le_total b a with h3 | h3
  · exact absurd (List.le_antisymm h h3) h2
  · exact Classical.byContradiction fun h4 => h2 (List.le_antisymm h (not_lt h4))
def ov (a b : Str) : Bool → List PR → List PR
  | done, [] => if done then [] else [(a, b)]
  | done, x :: r => (if !done && !decide (x.1 < a) then [(a, b)] else []) ++ ((if x.1 ≠ a then [x] else []) ++ ov a b (done || (!done && !decide (x.1 < a))) r)
def over (A : List PR) (a b : Str) : List PR := ov a b (b == []) A
def all (A : List PR) : List Str → List PR
  | a :: b :: r => all (over A a b) r
  | _ => A
def Sorted (A : List PR) : Prop := A.Pairwise fun x y => x.1 < y.1
theorem ov_mem (a b : Str) : ∀ (done : Bool) (A : List PR) (k v : Str), (k, v) ∈ ov a b done A ↔ (k ≠ a ∧ (k, v) ∈ A) ∨ (done = false ∧ k = a ∧ v = b)
  | done, [], k, v => by cases done <;> simp [ov]
  | done, x :: r, k, v => by
    obtain ⟨xk, xv⟩ := x
    have ih := fun d => ov_mem a b d r k v
    simp only [ov, List.mem_append, ih]
    by_cases h2 : xk = a
    · subst h2
      have h1 : ¬ xk < xk := lt_irr _
      cases done <;> simp [h1] <;> grind
    · cases done <;> by_cases h1 : xk < a <;> simp [h1, h2] <;> grind
theorem ov_sorted (a b : Str) : ∀ (done : Bool) (A : List PR), Sorted A → Sorted (ov a b done A)
  | done, [], _ => by cases done <;> simp [ov, Sorted]
  | done, x :: r, h => by
    have hx := (List.pairwise_cons.1 h).1
    have hr := (List.pairwise_cons.1 h).2
    have ih := fun d => ov_sorted a b d r hr
    have mem := fun d (y : PR) => ov_mem a b d r y.1 y.2
    simp only [ov]
    have hk : ∀ d, (d = true ∨ x.1 < a) → (x.1 ≠ a → Sorted ([x] ++ ov a b d r)) := fun d hd hne => by
      refine List.pairwise_cons.2 ⟨fun y hy => ?_, ih d⟩
      rcases (mem d y).1 hy with ⟨_, hy⟩ | ⟨e, hy, _⟩
      · exact hx y hy
      · rcases hd with hd | hd
        · rw [hd] at e; cases e
        · rw [hy]; exact hd
    have hk2 : ∀ d, (d = true ∨ x.1 < a) → Sorted ((if x.1 ≠ a then [x] else []) ++ ov a b d r) := fun d hd => by
      split
      · rename_i hne; exact hk d hd hne
      · exact ih d
    cases done
    · by_cases h1 : x.1 < a
      · simp only [h1, decide_true, Bool.not_true, Bool.and_false, Bool.or_false, Bool.false_eq_true, if_false, List.nil_append]
        exact hk2 false (.inr h1)
      · simp only [h1, decide_false, Bool.not_false, Bool.and_true, Bool.or_true, if_true, Bool.and_self]
        show Sorted ((a, b) :: ((if x.1 ≠ a then [x] else []) ++ ov a b true r))
        refine List.pairwise_cons.2 ⟨fun y hy => ?_, hk2 true (.inl rfl)⟩
        have hax := not_lt h1
        rcases List.mem_append.1 hy with hy | hy
        · split at hy
          · rename_i hne
            simp only [List.mem_singleton] at hy
            subst hy
            exact le_ne hax (Ne.symm hne)
          · cases hy
        · rcases (mem true y).1 hy with ⟨_, hy⟩ | ⟨e, _⟩
          · exact le_lt hax (hx y hy)
          · cases e
    · simp only [Bool.not_true, Bool.false_and, Bool.or_false, Bool.false_eq_true, if_false, List.nil_append]
      exact hk2 true (.inl rfl)
theorem over_sorted {A : List PR} (h : Sorted A) (a b : Str) : Sorted (over A a b) := ov_sorted a b _ A h
theorem over_mem (A : List PR) (a b k v : Str) : (k, v) ∈ over A a b ↔ (k ≠ a ∧ (k, v) ∈ A) ∨ (b ≠ [] ∧ k = a ∧ v = b) := by
  rw [over, ov_mem]; simp [beq_eq_false_iff_ne]
theorem sorted_ext {A B : List PR} (hA : Sorted A) (hB : Sorted B) (h : ∀ k v, (k, v) ∈ A ↔ (k, v) ∈ B) : A = B := by
  have nd : ∀ {A : List PR}, Sorted A → A.Nodup := fun h => h.imp fun {x y} hlt => fun e => by subst e; exact lt_irr _ hlt
  have hp : A.Perm B := (List.perm_ext_iff_of_nodup (nd hA) (nd hB)).2 fun x => h x.1 x.2
  exact hp.eq_of_pairwise (le := fun x y : PR => x.1 < y.1) (fun x y _ _ h1 h2 => absurd (lt_tr h1 h2) (lt_irr _)) hA hB
abbrev eqS := keyEq .str
theorem eqS_iff {a b : Str} : eqS a b = true ↔ a = b := by simp [eqS, keyEq]
theorem eqS_self (a : Str) : eqS a a = true := eqS_iff.2 rfl
theorem eqS_ne {a b : Str} (h : a ≠ b) : eqS a b = false := by
  cases h2 : eqS a b
  · rfl
  · exact absurd (eqS_iff.1 h2) h
theorem get_put (a b k : Str) : ∀ M : List PR, mapGet eqS k (mapPut eqS a b M) = if k = a then some b else mapGet eqS k M
  | [] => by
    by_cases h : k = a
    · subst h; simp [mapPut, mapGet, eqS_self]
    · simp [mapPut, mapGet, eqS_ne h, h]
  | x :: M => by
    have ih := get_put a b k M
    by_cases hx : a = x.1
    · simp only [mapPut, eqS_iff.2 hx]
      by_cases h : k = a
      · subst h; simp [mapGet, eqS_self]
      · have h2 : k ≠ x.1 := fun e => h (e.trans hx.symm)
        simp [mapGet, eqS_ne h, eqS_ne h2, h]
    · simp only [mapPut, eqS_ne hx]
      by_cases h : k = x.1
      · have h2 : k ≠ a := fun e => hx (e.symm.trans h)
        simp [mapGet, eqS_iff.2 h, h2]
      · simp only [mapGet, eqS_ne h, ih]
theorem get_none {k : Str} : ∀ {M : List PR}, k ∉ M.map (·.1) → mapGet eqS k M = none
  | [], _ => rfl
  | x :: M, h => by
    simp only [List.map_cons, List.mem_cons, not_or] at h
    simp only [mapGet, eqS_ne h.1]
    exact get_none h.2
theorem get_del (a k : Str) : ∀ {M : List PR}, (M.map (·.1)).Nodup → mapGet eqS k (mapDel eqS a M) = if k = a then none else mapGet eqS k M
  | [], _ => by simp [mapDel, mapGet]
  | x :: M, h => by
    obtain ⟨h1, h2⟩ := List.nodup_cons.1 h
    have ih := get_del a k h2
    by_cases hx : a = x.1
    · simp only [mapDel, eqS_iff.2 hx]
      by_cases h : k = a
      · rw [if_pos h, h, hx]; exact get_none h1
      · have h2 : k ≠ x.1 := fun e => h (e.trans hx.symm)
        simp [mapGet, eqS_ne h2, h]
    · simp only [mapDel, eqS_ne hx]
      by_cases h : k = x.1
      · have h2 : k ≠ a := fun e => hx (e.symm.trans h)
        simp [mapGet, eqS_iff.2 h, h2]
      · simp only [mapGet, eqS_ne h, ih]
theorem put_keys (a b : Str) : ∀ M : List PR, (mapPut eqS a b M).map (·.1) = if a ∈ M.map (·.1) then M.map (·.1) else M.map (·.1) ++ [a]
  | [] => by simp [mapPut]
  | x :: M => by
    have ih := put_keys a b M
    by_cases hx : a = x.1
    · obtain ⟨k, v⟩ := x
      have hx' : a = k := hx
      subst hx'
      simp [mapPut, eqS_self]
    · simp only [mapPut, eqS_ne hx, List.map_cons, ih, List.mem_cons, hx, false_or]
      split <;> simp
theorem del_keys (a : Str) : ∀ M : List PR, ((mapDel eqS a M).map (·.1)).Sublist (M.map (·.1))
  | [] => by simp [mapDel]
  | x :: M => by
    by_cases hx : a = x.1
    · simp only [mapDel, eqS_iff.2 hx, List.map_cons]; exact List.sublist_cons_self _ _
    · simp only [mapDel, eqS_ne hx, List.map_cons]; exact (del_keys a M).cons_cons _
def step (M : List PR) (a b : Str) : List PR := if b = [] then mapDel eqS a (mapPut eqS a b M) else mapPut eqS a b M
theorem put_nodup {M : List PR} (h : (M.map (·.1)).Nodup) (a b : Str) : ((mapPut eqS a b M).map (·.1)).Nodup := by
  rw [put_keys]
  split
  · exact h
  · rename_i hn
    rw [List.nodup_append]
    exact ⟨h, by simp, fun x hx y hy e => by simp only [List.mem_singleton] at hy; exact hn (by rw [← hy, ← e]; exact hx)⟩
theorem step_nodup {M : List PR} (h : (M.map (·.1)).Nodup) (a b : Str) : ((step M a b).map (·.1)).Nodup := by
  unfold step
  split
  · exact (put_nodup h a b).sublist (del_keys _ _)
  · exact put_nodup h a b
theorem step_get {M : List PR} (h : (M.map (·.1)).Nodup) (a b k : Str) : mapGet eqS k (step M a b) = if k = a then (if b = [] then none else some b) else mapGet eqS k M := by
  unfold step
  split
  · rename_i hb
    rw [get_del _ _ (put_nodup h a b), get_put]
    split <;> rfl
  · rw [get_put]
theorem step_len (M : List PR) (a b : Str) : (step M a b).length ≤ M.length + 1 := by
  have e1 : ∀ M : List PR, (mapPut eqS a b M).length ≤ M.length + 1 := fun M => by
    have := congrArg List.length (put_keys a b M)
    rw [List.length_map] at this
    rw [this]; split <;> simp
  have e2 : ∀ M : List PR, (mapDel eqS a M).length ≤ M.length := fun M => by
    have := (del_keys a M).length_le
    simpa using this
  unfold step
  split
  · exact Nat.le_trans (e2 _) (e1 M)
  · exact e1 M
def overM (M : List PR) : List Str → List PR
  | a :: b :: r => overM (step M a b) r
  | _ => M
structure Is (A M : List PR) : Prop where
  nd : (M.map (·.1)).Nodup
  so : Sorted A
  eq : ∀ k v, (k, v) ∈ A ↔ mapGet eqS k M = some v
theorem Is.nil : Is [] [] := ⟨by simp, by simp [Sorted], fun k v => by simp [mapGet]⟩
theorem Is.step {A M : List PR} (h : Is A M) (a b : Str) : Is (over A a b) (step M a b) := by
  refine ⟨step_nodup h.nd a b, over_sorted h.so a b, fun k v => ?_⟩
  rw [over_mem, step_get h.nd]
  by_cases hk : k = a
  · simp only [hk, ne_eq, not_true_eq_false, false_and, true_and, false_or, if_true]
    by_cases hb : b = []
    · simp [hb]
    · simp [hb, eq_comm]
  · simp only [ne_eq, hk, not_false_eq_true, true_and, false_and, and_false, or_false, if_false]
    exact h.eq k v
theorem Is.all {A M : List PR} : ∀ (l : List Str), Is A M → Is (Kv.all A l) (overM M l)
  | [], h => h
  | [_], h => h
  | a :: b :: r, h => by
    simp only [Kv.all, overM]
    exact Is.all r (h.step a b)
theorem get_keys {k v : Str} : ∀ {M : List PR}, mapGet eqS k M = some v → k ∈ M.map (·.1)
  | [], h => by simp [mapGet] at h
  | x :: M, h => by
    by_cases hx : k = x.1
    · simp [hx]
    · simp only [mapGet, eqS_ne hx] at h
      simp [get_keys h]
theorem get_some {k : Str} : ∀ {M : List PR}, k ∈ M.map (·.1) → ∃ v, mapGet eqS k M = some v
  | [], h => by simp at h
  | x :: M, h => by
    by_cases hx : k = x.1
    · exact ⟨x.2, by simp [mapGet, eqS_iff.2 hx]⟩
    · simp only [List.map_cons, List.mem_cons, hx, false_or] at h
      obtain ⟨v, hv⟩ := get_some h
      exact ⟨v, by simp [mapGet, eqS_ne hx, hv]⟩
theorem Is.keys {A M : List PR} (h : Is A M) : (M.map (·.1)).mergeSort (fun x y => decide (x ≤ y)) = A.map (·.1) := by
  have hA : (A.map (·.1)).Pairwise (· < ·) := List.pairwise_map.2 h.so
  have ndA : (A.map (·.1)).Nodup := hA.imp fun {x y} hlt => fun e => by subst e; exact lt_irr _ hlt
  have hp : (M.map (·.1)).Perm (A.map (·.1)) := (List.perm_ext_iff_of_nodup h.nd ndA).2 fun k => by
    constructor
    · intro hk
      obtain ⟨v, hv⟩ := get_some hk
      exact List.mem_map.2 ⟨(k, v), (h.eq k v).2 hv, rfl⟩
    · intro hk
      obtain ⟨⟨k', v⟩, h1, rfl⟩ := List.mem_map.1 hk
      exact get_keys ((h.eq _ v).1 h1)
  refine (List.mergeSort_perm _ _ |>.trans hp).eq_of_pairwise (le := fun x y : Str => x ≤ y) (fun x y _ _ h1 h2 => List.le_antisymm h1 h2) ?_ (hA.imp fun hlt => List.le_of_lt hlt)
  have := List.pairwise_mergeSort (le := fun x y : Str => decide (x ≤ y)) (fun a b c h1 h2 => by simp only [decide_eq_true_eq] at h1 h2 ⊢; exact List.le_trans h1 h2) (fun a b => by simp only [Bool.or_eq_true, decide_eq_true_eq]; exact List.le_total a b) (M.map (·.1))
  exact this.imp fun hx => by simpa using hx
theorem Is.len {A M : List PR} (h : Is A M) : A.length = M.length := by
  have := congrArg List.length h.keys
  simpa using this.symm
theorem Is.val {A M : List PR} (h : Is A M) {x : PR} (hx : x ∈ A) : mapGet eqS x.1 M = some x.2 := (h.eq _ _).1 hx
def flat (A : List PR) : List Str := A.flatMap fun p => [p.1, p.2]
theorem flat_len (A : List PR) : (flat A).length = 2 * A.length := by
  induction A with
  | nil => rfl
  | cons x A ih => simp only [flat, List.flatMap_cons, List.length_append, List.length_cons, List.length_nil] at ih ⊢; omega
theorem flat_get (A : List PR) : ∀ (i : Nat) (h : i < A.length), (flat A)[2 * i]? = some A[i].1 ∧ (flat A)[2 * i + 1]? = some A[i].2 := by
  induction A with
  | nil => intro i h; simp at h
  | cons x A ih =>
    intro i h
    cases i with
    | zero => exact ⟨rfl, rfl⟩
    | succ i =>
      obtain ⟨h1, h2⟩ := ih i (by simpa using h)
      refine ⟨?_, ?_⟩
      · show (x.1 :: x.2 :: flat A)[2 * (i + 1)]? = _
        rw [show 2 * (i + 1) = 2 * i + 1 + 1 by omega]; simpa using h1
      · show (x.1 :: x.2 :: flat A)[2 * (i + 1) + 1]? = _
        rw [show 2 * (i + 1) + 1 = 2 * i + 1 + 1 + 1 by omega]; simpa using h2
end Go.Pe.Kv
end
section
namespace Go.Pe.Try
open Go.Proofs Go.RowKit
set_option maxRecDepth 100000
set_option linter.unusedVariables false
theorem f24_p0_eq x0 x1 x2 x8 x9 l0 : f24_p0_F (f24_p0_y x0 x1 x2 x8 x9 l0) = (bif (!x8) then ((nth x0 x9).bind fun y223 => (f53_F (y223, (x1, ()))).bind fun r224 => some ((f24_p0_o0_y x0 x1 x2 x8 x9 (!r224.1) l0))) else (some ((f24_p0_o0_y x0 x1 x2 x8 x9 false l0)))) := by kernel_rfl
theorem f24_p1_eq x0 x1 x2 x8 x9 l0 : f24_p1_F (f24_p1_y x0 x1 x2 x8 x9 l0) = ((f24_p0_F (f24_p0_y x0 x1 x2 x8 x9 l0)).bind fun o225 => bif (f24_p0_o0_x29 o225) then (appOk ((f24_p0_o0_l0 o225).length + [(f24_p0_o0_x1 o225), (f24_p0_o0_x2 o225)].length) (some ((f24_p1_o0_y (f24_p0_o0_x0 o225) (f24_p0_o0_x1 o225) (f24_p0_o0_x2 o225) true (f24_p0_o0_x9 o225) ((f24_p0_o0_l0 o225) ++ [(f24_p0_o0_x1 o225), (f24_p0_o0_x2 o225)]))))) else (some ((f24_p1_o0_y (f24_p0_o0_x0 o225) (f24_p0_o0_x1 o225) (f24_p0_o0_x2 o225) (f24_p0_o0_x8 o225) (f24_p0_o0_x9 o225) (f24_p0_o0_l0 o225))))) := by kernel_rfl
theorem f24_p2_eq x0 x1 x2 x8 x9 l0 : f24_p2_F (f24_p2_y x0 x1 x2 x8 x9 l0) = ((f24_p1_F (f24_p1_y x0 x1 x2 x8 x9 l0)).bind fun o226 => (nth (f24_p1_o0_x0 o226) (f24_p1_o0_x9 o226)).bind fun y227 => bif (y227 != (f24_p1_o0_x1 o226)) then ((nth (f24_p1_o0_x0 o226) (f24_p1_o0_x9 o226)).bind fun y228 => (nth (f24_p1_o0_x0 o226) (IntKind.i64.wrap ((f24_p1_o0_x9 o226) + (1 : Int)))).bind fun y229 => appOk ((f24_p1_o0_l0 o226).length + [y228, y229].length) (some ((f24_p2_o0_y (f24_p1_o0_x0 o226) (f24_p1_o0_x1 o226) (f24_p1_o0_x2 o226) (f24_p1_o0_x8 o226) (f24_p1_o0_x9 o226) ((f24_p1_o0_l0 o226) ++ [y228, y229]))))) else (some ((f24_p2_o0_y (f24_p1_o0_x0 o226) (f24_p1_o0_x1 o226) (f24_p1_o0_x2 o226) (f24_p1_o0_x8 o226) (f24_p1_o0_x9 o226) (f24_p1_o0_l0 o226))))) := by kernel_rfl
theorem f24_p3_eq rec x0 x1 x2 x8 x9 l0 : f24_p3_st rec (f24_p3_y x0 x1 x2 x8 x9 l0) = (bif (decide (x9 < (x0.length : Int))) then ((f24_p2_F (f24_p2_y x0 x1 x2 x8 x9 l0)).bind fun o230 => rec (f24_p3_y (f24_p2_o0_x0 o230) (f24_p2_o0_x1 o230) (f24_p2_o0_x2 o230) (f24_p2_o0_x8 o230) (IntKind.i64.wrap ((f24_p2_o0_x9 o230) + (2 : Int))) (f24_p2_o0_l0 o230))) else (some ((f24_p3_o0_y x1 x2 x8 l0)))) := by kernel_rfl
theorem f24_p4_eq x1 x2 x8 l0 : f24_p4_F (f24_p4_y x1 x2 x8 l0) = (bif (!x8) then (appOk (l0.length + [x1, x2].length) (some ((f24_p4_o0_y (l0 ++ [x1, x2]))))) else (some ((f24_p4_o0_y l0)))) := by kernel_rfl
theorem f24_eq a0 a1 a2 : f24_F (a0, (a1, (a2, ()))) = ((go f24_p3_st (f24_p3_y a0 a1 a2 (a2 == ([] : List UInt8)) (0 : Int) ([] : List (List UInt8)))).bind fun o231 => (f24_p4_F (f24_p4_y (f24_p3_o0_x1 o231) (f24_p3_o0_x2 o231) (f24_p3_o0_x8 o231) (f24_p3_o0_l0 o231))).bind fun o232 => some ((f24_p4_o0_l0 o232), ())) := by kernel_rfl
theorem f12_p0_eq rec x0 x1 x5 : f12_p0_st rec (f12_p0_y x0 x1 x5) = (bif (decide (x5 < (x1.length : Int))) then ((nth x1 x5).bind fun y233 => (nth x1 (IntKind.i64.wrap (x5 + (1 : Int)))).bind fun y234 => (f24_F (x0, (y233, (y234, ())))).bind fun r235 => rec (f12_p0_y r235.1 x1 (IntKind.i64.wrap (x5 + (2 : Int))))) else (some ((f12_p0_o0_y x0)))) := by kernel_rfl
theorem f12_eq a0 a1 : f12_F (a0, (a1, ())) = ((go f12_p0_st (f12_p0_y a0 a1 (0 : Int))).bind fun o236 => some ((f12_p0_o0_x0 o236), ())) := by kernel_rfl
end Go.Pe.Try
end
section
namespace Go.Pe.Try
open Go.Proofs Go.RowKit
set_option maxRecDepth 100000
set_option linter.unusedVariables false
theorem f16_p0_eq rec x0 x1 x12 x13 : f16_p0_st rec (f16_p0_y x0 x1 x12 x13) = (bif (decide (x13 < x12)) then ((nth x0 x13).bind fun y279 => (nth x1 x13).bind fun y280 => bif (y279 != y280) then (some (.inr ((f16_p0_o1_y false)))) else (rec (f16_p0_y x0 x1 x12 (IntKind.i64.wrap (x13 + (1 : Int)))))) else (some (.inl f16_p0_o0_y))) := by kernel_rfl
theorem f16_eq a0 a1 : f16_F (a0, (a1, ())) = (bif ((a0.length : Int) != (a1.length : Int)) then (some (false, ())) else ((go f16_p0_st (f16_p0_y a0 a1 (a0.length : Int) (0 : Int))).bind fun o281 => (match o281 with | .inl z282 => some (true, ()) | .inr o283 => some ((f16_p0_o1_x4 o283), ())))) := by kernel_rfl
theorem h50_eq x0 r0_0 : h50_F (h50_y x0 r0_0) = (bif (decide (x0 < (r0_0.length : Int))) then ((nth r0_0 x0).bind fun y300 => some (h50_o_y y300 r0_0)) else (some (h50_o_y false r0_0))) := by kernel_rfl
theorem h48a_p0_eq x12 x13 x14 r0_0 l0 : h48a_p0_F (h48a_p0_y x12 x13 x14 r0_0 l0) = ((nth x12 x14).bind fun y301 => (h50_F (h50_y x14 r0_0)).bind fun z302 => bif (h50_o_x0 z302) then (within y301.1 l0.length ((l0[(Int.toNat y301.1)]?).bind fun e303 => some ((h48a_p0_o0_y x12 x13 x14 (h50_o_r0_0 z302) (l0.set (Int.toNat y301.1) y301.2))))) else (some ((h48a_p0_o0_y x12 x13 x14 (h50_o_r0_0 z302) l0)))) := by kernel_rfl
theorem h48a_p1_eq rec x12 x13 x14 r0_0 l0 : h48a_p1_st rec (h48a_p1_y x12 x13 x14 r0_0 l0) = (bif (decide (x14 < x13)) then ((h48a_p0_F (h48a_p0_y x12 x13 x14 r0_0 l0)).bind fun o304 => rec (h48a_p1_y (h48a_p0_o0_x12 o304) (h48a_p0_o0_x13 o304) (IntKind.i64.wrap ((h48a_p0_o0_x14 o304) + (1 : Int))) (h48a_p0_o0_r0_0 o304) (h48a_p0_o0_l0 o304))) else (some ((h48a_p1_o0_y r0_0 l0)))) := by kernel_rfl
theorem h48a_eq x0_0 x0_1 r0_0 : h48a_F (h48a_y x0_0 x0_1 r0_0) = ((h73_F (h73_y x0_0)).bind fun z305 => (go h48a_p1_st (h48a_p1_y x0_1 (x0_1.length : Int) (0 : Int) r0_0 (h73_o_l0 z305))).bind fun o306 => some (h48a_o_y (h48a_p1_o0_r0_0 o306) (h48a_p1_o0_l0 o306))) := by kernel_rfl
theorem f21_eq a0_0 a0_1 a1 : f21_F ((a0_0, (a0_1, ())), (a1, ())) = ((f25_F ((a0_0, (a0_1, ())), ())).bind fun r307 => bif (!r307.1) then (some ((([] : List (List UInt8)), (([] : List ((Int × List UInt8))), ())), ((1 : Int), ()))) else ((h48a_F (h48a_y a0_0 a0_1 a1)).bind fun z308 => some (((h48a_o_l0 z308), (([] : List ((Int × List UInt8))), ())), ((0 : Int), ())))) := by kernel_rfl
end Go.Pe.Try
end
section
namespace Go.Pe.Try
open Go.Proofs Go.RowKit Go.Pe.Kv
set_option maxRecDepth 100000
set_option linter.unusedSimpArgs false
set_option linter.unusedVariables false
theorem wrap_add (i c : Nat) (h : i < 4611686018427387904) (hc : c ≤ 2) : IntKind.i64.wrap ((i : Int) + (c : Int)) = ((i + c : Nat) : Int) := by rw [wrap64 (by omega) (by omega)]; rfl
def okOne (a b : Str) : Bool := decide (1 ≤ a.length ∧ a.length ≤ 200 ∧ b.length ≤ 3000)
def okP : List Str → Bool
  | a :: b :: r => okOne a b && okP r
  | _ => true
def pairsB (l : List Str) : Bool := decide (l ≠ [] ∧ l.length % 2 = 0 ∧ l.length ≤ 64) && okP l
theorem drop2 {l : List Str} {i : Nat} (h : i + 1 < l.length) : l.drop i = l[i] :: l[i + 1] :: l.drop (i + 2) := by
  rw [List.drop_eq_getElem_cons (by omega), List.drop_eq_getElem_cons (i := i + 1) h]
theorem nth_next {l : List Str} {i : Nat} (h : i + 1 < l.length) (hb : l.length < 4611686018427387904) : nth l (IntKind.i64.wrap ((i : Int) + (1 : Int))) = some l[i + 1] := by
  rw [show (1 : Int) = ((1 : Nat) : Int) from rfl, wrap_add i 1 (by omega) (by omega), nth_lt h]
theorem pairs_guard (l : List Str) (i : Nat) (h : i + 1 < l.length) (hb : l.length ≤ 1000) : f41_p0_F (f41_p0_y l i) = some (f41_p0_o0_y l i (!okOne l[i] l[i + 1])) := by
  rw [f41_p0_eq, nth_lt (by omega), Option.bind_some, nth_next h (by omega), Option.bind_some, Option.bind_some]
  unfold okOne
  by_cases h1 : 1 ≤ l[i].length
  · rw [show decide ((l[i].length : Int) < 1) = false from by simp only [decide_eq_false_iff_not]; omega, cond_false]
    by_cases h2 : l[i].length ≤ 200
    · rw [show decide ((l[i].length : Int) > 200) = false from by simp only [decide_eq_false_iff_not]; omega, cond_false]
      have : decide ((l[i + 1].length : Int) > 3000) = !decide (1 ≤ l[i].length ∧ l[i].length ≤ 200 ∧ l[i + 1].length ≤ 3000) := by
        by_cases h3 : l[i + 1].length ≤ 3000
        · rw [show decide ((l[i + 1].length : Int) > 3000) = false from by simp only [decide_eq_false_iff_not]; omega, decide_eq_true ⟨h1, h2, h3⟩]; rfl
        · rw [show decide ((l[i + 1].length : Int) > 3000) = true from by simp only [decide_eq_true_eq]; omega, decide_eq_false fun h => h3 h.2.2]; rfl
      rw [this]
    · rw [show decide ((l[i].length : Int) > 200) = true from by simp only [decide_eq_true_eq]; omega, cond_true, decide_eq_false fun h => h2 h.2.1]; rfl
  · rw [show decide ((l[i].length : Int) < 1) = true from by simp only [decide_eq_true_eq]; omega, cond_true, decide_eq_false fun h => h1 h.1]; rfl
theorem pairs_loop (l : List Str) (hb : l.length ≤ 1000) : ∀ (d i : Nat), i + 2 * d = l.length → ∀ n, d + 1 ≤ n →
    iter f41_p1_st n (f41_p1_y l i) = some (bif okP (l.drop i) then .inl f41_p1_o0_y else .inr (f41_p1_o1_y false)) := by
  intro d
  induction d with
  | zero =>
    intro i hi n hn
    obtain ⟨n, rfl⟩ : ∃ k, n = k + 1 := ⟨n - 1, by omega⟩
    rw [iter, f41_p1_eq, show decide ((i : Int) < (l.length : Int)) = false from by simp; omega, cond_false, List.drop_eq_nil_of_le (by omega)]; rfl
  | succ d ih =>
    intro i hi n hn
    obtain ⟨n, rfl⟩ : ∃ k, n = k + 1 := ⟨n - 1, by omega⟩
    rw [iter, f41_p1_eq, show decide ((i : Int) < (l.length : Int)) = true from by simp; omega, cond_true, pairs_guard l i (by omega) hb, Option.bind_some]
    rw [show ∀ b, f41_p0_o0_x46 (f41_p0_o0_y l i b) = b from fun _ => rfl, drop2 (by omega)]
    cases hk : okOne l[i] l[i + 1]
    · simp only [okP, hk, Bool.not_false, cond_true, Bool.false_and, cond_false]
    · simp only [okP, hk, Bool.not_true, cond_false, Bool.true_and]
      show iter f41_p1_st n (f41_p1_y l (IntKind.i64.wrap ((i : Int) + ((2 : Nat) : Int)))) = _
      rw [wrap_add i 2 (by omega) (by omega), ih (i + 2) (by omega) n (by omega)]
theorem pairs_eq (l : List Str) (hb : l.length ≤ 1000) : f41_F (l, ()) = some (pairsB l, ()) := by
  rw [f41_eq, f41_p2_eq]
  unfold pairsB
  by_cases h1 : l = []
  · subst h1; rfl
  rw [show ((l.length : Int) == 0) = false from by simp [h1], cond_false]
  have e2 : Int.tmod (l.length : Int) 2 = ((l.length % 2 : Nat) : Int) := rfl
  rw [e2]
  by_cases h2 : l.length % 2 = 0
  · rw [show (((l.length % 2 : Nat) : Int) != 0) = false from by rw [h2]; rfl, cond_false, Option.bind_some]
    rw [show ∀ b, f41_p2_o0_x17 (f41_p2_o0_y l b) = b from fun _ => rfl]
    by_cases h3 : l.length ≤ 64
    · rw [show decide ((l.length : Int) > 64) = false from by simp; omega, cond_false, decide_eq_true ⟨h1, h2, h3⟩]
      have : go f41_p1_st (f41_p1_y l 0) = some (bif okP l then .inl f41_p1_o0_y else .inr (f41_p1_o1_y false)) := by
        refine go_le (m := l.length + 1) (fun n hn => ?_) (by rw [fuel_def]; omega)
        exact pairs_loop l hb (l.length / 2) 0 (by omega) n (by omega)
      show (((go f41_p1_st (f41_p1_y l 0)).bind _)) = _
      rw [this, Option.bind_some]
      cases okP l <;> rfl
    · rw [show decide ((l.length : Int) > 64) = true from by simp; omega, cond_true, decide_eq_false fun h => h3 h.2.2]; rfl
  · rw [show (((l.length % 2 : Nat) : Int) != 0) = true from by rw [bne_iff_ne]; omega, cond_true, Option.bind_some, decide_eq_false fun h => h2 h.2.1]; rfl
def ents : List Str → Option (List (List Str))
  | [] => some []
  | e :: r => match parts e.length 64 e with
    | some p => if pairsB p then (ents r).map (p :: ·) else none
    | none => none
theorem parts_len : ∀ (k c : Nat) (s : Str) (r : List Str), parts k c s = some r → r.length ≤ c
  | 0, c, s, r, h => by
    simp only [parts] at h
    split at h
    · cases h; simp
    · cases h
  | k + 1, c, s, r, h => by
    simp only [parts] at h
    split at h
    · cases h; simp
    split at h
    · cases h
    split at h
    · cases h
    split at h
    · cases h
    obtain ⟨r', hr, rfl⟩ := Option.map_eq_some_iff.1 h
    have := parts_len k (c - 1) _ r' hr
    simp only [List.length_cons]; omega
theorem parse_small : ∀ (k : Nat) (s : Str) (r : List Str), parse k s = some r → (∀ e ∈ r, e.length ≤ 4096) ∧ r.length ≤ s.length
  | 0, s, r, h => by
    simp only [parse] at h
    split at h
    · cases h; simp
    · cases h
  | k + 1, s, r, h => by
    simp only [parse] at h
    split at h
    · cases h; simp
    split at h
    · cases h
    split at h
    · cases h
    rename_i h1 h2 h3
    obtain ⟨r', hr, rfl⟩ := Option.map_eq_some_iff.1 h
    obtain ⟨g1, g2⟩ := parse_small k _ r' hr
    refine ⟨fun e he => ?_, ?_⟩
    · rcases List.mem_cons.1 he with rfl | he
      · simp; omega
      · exact g1 e he
    · simp only [List.length_cons, List.length_drop] at g2 ⊢; omega
theorem ents_guard (x5 : Int) (p : List Str) (x10 : Int) (l : List Str) (x17 x18 : Int) (acc : List (List Str)) (hp : p.length ≤ 1000) (h0 : x10 = 0) : f29_p0_F (f29_p0_y x5 p x10 l x17 x18 acc) = some (f29_p0_o0_y x5 p l x17 x18 (!pairsB p) acc) := by
  rw [f29_p0_eq, h0, show ((0 : Int) != 0) = false from rfl, cond_false, pairs_eq p hp, Option.bind_some]
theorem ents_guard1 (x5 : Int) (p : List Str) (x10 : Int) (l : List Str) (x17 x18 : Int) (acc : List (List Str)) (h0 : x10 = 22 ∨ x10 = 3) : f29_p0_F (f29_p0_y x5 p x10 l x17 x18 acc) = some (f29_p0_o0_y x5 p l x17 x18 true acc) := by
  rw [f29_p0_eq, show (x10 != 0) = true from by rcases h0 with rfl | rfl <;> rfl, cond_true]
theorem ents_loop (x5 : Int) (l : List Str) (hl : l.length ≤ 1000000) (hs : ∀ e ∈ l, e.length ≤ 4096) : ∀ (d i : Nat), i + d = l.length → ∀ n, d + 1 ≤ n → ∀ acc : List (List Str), acc.length ≤ i →
    iter f29_p1_st n (f29_p1_y x5 l l.length i acc) = some (match ents (l.drop i) with | some r => .inl (f29_p1_o0_y x5 (acc ++ r)) | none => .inr (f29_p1_o1_y false)) := by
  intro d
  induction d with
  | zero =>
    intro i hi n hn acc ha
    obtain ⟨n, rfl⟩ : ∃ k, n = k + 1 := ⟨n - 1, by omega⟩
    rw [iter, f29_p1_eq, show decide ((i : Int) < (l.length : Int)) = false from by simp; omega, cond_false, List.drop_eq_nil_of_le (by omega)]
    simp [ents]
  | succ d ih =>
    intro i hi n hn acc ha
    obtain ⟨n, rfl⟩ : ∃ k, n = k + 1 := ⟨n - 1, by omega⟩
    have hil : i < l.length := by omega
    have he := hs _ (List.getElem_mem hil)
    rw [iter, f29_p1_eq, show decide ((i : Int) < (l.length : Int)) = true from by simp; omega, cond_true, nth_lt hil, Option.bind_some, List.drop_eq_getElem_cons hil]
    obtain ⟨e, hee, hu⟩ := unpack_eq l[i] (by omega)
    rw [hu, Option.bind_some]
    cases hp : parts l[i].length 64 l[i] with
    | none =>
      dsimp only
      rw [ents_guard1 _ _ _ _ _ _ _ hee, Option.bind_some]
      simp only [ents, hp]; rfl
    | some p =>
      have hpl := parts_len _ _ _ _ hp
      dsimp only
      rw [ents_guard _ _ _ _ _ _ _ (by omega) rfl, Option.bind_some]
      rw [show ∀ b, f29_p0_o0_x33 (f29_p0_o0_y x5 p l l.length i b acc) = b from fun _ => rfl]
      cases hk : pairsB p
      · simp only [ents, hp, hk]; rfl
      · simp only [Bool.not_true, cond_false]
        show appOk (acc.length + 1) (iter f29_p1_st n (f29_p1_y x5 l l.length (IntKind.i64.wrap ((i : Int) + ((1 : Nat) : Int))) (acc ++ [p]))) = _
        rw [appOk_lt (by omega), wrap_add i 1 (by omega) (by omega), ih (i + 1) (by omega) n (by omega) _ (by simp; omega)]
        simp only [ents, hp, hk, if_true]
        cases ents (l.drop (i + 1)) with
        | none => rfl
        | some r => simp
def rows (t : Str) : Option (List (List Str)) := (parse t.length t).bind ents
theorem entries_eq (t : Str) (ht : t.length ≤ 100000) : f29_F (t, ()) = some (match rows t with | some r => (r, (true, ())) | none => ([], (false, ()))) := by
  rw [f29_eq, read_eq t (by omega), Option.bind_some]
  unfold rows
  cases hp : parse t.length t with
  | none =>
    dsimp only
    have : go f29_p1_st (f29_p1_y 41 [] (0 : Int) 0 []) = some (.inl (f29_p1_o0_y 41 [])) := by
      refine go_le (m := 1) (fun n hn => ?_) (by rw [fuel_def]; omega)
      exact ents_loop 41 [] (by simp) (by simp) 0 0 rfl n hn [] (by simp)
    show ((go f29_p1_st (f29_p1_y 41 [] (0 : Int) 0 [])).bind _) = _
    rw [this]; rfl
  | some l =>
    obtain ⟨h1, h2⟩ := parse_small _ _ _ hp
    dsimp only
    have : go f29_p1_st (f29_p1_y 0 l l.length 0 []) = some (match ents l with | some r => .inl (f29_p1_o0_y 0 r) | none => .inr (f29_p1_o1_y false)) := by
      refine go_le (m := l.length + 1) (fun n hn => ?_) (by rw [fuel_def]; omega)
      have := ents_loop 0 l (by omega) h1 l.length 0 (by omega) n hn [] (by simp)
      simpa using this
    rw [this, Option.bind_some, Option.bind_some]
    cases ents l with
    | none => rfl
    | some r => rfl
end Go.Pe.Try
end
section
namespace Go.Pe.Try
open Go.Proofs Go.RowKit Go.Pe.Kv
set_option maxRecDepth 100000
set_option linter.unusedSimpArgs false
set_option linter.unusedVariables false
def E (M : List PR) : List (Unit × (Str × Str)) := M.map fun x => ((), x)
theorem mpairs_E (M : List PR) : mpairs .str .str false (E M) = M := by
  show (M.map fun x => ((), x)).map (kv (k := .str) (v := .str) false) = M
  rw [List.map_map]
  have : (kv (k := .str) (v := .str) false ∘ fun x : PR => ((), x)) = id := rfl
  rw [this, List.map_id]
theorem mput_E (M : List PR) (a b : Str) : mput .str .str false (E M) a b = E (mapPut eqS a b M) := by
  show ((mapPut (keyEq .str) a b (mpairs .str .str false (E M))).map (ent (k := .str) (v := .str) false)) = _
  rw [mpairs_E]; rfl
theorem mdel_E (M : List PR) (a : Str) : mdel .str .str false (E M) a = E (mapDel eqS a M) := by
  show ((mapDel (keyEq .str) a (mpairs .str .str false (E M))).map (ent (k := .str) (v := .str) false)) = _
  rw [mpairs_E]; rfl
theorem mget_E (M : List PR) (a : Str) : mget .str .str false (E M) a = mapGet eqS a M := by
  show mapGet (keyEq .str) a (mpairs .str .str false (E M)) = _
  rw [mpairs_E]
theorem over_step (l : List Str) (i : Nat) (h : i + 1 < l.length) (hb : l.length ≤ 1000) (hs : ∀ s ∈ l, s.length ≤ 4611686018427387904) (M : List PR) (hM : M.length ≤ 1000000) :
    h30_p0_F (h30_p0_y l i (E M)) = some (h30_p0_o0_y l i (E (Kv.step M l[i] l[i + 1]))) := by
  rw [h30_p0_eq, nth_lt (by omega), Option.bind_some, nth_next h (by omega), Option.bind_some, Option.bind_some, mpairs_E, appOk_lt (by omega)]
  have hk := hs _ (List.getElem_mem (l := l) (n := i) (by omega))
  show lenOk l[i].length _ = _
  rw [lenOk, if_pos hk, mput_E]
  unfold Kv.step
  by_cases hb : l[i + 1] = []
  · rw [show (l[i + 1] == ([] : List UInt8)) = true from by rw [hb]; rfl, cond_true, if_pos hb, Option.bind_some, mdel_E]
  · rw [show (l[i + 1] == ([] : List UInt8)) = false from by simp [hb], cond_false, if_neg hb]
theorem over_loop (l : List Str) (hb : l.length ≤ 1000) (hs : ∀ s ∈ l, s.length ≤ 4611686018427387904) : ∀ (d i : Nat), i + 2 * d = l.length → ∀ n, d + 1 ≤ n → ∀ M : List PR, M.length + d ≤ 1000000 →
    iter h30_p1_st n (h30_p1_y l i (E M)) = some (h30_p1_o0_y (E (overM M (l.drop i)))) := by
  intro d
  induction d with
  | zero =>
    intro i hi n hn M hM
    obtain ⟨n, rfl⟩ : ∃ k, n = k + 1 := ⟨n - 1, by omega⟩
    rw [iter, h30_p1_eq, show decide ((i : Int) < (l.length : Int)) = false from by simp; omega, cond_false, List.drop_eq_nil_of_le (by omega)]; rfl
  | succ d ih =>
    intro i hi n hn M hM
    obtain ⟨n, rfl⟩ : ∃ k, n = k + 1 := ⟨n - 1, by omega⟩
    rw [iter, h30_p1_eq, show decide ((i : Int) < (l.length : Int)) = true from by simp; omega, cond_true, over_step l i (by omega) hb hs M (by omega), Option.bind_some, drop2 (by omega)]
    show iter h30_p1_st n (h30_p1_y l (IntKind.i64.wrap ((i : Int) + ((2 : Nat) : Int))) (E (Kv.step M l[i] l[i + 1]))) = _
    have := step_len M l[i] l[i + 1]
    rw [wrap_add i 2 (by omega) (by omega), ih (i + 2) (by omega) n (by omega) _ (by omega)]
    rfl
theorem over_eq (l : List Str) (hb : l.length ≤ 1000) (he : l.length % 2 = 0) (hs : ∀ s ∈ l, s.length ≤ 4611686018427387904) (M : List PR) (hM : M.length ≤ 900000) : h30_F (h30_y l (E M)) = some (h30_o_y (E (overM M l))) := by
  rw [h30_eq]
  have : go h30_p1_st (h30_p1_y l 0 (E M)) = some (h30_p1_o0_y (E (overM M l))) := by
    refine go_le (m := l.length + 1) (fun n hn => ?_) (by rw [fuel_def]; omega)
    exact over_loop l hb hs (l.length / 2) 0 (by omega) n (by omega) M (by omega)
  rw [this]; rfl
theorem overM_len : ∀ (l : List Str) (M : List PR), (overM M l).length ≤ M.length + l.length
  | [], M => by simp [overM]
  | [_], M => by simp [overM]
  | a :: b :: r, M => by
    have := overM_len r (Kv.step M a b)
    have h2 := step_len M a b
    simp only [overM, List.length_cons]; omega
def lessOut (x y : Str) : OutDen f53_p0_outs → Bool
  | .inl _ => decide ((x.length : Int) < (y.length : Int))
  | .inr z => f53_p0_o1_x4 z
theorem less_loop (x y : Str) (hx : x.length ≤ 900000) : ∀ (d i : Nat), i + d = x.length → i ≤ y.length → x.take i = y.take i → ∀ n, d + 1 ≤ n →
    ∃ o, iter f53_p0_st n (f53_p0_y x y i) = some o ∧ (∀ z, o = .inl z → z = f53_p0_o0_y x y) ∧ lessOut x y o = decide (x.drop i < y.drop i) := by
  intro d
  induction d with
  | zero =>
    intro i hi hy ht n hn
    obtain ⟨n, rfl⟩ : ∃ k, n = k + 1 := ⟨n - 1, by omega⟩
    rw [iter, f53_p0_eq, show decide ((i : Int) < (x.length : Int)) = false from by simp; omega, cond_false]
    refine ⟨_, rfl, fun z hz => by cases hz; rfl, ?_⟩
    rw [List.drop_eq_nil_of_le (by omega)]
    show decide ((x.length : Int) < (y.length : Int)) = _
    by_cases h : i < y.length
    · rw [List.drop_eq_getElem_cons h, decide_eq_true (by omega : (x.length : Int) < (y.length : Int)), decide_eq_true (List.nil_lt_cons _ _)]
    · rw [List.drop_eq_nil_of_le (by omega), decide_eq_false (by omega : ¬ (x.length : Int) < (y.length : Int)), decide_eq_false (List.lt_irrefl _)]
  | succ d ih =>
    intro i hi hy ht n hn
    obtain ⟨n, rfl⟩ : ∃ k, n = k + 1 := ⟨n - 1, by omega⟩
    have hxi : i < x.length := by omega
    rw [iter, f53_p0_eq, show decide ((i : Int) < (x.length : Int)) = true from by simp; omega, cond_true]
    by_cases h : i < y.length
    · rw [show decide ((i : Int) < (y.length : Int)) = true from by simp; omega, cond_true, nth_lt hxi, nth_lt h]
      simp only [Option.bind_some]
      rw [List.drop_eq_getElem_cons hxi, List.drop_eq_getElem_cons h]
      by_cases hne : x[i] = y[i]
      · rw [show ((x[i].toNat : Int) != (y[i].toNat : Int)) = false from by rw [hne]; simp, cond_false]
        have hw : IntKind.i64.wrap ((i : Int) + (1 : Int)) = ((i + 1 : Nat) : Int) := wrap_add i 1 (by omega) (by omega)
        rw [hw]
        obtain ⟨o, h1, h2, h3⟩ := ih (i + 1) (by omega) (by omega) (by rw [List.take_succ_eq_append_getElem hxi, List.take_succ_eq_append_getElem h, ht, hne]) n (by omega)
        refine ⟨o, h1, h2, ?_⟩
        rw [h3, hne]
        apply decide_eq_decide.2
        rw [List.cons_lt_cons_iff]
        constructor
        · intro h; exact .inr ⟨rfl, h⟩
        · rintro (h | ⟨_, h⟩)
          · exact absurd h (by simp)
          · exact h
      · rw [show ((x[i].toNat : Int) != (y[i].toNat : Int)) = true from by rw [bne_iff_ne]; intro h; exact hne (UInt8.toNat_inj.1 (by omega)), cond_true]
        refine ⟨_, rfl, fun z hz => by (cases hz), ?_⟩
        show decide ((x[i].toNat : Int) < (y[i].toNat : Int)) = _
        apply decide_eq_decide.2
        rw [List.cons_lt_cons_iff]
        constructor
        · intro h; exact .inl (by rw [UInt8.lt_iff_toNat_lt]; omega)
        · rintro (h | ⟨h, _⟩)
          · rw [UInt8.lt_iff_toNat_lt] at h; omega
          · exact absurd h hne
    · rw [show decide ((i : Int) < (y.length : Int)) = false from by simp; omega, cond_false]
      refine ⟨_, rfl, fun z hz => by cases hz; rfl, ?_⟩
      rw [show y.drop i = [] from List.drop_eq_nil_of_le (by omega)]
      show decide ((x.length : Int) < (y.length : Int)) = _
      rw [decide_eq_false (by omega : ¬ (x.length : Int) < (y.length : Int)), decide_eq_false (List.not_lt_nil _)]
theorem less_eq (x y : Str) (hx : x.length ≤ 900000) : f53_F (x, (y, ())) = some (decide (x < y), ()) := by
  rw [f53_eq]
  obtain ⟨o, h1, h2, h3⟩ := less_loop x y hx x.length 0 (by omega) (by omega) rfl (fuelOf f53_p0_sh (f53_p0_y x y 0)) (by rw [fuel_def]; omega)
  have : go f53_p0_st (f53_p0_y x y 0) = some o := h1
  rw [this, Option.bind_some]
  rw [List.drop_zero, List.drop_zero] at h3
  rw [← h3]
  cases o with
  | inl z => rw [h2 z rfl]; rfl
  | inr z => rfl
theorem flat_app (A B : List PR) : flat (A ++ B) = flat A ++ flat B := by simp [flat]
theorem flat_lt {A : List PR} {i : Nat} (h : i < A.length) : ∃ (h1 : 2 * i < (flat A).length) (h2 : 2 * i + 1 < (flat A).length), (flat A)[2 * i] = A[i].1 ∧ (flat A)[2 * i + 1] = A[i].2 := by
  have hl := Kv.flat_len A
  obtain ⟨g1, g2⟩ := flat_get A i h
  refine ⟨by omega, by omega, ?_, ?_⟩
  · rw [List.getElem?_eq_getElem (by omega)] at g1; exact Option.some.inj g1
  · rw [List.getElem?_eq_getElem (by omega)] at g2; exact Option.some.inj g2
theorem Over_one (A : List PR) (hA : A.length ≤ 900000) (a b : Str) (done : Bool) (i : Nat) (h : i < A.length) (hk : A[i].1.length ≤ 900000) (out : List PR) (ho : out.length ≤ 2 * i + 2) :
    f24_p2_F (f24_p2_y (flat A) a b done ((2 * i : Nat) : Int) (flat out)) = some (f24_p2_o0_y (flat A) a b (done || (!done && !decide (A[i].1 < a))) ((2 * i : Nat) : Int) (flat (out ++ ((if !done && !decide (A[i].1 < a) then [(a, b)] else []) ++ (if A[i].1 ≠ a then [A[i]] else []))))) := by
  obtain ⟨h1, h2, e1, e2⟩ := flat_lt h
  have hfA := Kv.flat_len A
  have hol := Kv.flat_len out
  rw [f24_p2_eq, f24_p1_eq, f24_p0_eq]
  have tail : ∀ (d : Bool) (o : List PR), o.length ≤ 2 * i + 3 → (some (f24_p1_o0_y (flat A) a b d ((2 * i : Nat) : Int) (flat o))).bind (fun o226 => (nth (f24_p1_o0_x0 o226) (f24_p1_o0_x9 o226)).bind fun y227 => bif (y227 != (f24_p1_o0_x1 o226)) then ((nth (f24_p1_o0_x0 o226) (f24_p1_o0_x9 o226)).bind fun y228 => (nth (f24_p1_o0_x0 o226) (IntKind.i64.wrap ((f24_p1_o0_x9 o226) + (1 : Int)))).bind fun y229 => appOk ((f24_p1_o0_l0 o226).length + [y228, y229].length) (some ((f24_p2_o0_y (f24_p1_o0_x0 o226) (f24_p1_o0_x1 o226) (f24_p1_o0_x2 o226) (f24_p1_o0_x8 o226) (f24_p1_o0_x9 o226) ((f24_p1_o0_l0 o226) ++ [y228, y229]))))) else (some ((f24_p2_o0_y (f24_p1_o0_x0 o226) (f24_p1_o0_x1 o226) (f24_p1_o0_x2 o226) (f24_p1_o0_x8 o226) (f24_p1_o0_x9 o226) (f24_p1_o0_l0 o226)))))
      = some (f24_p2_o0_y (flat A) a b d ((2 * i : Nat) : Int) (flat (o ++ (if A[i].1 ≠ a then [A[i]] else [])))) := by
    intro d o hol2
    have hfo := Kv.flat_len o
    rw [Option.bind_some]
    show ((nth (flat A) ((2 * i : Nat) : Int)).bind fun y227 => bif (y227 != a) then ((nth (flat A) ((2 * i : Nat) : Int)).bind fun y228 => (nth (flat A) (IntKind.i64.wrap (((2 * i : Nat) : Int) + (1 : Int)))).bind fun y229 => appOk ((flat o).length + [y228, y229].length) (some (f24_p2_o0_y (flat A) a b d ((2 * i : Nat) : Int) (flat o ++ [y228, y229])))) else (some (f24_p2_o0_y (flat A) a b d ((2 * i : Nat) : Int) (flat o)))) = _
    rw [nth_lt h1, nth_next h2 (by omega), Option.bind_some, Option.bind_some, Option.bind_some, e1, e2]
    by_cases hne : A[i].1 = a
    · rw [show (A[i].1 != a) = false from by simp [hne], cond_false, if_neg (by simp [hne]), List.append_nil]
    · rw [show (A[i].1 != a) = true from by simp [hne], cond_true, if_pos hne, appOk_lt (by simp only [List.length_cons, List.length_nil]; omega), flat_app]; rfl
  cases done
  · simp only [Bool.not_false, cond_true, Bool.true_and, Bool.false_or]
    rw [nth_lt h1, Option.bind_some, e1, less_eq _ _ hk, Option.bind_some, Option.bind_some]
    rw [show ∀ b', f24_p0_o0_x29 (f24_p0_o0_y (flat A) a b false ((2 * i : Nat) : Int) b' (flat out)) = b' from fun _ => rfl]
    cases hlt : decide (A[i].1 < a)
    · simp only [Bool.not_false, cond_true, if_true]
      show ((appOk ((flat out).length + [a, b].length) (some (f24_p1_o0_y (flat A) a b true ((2 * i : Nat) : Int) (flat out ++ [a, b])))).bind _) = _
      rw [appOk_lt (by simp only [List.length_cons, List.length_nil]; omega), show flat out ++ [a, b] = flat (out ++ [(a, b)]) from by rw [flat_app]; rfl, tail true _ (by simp; omega), List.append_assoc]
    · simp only [Bool.not_true, cond_false, Bool.false_eq_true, if_false, List.nil_append]
      exact tail false out (by omega)
  · simp only [Bool.not_true, cond_false, Bool.false_and, Bool.or_false, Bool.false_eq_true, if_false, List.nil_append, Option.bind_some]
    exact tail true out (by omega)
theorem Over_loop (A : List PR) (hA : A.length ≤ 900000) (hk : ∀ x ∈ A, x.1.length ≤ 900000) (a b : Str) : ∀ (d i : Nat), i + d = A.length → ∀ n, d + 1 ≤ n → ∀ (done : Bool) (out : List PR), out.length ≤ 2 * i →
    ∃ done' X, iter f24_p3_st n (f24_p3_y (flat A) a b done ((2 * i : Nat) : Int) (flat out)) = some (f24_p3_o0_y a b done' (flat X)) ∧ X.length ≤ 2 * A.length ∧ X ++ (if done' then [] else [(a, b)]) = out ++ ov a b done (A.drop i) := by
  intro d
  induction d with
  | zero =>
    intro i hi n hn done out ho
    obtain ⟨n, rfl⟩ : ∃ k, n = k + 1 := ⟨n - 1, by omega⟩
    have hl := Kv.flat_len A
    rw [iter, f24_p3_eq, show decide (((2 * i : Nat) : Int) < ((flat A).length : Int)) = false from by simp only [decide_eq_false_iff_not]; omega, cond_false, List.drop_eq_nil_of_le (by omega)]
    exact ⟨done, out, rfl, by omega, by cases done <;> simp [ov]⟩
  | succ d ih =>
    intro i hi n hn done out ho
    obtain ⟨n, rfl⟩ : ∃ k, n = k + 1 := ⟨n - 1, by omega⟩
    have hl := Kv.flat_len A
    have hil : i < A.length := by omega
    rw [iter, f24_p3_eq, show decide (((2 * i : Nat) : Int) < ((flat A).length : Int)) = true from by simp only [decide_eq_true_eq]; omega, cond_true, Over_one A hA a b done i hil (hk _ (List.getElem_mem hil)) out (by omega), Option.bind_some]
    have hw : IntKind.i64.wrap (((2 * i : Nat) : Int) + ((2 : Nat) : Int)) = ((2 * (i + 1) : Nat) : Int) := wrap_add (2 * i) 2 (by omega) (by omega)
    obtain ⟨done', X, h1, h2, h3⟩ := ih (i + 1) (by omega) n (by omega) (done || (!done && !decide (A[i].1 < a))) (out ++ ((if !done && !decide (A[i].1 < a) then [(a, b)] else []) ++ (if A[i].1 ≠ a then [A[i]] else []))) (by
      have e1 : ∀ (c : Prop) [Decidable c] (x : PR), (if c then [x] else []).length ≤ 1 := fun c _ x => by split <;> simp
      have := e1 ((!done && !decide (A[i].1 < a)) = true) (a, b)
      have := e1 (A[i].1 ≠ a) A[i]
      rw [List.length_append, List.length_append]; omega)
    refine ⟨done', X, ?_, h2, ?_⟩
    · show iter f24_p3_st n (f24_p3_y (flat A) a b _ (IntKind.i64.wrap (((2 * i : Nat) : Int) + ((2 : Nat) : Int))) _) = _
      rw [hw]; exact h1
    · rw [h3, List.drop_eq_getElem_cons hil]
      simp only [ov, List.append_assoc]
theorem Over_eq (A : List PR) (hA : A.length ≤ 900000) (hk : ∀ x ∈ A, x.1.length ≤ 900000) (a b : Str) : f24_F (flat A, (a, (b, ()))) = some (flat (Kv.over A a b), ()) := by
  rw [f24_eq]
  obtain ⟨done', X, h1, h2, h3⟩ := Over_loop A hA hk a b A.length 0 (by omega) (fuelOf f24_p3_sh (f24_p3_y (flat A) a b (b == []) 0 [])) (by rw [fuel_def]; omega) (b == []) [] (by simp)
  have hX := Kv.flat_len X
  have : go f24_p3_st (f24_p3_y (flat A) a b (b == []) 0 []) = some (f24_p3_o0_y a b done' (flat X)) := h1
  rw [this, Option.bind_some, f24_p4_eq]
  rw [List.drop_zero, List.nil_append] at h3
  unfold Kv.over
  rw [← h3]
  cases done'
  · show ((appOk ((flat X).length + 2) (some (f24_p4_o0_y (flat X ++ [a, b])))).bind _) = _
    rw [appOk_lt (by omega), Option.bind_some, if_neg (by simp), flat_app]; rfl
  · show some (flat X, ()) = _
    rw [if_pos rfl, List.append_nil]
theorem over_len (a b : Str) : ∀ (done : Bool) (A : List PR), (ov a b done A).length ≤ A.length + (if done then 0 else 1)
  | done, [] => by cases done <;> simp [ov]
  | done, x :: r => by
    have h1 := over_len a b true r
    have h2 := over_len a b false r
    have e1 : ∀ (c : Prop) [Decidable c] (x : PR), (if c then [x] else []).length ≤ 1 := fun c _ x => by split <;> simp
    have := e1 (x.1 ≠ a) x
    simp only [if_true, Bool.false_eq_true, if_false] at h1 h2
    cases done
    · cases hlt : decide (x.1 < a) <;> simp only [ov, hlt, List.length_append, Bool.not_false, Bool.not_true, Bool.and_true, Bool.and_false, Bool.or_true, Bool.or_false, if_true, Bool.false_eq_true, if_false, List.length_cons, List.length_nil] <;> omega
    · simp only [ov, List.length_append, Bool.not_true, Bool.false_and, Bool.or_false, if_true, Bool.false_eq_true, if_false, List.length_cons, List.length_nil]; omega
theorem all_keys {n : Nat} : ∀ (l : List Str) (A : List PR), (∀ s ∈ l, s.length ≤ n) → (∀ x ∈ A, x.1.length ≤ n ∧ x.2.length ≤ n) → ∀ x ∈ Kv.all A l, x.1.length ≤ n ∧ x.2.length ≤ n
  | [], A, _, h => h
  | [_], A, _, h => h
  | a :: b :: r, A, hl, h => by
    refine all_keys r (Kv.over A a b) (fun s hs => hl s (by simp [hs])) fun x hx => ?_
    obtain ⟨k, v⟩ := x
    rcases (over_mem A a b k v).1 hx with ⟨_, hx⟩ | ⟨_, rfl, rfl⟩
    · exact h _ hx
    · exact ⟨hl _ (by simp), hl _ (by simp)⟩
theorem all_len : ∀ (l : List Str) (A : List PR), (Kv.all A l).length ≤ A.length + l.length
  | [], A => by simp [Kv.all]
  | [_], A => by simp [Kv.all]
  | a :: b :: r, A => by
    have h1 := all_len r (Kv.over A a b)
    have h2 := over_len a b (b == []) A
    have : (Kv.over A a b).length ≤ A.length + 1 := by unfold Kv.over; split at h2 <;> omega
    simp only [Kv.all, List.length_cons]; omega
theorem All_loop (l : List Str) (hb : l.length ≤ 1000) (hs : ∀ s ∈ l, s.length ≤ 900000) : ∀ (d i : Nat), i + 2 * d = l.length → ∀ n, d + 1 ≤ n → ∀ A : List PR, A.length + d ≤ 900000 → (∀ x ∈ A, x.1.length ≤ 900000 ∧ x.2.length ≤ 900000) →
    iter f12_p0_st n (f12_p0_y (flat A) l i) = some (f12_p0_o0_y (flat (Kv.all A (l.drop i)))) := by
  intro d
  induction d with
  | zero =>
    intro i hi n hn A hA hk
    obtain ⟨n, rfl⟩ : ∃ k, n = k + 1 := ⟨n - 1, by omega⟩
    rw [iter, f12_p0_eq, show decide ((i : Int) < (l.length : Int)) = false from by simp; omega, cond_false, List.drop_eq_nil_of_le (by omega)]; rfl
  | succ d ih =>
    intro i hi n hn A hA hk
    obtain ⟨n, rfl⟩ : ∃ k, n = k + 1 := ⟨n - 1, by omega⟩
    have h1 : i < l.length := by omega
    have h2 : i + 1 < l.length := by omega
    rw [iter, f12_p0_eq, show decide ((i : Int) < (l.length : Int)) = true from by simp; omega, cond_true, nth_lt h1, nth_next h2 (by omega), Option.bind_some, Option.bind_some, Over_eq A (by omega) (fun x hx => (hk x hx).1), Option.bind_some, drop2 h2]
    show iter f12_p0_st n (f12_p0_y (flat (Kv.over A l[i] l[i + 1])) l (IntKind.i64.wrap ((i : Int) + ((2 : Nat) : Int)))) = _
    have hl2 := over_len l[i] l[i + 1] (l[i + 1] == []) A
    have : (Kv.over A l[i] l[i + 1]).length ≤ A.length + 1 := by unfold Kv.over; split at hl2 <;> omega
    rw [wrap_add i 2 (by omega) (by omega), ih (i + 2) (by omega) n (by omega) _ (by omega) (fun x hx => ?_)]
    · rfl
    · obtain ⟨k, v⟩ := x
      rcases (over_mem A _ _ k v).1 hx with ⟨_, hx⟩ | ⟨_, rfl, rfl⟩
      · exact hk _ hx
      · exact ⟨hs _ (List.getElem_mem _), hs _ (List.getElem_mem _)⟩
theorem All_eq (A : List PR) (hA : A.length ≤ 800000) (hk : ∀ x ∈ A, x.1.length ≤ 900000 ∧ x.2.length ≤ 900000) (l : List Str) (hb : l.length ≤ 1000) (he : l.length % 2 = 0) (hs : ∀ s ∈ l, s.length ≤ 900000) : f12_F (flat A, (l, ())) = some (flat (Kv.all A l), ()) := by
  rw [f12_eq]
  have : go f12_p0_st (f12_p0_y (flat A) l 0) = some (f12_p0_o0_y (flat (Kv.all A l))) := by
    refine go_le (m := l.length + 1) (fun n hn => ?_) (by rw [fuel_def]; omega)
    exact All_loop l hb hs (l.length / 2) 0 (by omega) n (by omega) A (by omega) hk
  rw [this]; rfl
end Go.Pe.Try
end
section
namespace Go.Pe.X17
abbrev Sec := List UInt8
abbrev Wr := Int × List UInt8
def badS (s : Sec) : Bool := (s.length : Int) != 128
def badW (n : Nat) (w : Wr) : Bool := decide (w.1 < 0) || (decide (w.1 ≥ (n : Int)) || (w.2.length : Int) != 128)
def right (S : List Sec) (D : List Wr) : Bool := !(decide ((S.length : Int) < 4)) && (!(decide ((S.length : Int) > 64)) && (!(decide ((D.length : Int) > 200)) && (!S.any badS && !D.any (badW S.length))))
structure Right (S : List Sec) (D : List Wr) : Prop where
  lo : 4 ≤ S.length
  hi : S.length ≤ 64
  few : D.length ≤ 200
  sec : ∀ s ∈ S, s.length = 128
  wr : ∀ w ∈ D, 0 ≤ w.1 ∧ w.1 < (S.length : Int) ∧ w.2.length = 128
theorem right_iff {S : List Sec} {D : List Wr} : right S D = true ↔ Right S D := by
  unfold right
  simp only [Bool.and_eq_true, Bool.not_eq_true', decide_eq_false_iff_not, List.any_eq_false, badS, badW, bne_iff_ne, Bool.or_eq_true, decide_eq_true_eq, Classical.not_not, not_or]
  constructor
  · rintro ⟨h1, h2, h3, h4, h5⟩
    exact ⟨by omega, by omega, by omega, fun s hs => by have := h4 s hs; omega, fun w hw => by have := h5 w hw; omega⟩
  · rintro ⟨h1, h2, h3, h4, h5⟩
    exact ⟨by omega, by omega, by omega, fun s hs => by have := h4 s hs; omega, fun w hw => by have := h5 w hw; omega⟩
def stand (at_ : Int) (s : Sec) (w : Wr) : Sec := bif w.1 == at_ then w.2 else s
def stands (S : List Sec) (D : List Wr) (k : Nat) : Sec := D.foldl (stand k) (S.getD k [])
def put (S : List Sec) (w : Wr) : List Sec := S.set w.1.toNat w.2
theorem puts_len (D : List Wr) : ∀ S : List Sec, (D.foldl put S).length = S.length := by
  induction D with
  | nil => intro S; rfl
  | cons w D ih => intro S; rw [List.foldl_cons, ih]; simp [put]
theorem puts_right {S : List Sec} {D : List Wr} (h : Right S D) : Right (D.foldl put S) [] := by
  have key : ∀ (D : List Wr) (S : List Sec), (∀ s ∈ S, s.length = 128) → (∀ w ∈ D, w.2.length = 128) → ∀ s ∈ D.foldl put S, s.length = 128 := by
    intro D
    induction D with
    | nil => intro S h _; exact h
    | cons w D ih =>
      intro S h1 h2
      refine ih (put S w) (fun s hs => ?_) fun v hv => h2 v (by simp [hv])
      rcases List.mem_or_eq_of_mem_set hs with h | h
      · exact h1 s h
      · rw [h]; exact h2 w (by simp)
  exact ⟨by rw [puts_len]; exact h.lo, by rw [puts_len]; exact h.hi, by simp, key D S h.sec fun w hw => (h.wr w hw).2.2, by simp⟩
def keptS (keep : List Bool) (i : Nat) (S : List Sec) (w : Wr) : List Sec := bif keep.getD i false then put S w else S
end Go.Pe.X17
end
section
namespace Go.Pe.Try
open Go.Proofs Go.RowKit Go.Pe.X17
set_option maxRecDepth 100000
set_option linter.unusedSimpArgs false
set_option linter.unusedVariables false
abbrev Wr := Go.Pe.X17.Wr
theorem find_any {α : Type} (l : List α) (p : α → Bool) : (∃ k, l.findIdx? p = some k ∧ l.any p = true) ∨ (l.findIdx? p = none ∧ l.any p = false) := by
  cases h : l.findIdx? p with
  | none =>
    rw [List.findIdx?_eq_none_iff] at h
    exact .inr ⟨rfl, by rw [List.any_eq_false]; intro x hx; simp [h x hx]⟩
  | some k =>
    rw [List.findIdx?_eq_some_iff_getElem] at h
    obtain ⟨hk, hp, _⟩ := h
    exact .inl ⟨k, rfl, List.any_eq_true.2 ⟨_, List.getElem_mem hk, hp⟩⟩
theorem h56_is (S : List Sec) (h : S.length ≤ 1000) : h56_F (h56_y S) = some (h56_o_y (S.any badS)) := by
  rw [h56_eq, h74_eq]
  have hl := go_scan (step := h74_p0_st) (l := S) (fun i => h74_p0_y S (S.length : Int) (i : Int)) badS (fun k => some (.inr (h74_p0_o1_y (k : Int)))) (some (.inl h74_p0_o0_y)) (fun i hi rec => by
    rw [h74_p0_eq, nth_lt hi, wrap64 (by omega) (by omega)]
    have : decide ((i : Int) < (S.length : Int)) = true := by simp; exact hi
    rw [this]
    simp only [cond_true, Option.bind_some, f54_eq]
    rfl) (fun rec => by rw [h74_p0_eq]; simp) (by rw [fuel_def]; omega)
  simp only [Int.ofNat_zero, Int.natCast_zero] at hl
  rw [hl]
  rcases find_any S badS with ⟨k, e, e2⟩ | ⟨e, e2⟩
  · rw [e, e2]
    simp only [Option.bind_some, h74_p0_o1_x4_y, h74_o_x0_y]
    have : decide ((k : Int) ≥ 0) = true := by simp
    rw [this]
  · rw [e, e2]
    simp only [Option.bind_some, h74_o_x0_y]
    rfl
theorem h55_is (w : Wr) (n : Int) : h55_F (h55_y w.1 w.2 n) = some (h55_o_y (decide (w.1 < 0) || (decide (w.1 ≥ n) || (w.2.length : Int) != 128)) n) := by
  rw [h55_eq]
  cases decide (w.1 < 0)
  · cases decide (w.1 ≥ n)
    · simp only [cond_false, Bool.false_or]; rw [f54_eq]; rfl
    · simp only [cond_false, cond_true, Bool.false_or, Bool.true_or]
  · simp only [cond_true, Bool.true_or]
theorem h57_is (D : List Wr) (n : Nat) (h : D.length ≤ 1000) : h57_F (h57_y D (n : Int)) = some (h57_o_y (D.any (badW n)) (n : Int)) := by
  rw [h57_eq, h75_eq]
  have hl := go_scan (step := h75_p0_st) (l := D) (fun i => h75_p0_y D (D.length : Int) (i : Int) (n : Int)) (badW n) (fun k => some (.inr (h75_p0_o1_y (k : Int) (n : Int)))) (some (.inl (h75_p0_o0_y (n : Int)))) (fun i hi rec => by
    rw [h75_p0_eq, nth_lt hi, wrap64 (by omega) (by omega)]
    have : decide ((i : Int) < (D.length : Int)) = true := by simp; exact hi
    rw [this]
    simp only [cond_true, Option.bind_some, h55_is, h55_o_x0_y, h55_o_r0_0_y]
    rfl) (fun rec => by rw [h75_p0_eq]; simp) (by rw [fuel_def]; omega)
  simp only [Int.natCast_zero] at hl
  rw [hl]
  rcases find_any D (badW n) with ⟨k, e, e2⟩ | ⟨e, e2⟩
  · rw [e, e2]
    simp only [Option.bind_some, h75_p0_o1_x4_y, h75_p0_o1_r0_0_y, h75_o_x0_y, h75_o_r0_0_y]
    have : decide ((k : Int) ≥ 0) = true := by simp
    rw [this]
  · rw [e, e2]
    simp only [Option.bind_some, h75_p0_o0_r0_0_y, h75_o_x0_y, h75_o_r0_0_y]
    rfl
theorem right_is (S : List Sec) (D : List Wr) (hS : S.length ≤ 1000) (hD : D.length ≤ 1000) : f25_F ((S, (D, ())), ()) = some (right S D, ()) := by
  rw [f25_eq, f25_p0_eq]
  unfold right
  cases decide ((S.length : Int) < 4)
  · cases decide ((S.length : Int) > 64)
    · cases decide ((D.length : Int) > 200)
      · simp only [cond_false, Option.bind_some, f25_p0_o0_x20_y, f25_p0_o0_r0_0_y, f25_p0_o0_r0_1_y, f25_p0_o0_r1_0_y, h56_is S hS, h57_is D _ hD, h56_o_x0_y, h57_o_x0_y]
        cases S.any badS <;> simp
      · simp
    · simp
  · simp
theorem nilEq_same {α S : Type} (xs : List α) (a : Option S) : nilEq xs a a = a := by
  unfold nilEq; split <;> simp
theorem clone_w (D : List Wr) (h : D.length ≤ 1000) : h47_F (h47_y D) = some (h47_o_y D) := by
  rw [h47_eq, appOk_lt (by simp only [List.length_nil]; omega)]
  cases D with
  | nil => exact nilEq_same _ _
  | cons w D => unfold nilEq; simp
theorem clone_s (S : List Sec) (h : S.length ≤ 1000) : h73_F (h73_y S) = some (h73_o_y S) := by
  rw [h73_eq, appOk_lt (by simp only [List.length_nil]; omega)]
  cases S with
  | nil => exact nilEq_same _ _
  | cons w D => unfold nilEq; simp
abbrev disk (S : List Sec) (D : List Wr) (e : Int) : Option ((List Sec × List Wr × Unit) × Int × Unit) := some ((S, (D, ())), (e, ()))
theorem put_is {S : List Sec} {D : List Wr} (h : Right S D) {k : Nat} (hk : k < S.length) {data : Sec} (hd : data.length = 128) (hf : D.length < 200) : f19_F ((S, (D, ())), ((k : Int), (data, ()))) = disk S (D ++ [((k : Int), data)]) 0 := by
  have h1 := h.hi
  rw [f19_eq, f19_p0_eq, right_is S D (by omega) (by omega), right_iff.2 h]
  have e1 : decide ((k : Int) < 0) = false := by simp
  have e2 : decide ((k : Int) ≥ (S.length : Int)) = false := by simp; omega
  have e3 : ((data.length : Int) != 128) = false := by simp; omega
  have e4 : ((D.length : Int) == 200) = false := by simp; omega
  rw [e1, e2, e3]
  simp only [Option.bind_some, Bool.not_true, cond_false, f19_p0_o0_x8_y, f19_p0_o0_r0_1_y, f19_p0_o0_x1_y, f19_p0_o0_x2_y, f19_p0_o0_r0_0_y]
  rw [e4, clone_w D (by omega)]
  simp only [cond_false, Option.bind_some, h47_o_l0_y]
  rw [appOk_lt (by simp; omega)]
theorem safe_all {S : List Sec} {D : List Wr} (h : Right S D) : h48_F (h48_y S D) = some (h48_o_y (D.foldl put S)) := by
  have h1 := h.hi; have h2 := h.few
  rw [h48_eq, clone_s S (by omega)]
  simp only [Option.bind_some, h73_o_l0_y]
  have hl := (go_foldi (step := h48_p1_st) (l := D) (fun i s => h48_p1_y D (D.length : Int) (i : Int) s) (fun _ => put) (fun _ s => s.length = S.length) (s0 := S) (fin := fun s => some (h48_p1_o0_y s)) rfl (fun i s hi hI => by
    refine ⟨by simpa [put] using hI, fun rec => ?_⟩
    rw [h48_p1_eq]
    have : decide ((i : Int) < (D.length : Int)) = true := by simp; exact hi
    rw [this]
    obtain ⟨g0, g1, _⟩ := h.wr _ (List.getElem_mem hi)
    have hb : h48_p0_F (h48_p0_y D (D.length : Int) (i : Int) s) = some (h48_p0_o0_y D (D.length : Int) (i : Int) (put s D[i])) := by
      rw [h48_p0_eq, nth_lt hi]
      simp only [Option.bind_some, f49_eq]
      have hn : D[i].1.toNat < s.length := by omega
      have e : D[i].1 = ((D[i].1.toNat : Nat) : Int) := by omega
      have hw : ∀ K : Option h48_p0_o0.den, within D[i].1 s.length K = K := fun K => by rw [e, within_lt hn]
      rw [f49_eq]
      simp only [Option.bind_some, cond_true]
      refine (hw _).trans ?_
      rw [List.getElem?_eq_getElem hn]
      rfl
    simp only [cond_true]
    rw [hb]
    simp only [Option.bind_some, h48_p0_o0_x12_y, h48_p0_o0_x13_y, h48_p0_o0_x14_y, h48_p0_o0_l0_y]
    rw [wrap64 (by omega) (by omega)]
    rfl) (fun s hI rec => by rw [h48_p1_eq]; simp) (by rw [fuel_def]; omega)).1
  simp only [Int.natCast_zero, Int.ofNat_zero] at hl
  rw [hl, foldi_eq]
  rfl
theorem h50_is (keep : List Bool) (i : Nat) : h50_F (h50_y (i : Int) keep) = some (h50_o_y (keep.getD i false) keep) := by
  rw [h50_eq]
  by_cases hi : i < keep.length
  · have : decide ((i : Int) < (keep.length : Int)) = true := by simp; exact hi
    rw [this, nth_lt hi]
    simp [List.getD_eq_getElem?_getD, hi]
  · have : decide ((i : Int) < (keep.length : Int)) = false := by simp; omega
    rw [this, List.getD_eq_getElem?_getD, List.getElem?_eq_none (by omega)]
    rfl
theorem safe_keep {S : List Sec} {D : List Wr} (h : Right S D) (keep : List Bool) : h48a_F (h48a_y S D keep) = some (h48a_o_y keep (foldi (keptS keep) 0 S D)) := by
  have h1 := h.hi; have h2 := h.few
  rw [h48a_eq, clone_s S (by omega)]
  simp only [Option.bind_some, h73_o_l0_y]
  have hl := (go_foldi (step := h48a_p1_st) (l := D) (fun i s => h48a_p1_y D (D.length : Int) (i : Int) keep s) (keptS keep) (fun _ s => s.length = S.length) (s0 := S) (fin := fun s => some (h48a_p1_o0_y keep s)) rfl (fun i s hi hI => by
    refine ⟨by unfold keptS; cases keep.getD i false <;> simpa [put] using hI, fun rec => ?_⟩
    rw [h48a_p1_eq]
    have : decide ((i : Int) < (D.length : Int)) = true := by simp; exact hi
    rw [this]
    obtain ⟨g0, g1, _⟩ := h.wr _ (List.getElem_mem hi)
    have hb : h48a_p0_F (h48a_p0_y D (D.length : Int) (i : Int) keep s) = some (h48a_p0_o0_y D (D.length : Int) (i : Int) keep (keptS keep i s D[i])) := by
      rw [h48a_p0_eq, nth_lt hi]
      simp only [Option.bind_some]
      rw [h50_is]
      have hn : D[i].1.toNat < s.length := by omega
      have e : D[i].1 = ((D[i].1.toNat : Nat) : Int) := by omega
      have hw : ∀ K : Option h48a_p0_o0.den, within D[i].1 s.length K = K := fun K => by rw [e, within_lt hn]
      simp only [Option.bind_some, h50_o_x0_y, h50_o_r0_0_y]
      unfold keptS
      cases keep.getD i false
      · rfl
      · simp only [cond_true]
        refine (hw _).trans ?_
        rw [List.getElem?_eq_getElem hn]
        rfl
    simp only [cond_true]
    rw [hb]
    simp only [Option.bind_some, h48a_p0_o0_x12_y, h48a_p0_o0_x13_y, h48a_p0_o0_x14_y, h48a_p0_o0_r0_0_y, h48a_p0_o0_l0_y]
    rw [wrap64 (by omega) (by omega)]
    rfl) (fun s hI rec => by rw [h48a_p1_eq]; simp) (by rw [fuel_def]; omega)).1
  simp only [Int.natCast_zero, Int.ofNat_zero] at hl
  rw [hl]
  rfl
theorem sync_is {S : List Sec} {D : List Wr} (h : Right S D) : f20_F ((S, (D, ())), ()) = disk (D.foldl put S) [] 0 := by
  have h1 := h.hi; have h2 := h.few
  rw [f20_eq, right_is S D (by omega) (by omega), right_iff.2 h]
  simp only [Option.bind_some, Bool.not_true, cond_false, safe_all h, h48_o_l0_y]
theorem crash_is {S : List Sec} {D : List Wr} (h : Right S D) (keep : List Bool) : f21_F ((S, (D, ())), (keep, ())) = disk (foldi (keptS keep) 0 S D) [] 0 := by
  have h1 := h.hi; have h2 := h.few
  rw [f21_eq, right_is S D (by omega) (by omega), right_iff.2 h]
  simp only [Option.bind_some, Bool.not_true, cond_false, safe_keep h, h48a_o_l0_y]
end Go.Pe.Try
end
section
namespace Go.Pe.Try
open Go.Proofs Go.RowKit Go.Pe.Kv Go.Pe.X17
set_option maxRecDepth 100000
set_option linter.unusedSimpArgs false
set_option linter.unusedVariables false
theorem equal_loop (l m : List Str) (hl : l.length = m.length) (hb : l.length ≤ 900000) : ∀ (d i : Nat), i + d = l.length → ∀ n, d + 1 ≤ n →
    iter f40_p0_st n (f40_p0_y l m l.length i) = some (if l.drop i = m.drop i then .inl f40_p0_o0_y else .inr (f40_p0_o1_y false)) := by
  intro d
  induction d with
  | zero =>
    intro i hi n hn
    obtain ⟨n, rfl⟩ : ∃ k, n = k + 1 := ⟨n - 1, by omega⟩
    rw [iter, f40_p0_eq]
    have h1 : l.drop i = [] := List.drop_eq_nil_of_le (by omega)
    have h2 : m.drop i = [] := List.drop_eq_nil_of_le (by omega)
    have h3 : decide ((i : Int) < (l.length : Int)) = false := by simp; omega
    rw [h3, h1, h2]; rfl
  | succ d ih =>
    intro i hi n hn
    obtain ⟨n, rfl⟩ : ∃ k, n = k + 1 := ⟨n - 1, by omega⟩
    rw [iter, f40_p0_eq]
    have h3 : decide ((i : Int) < (l.length : Int)) = true := by simp; omega
    have hil : i < l.length := by omega
    have him : i < m.length := by omega
    rw [h3, cond_true, nth_lt hil, nth_lt him]
    simp only [Option.bind_some]
    have hdl := List.drop_eq_getElem_cons hil
    have hdm := List.drop_eq_getElem_cons him
    by_cases he : l[i] = m[i]
    · have : (l[i] != m[i]) = false := by simp [he]
      rw [this, cond_false]
      have hw : IntKind.i64.wrap ((i : Int) + 1) = ((i + 1 : Nat) : Int) := by rw [wrap64 (by omega) (by omega)]; rfl
      rw [hw, ih (i + 1) (by omega) n (by omega)]
      have : (l.drop (i + 1) = m.drop (i + 1)) = (l.drop i = m.drop i) := by rw [hdl, hdm, he]; simp only [List.cons.injEq, true_and]
      simp only [this]
    · have h5 : (l[i] != m[i]) = true := by simp [he]
      rw [h5, cond_true]
      have : ¬ (l.drop i = m.drop i) := by rw [hdl, hdm]; intro h; exact he (List.cons.inj h).1
      rw [if_neg this]
theorem equal_self (l : List Str) (hb : l.length ≤ 900000) : f40_F (l, (l, ())) = some (true, ()) := by
  rw [f40_eq, show ((l.length : Int) != (l.length : Int)) = false from by simp, cond_false]
  have h2 : go f40_p0_st (f40_p0_y l l l.length 0) = some (.inl f40_p0_o0_y) := by
    refine go_le (m := l.length + 1) (fun n hn => ?_) (by rw [fuel_def]; omega)
    have := equal_loop l l rfl hb l.length 0 (by omega) n hn
    simpa using this
  rw [h2]; rfl
theorem same_loop (l m : List Str) (hl : l.length = m.length) (hb : l.length ≤ 900000) : ∀ (d i : Nat), i + d = l.length → ∀ n, d + 1 ≤ n →
    iter f16_p0_st n (f16_p0_y l m l.length i) = some (if l.drop i = m.drop i then .inl f16_p0_o0_y else .inr (f16_p0_o1_y false)) := by
  intro d
  induction d with
  | zero =>
    intro i hi n hn
    obtain ⟨n, rfl⟩ : ∃ k, n = k + 1 := ⟨n - 1, by omega⟩
    rw [iter, f16_p0_eq]
    have h1 : l.drop i = [] := List.drop_eq_nil_of_le (by omega)
    have h2 : m.drop i = [] := List.drop_eq_nil_of_le (by omega)
    have h3 : decide ((i : Int) < (l.length : Int)) = false := by simp; omega
    rw [h3, h1, h2]; rfl
  | succ d ih =>
    intro i hi n hn
    obtain ⟨n, rfl⟩ : ∃ k, n = k + 1 := ⟨n - 1, by omega⟩
    rw [iter, f16_p0_eq]
    have h3 : decide ((i : Int) < (l.length : Int)) = true := by simp; omega
    have hil : i < l.length := by omega
    have him : i < m.length := by omega
    rw [h3, cond_true, nth_lt hil, nth_lt him]
    simp only [Option.bind_some]
    have hdl := List.drop_eq_getElem_cons hil
    have hdm := List.drop_eq_getElem_cons him
    by_cases he : l[i] = m[i]
    · have : (l[i] != m[i]) = false := by simp [he]
      rw [this, cond_false]
      have hw : IntKind.i64.wrap ((i : Int) + 1) = ((i + 1 : Nat) : Int) := by rw [wrap64 (by omega) (by omega)]; rfl
      rw [hw, ih (i + 1) (by omega) n (by omega)]
      have : (l.drop (i + 1) = m.drop (i + 1)) = (l.drop i = m.drop i) := by rw [hdl, hdm, he]; simp only [List.cons.injEq, true_and]
      simp only [this]
    · have h5 : (l[i] != m[i]) = true := by simp [he]
      rw [h5, cond_true]
      have : ¬ (l.drop i = m.drop i) := by rw [hdl, hdm]; intro h; exact he (List.cons.inj h).1
      rw [if_neg this]
theorem same_eq (l m : List Str) (hb : l.length ≤ 900000) : f16_F (l, (m, ())) = some (decide (l = m), ()) := by
  rw [f16_eq]
  by_cases hl : l.length = m.length
  · have h1 : ((l.length : Int) != (m.length : Int)) = false := by simp [hl]
    rw [h1, cond_false]
    have h2 : go f16_p0_st (f16_p0_y l m l.length 0) = some (if l = m then .inl f16_p0_o0_y else .inr (f16_p0_o1_y false)) := by
      refine go_le (m := l.length + 1) (fun n hn => ?_) (by rw [fuel_def]; omega)
      have := same_loop l m hl hb l.length 0 (by omega) n hn
      simpa using this
    rw [h2]
    by_cases h : l = m
    · rw [if_pos h, decide_eq_true h]; rfl
    · rw [if_neg h, decide_eq_false h]; rfl
  · have h1 : ((l.length : Int) != (m.length : Int)) = true := by simp; omega
    rw [h1, cond_true]
    have : l ≠ m := fun h => hl (by rw [h])
    simp [this]
theorem cmpless_eq (x y : Str) : f66_F (x, (y, ())) = some (decide (x < y), ()) := by
  rw [f66_eq, f81_eq, Option.bind_some, show (x != x) = false from by simp, cond_false, Go.Proofs.bytesLess_eq]
theorem mid_eq (i j : Nat) (h : i + j < 4611686018427387904) : IntKind.i64.wrap (Int.fdiv (IntKind.u64.wrap (IntKind.i64.wrap ((i : Int) + (j : Int)))) (2 ^ (min (Int.toNat (1 : Int)) 64))) = (((i + j) / 2 : Nat) : Int) := by
  have e : (2 : Int) ^ (min (Int.toNat (1 : Int)) 64) = 2 := by decide
  rw [e, wrap64 (x := (i : Int) + j) (by omega) (by omega), wrapU64 (by omega) (by omega)]
  have e2 : Int.fdiv ((i : Int) + (j : Int)) 2 = (((i + j) / 2 : Nat) : Int) := by
    rw [Int.fdiv_eq_ediv_of_nonneg _ (by decide)]; omega
  rw [e2, wrap64 (by omega) (by omega)]
theorem search_loop (xs : List Str) (t : Str) (hb : xs.length ≤ 900000) (hso : xs.Pairwise (· < ·)) : ∀ (d i j : Nat), j - i ≤ d → i ≤ j → j ≤ xs.length → (∀ k (h : k < xs.length), k < i → xs[k] < t) → (∀ k (h : k < xs.length), j ≤ k → ¬ xs[k] < t) → ∀ n, d + 1 ≤ n →
    ∃ m : Nat, m ≤ xs.length ∧ (∀ k (h : k < xs.length), k < m → xs[k] < t) ∧ (∀ k (h : k < xs.length), m ≤ k → ¬ xs[k] < t) ∧ iter f33_p0_st n (f33_p0_y xs t xs.length i j) = some (f33_p0_o0_y xs t xs.length m) := by
  intro d
  induction d with
  | zero =>
    intro i j hd hij hj h1 h2 n hn
    obtain ⟨n, rfl⟩ : ∃ k, n = k + 1 := ⟨n - 1, by omega⟩
    rw [iter, f33_p0_eq, show decide ((i : Int) < (j : Int)) = false from by simp; omega, cond_false]
    obtain rfl : i = j := by omega
    exact ⟨i, hj, h1, h2, rfl⟩
  | succ d ih =>
    intro i j hd hij hj h1 h2 n hn
    obtain ⟨n, rfl⟩ : ∃ k, n = k + 1 := ⟨n - 1, by omega⟩
    rw [iter, f33_p0_eq]
    by_cases hlt : i < j
    · rw [show decide ((i : Int) < (j : Int)) = true from by simp; omega, cond_true, mid_eq i j (by omega)]
      have hm : (i + j) / 2 < xs.length := by omega
      have mono : ∀ a b (ha : a < xs.length) (hb' : b < xs.length), a < b → xs[a] < xs[b] := fun a b ha hb' hab => List.pairwise_iff_getElem.1 hso a b ha hb' hab
      rw [nth_lt hm, Option.bind_some, cmpless_eq, Option.bind_some]
      by_cases hc : xs[(i + j) / 2] < t
      · rw [decide_eq_true hc, cond_true]
        rw [show IntKind.i64.wrap ((((i + j) / 2 : Nat) : Int) + (1 : Int)) = (((i + j) / 2 + 1 : Nat) : Int) from wrap_add _ 1 (by omega) (by omega)]
        refine ih ((i + j) / 2 + 1) j (by omega) (by omega) hj (fun k hk hk2 => ?_) h2 n (by omega)
        rcases Nat.lt_or_ge k ((i + j) / 2) with h | h
        · exact List.lt_trans (mono k _ hk hm h) hc
        · obtain rfl : k = (i + j) / 2 := by omega
          exact hc
      · rw [decide_eq_false hc, cond_false]
        refine ih i ((i + j) / 2) (by omega) (by omega) (by omega) h1 (fun k hk hk2 => ?_) n (by omega)
        rcases Nat.lt_or_ge ((i + j) / 2) k with h | h
        · intro h3; exact hc (List.lt_trans (mono _ k hm hk h) h3)
        · obtain rfl : k = (i + j) / 2 := by omega
          exact hc
    · rw [show decide ((i : Int) < (j : Int)) = false from by simp; omega, cond_false]
      obtain rfl : i = j := by omega
      exact ⟨i, hj, h1, h2, rfl⟩
theorem search_out (xs : List Str) (t : Str) (hb : xs.length ≤ 900000) (hso : xs.Pairwise (· < ·)) : ∃ m : Nat, m ≤ xs.length ∧ (∀ k (h : k < xs.length), k < m → xs[k] < t) ∧ (∀ k (h : k < xs.length), m ≤ k → ¬ xs[k] < t) ∧
    f33_F (xs, (t, ())) = some ((m : Int), (decide (xs[m]? = some t), ())) := by
  obtain ⟨m, h1, h2, h3, h4⟩ := search_loop xs t hb hso xs.length 0 xs.length (by omega) (by omega) (Nat.le_refl _) (fun k _ h => by omega) (fun k h h' => by omega) (fuelOf f33_p0_sh (f33_p0_y xs t xs.length 0 xs.length)) (by rw [fuel_def]; omega)
  refine ⟨m, h1, h2, h3, ?_⟩
  have : go f33_p0_st (f33_p0_y xs t xs.length 0 xs.length) = some (f33_p0_o0_y xs t xs.length m) := h4
  rw [f33_eq, this, Option.bind_some]
  show (bif decide ((m : Int) < (xs.length : Int)) then ((nth xs (m : Int)).bind fun y193 => bif (y193 == t) then (some ((m : Int), (true, ()))) else ((nth xs (m : Int)).bind fun y194 => (f67_F (y194, ())).bind fun r195 => bif r195.1 then ((f67_F (t, ())).bind fun r196 => some ((m : Int), (r196.1, ()))) else (some ((m : Int), (false, ()))))) else (some ((m : Int), (false, ())))) = _
  by_cases hm : m < xs.length
  · rw [show decide ((m : Int) < (xs.length : Int)) = true from by simp; omega, cond_true, nth_lt hm, Option.bind_some, Option.bind_some, f67_eq, Option.bind_some, List.getElem?_eq_getElem hm]
    by_cases he : xs[m] = t
    · simp [he]
    · rw [show (xs[m] == t) = false from by simp [he]]; simp [he]
  · rw [show decide ((m : Int) < (xs.length : Int)) = false from by simp; omega, cond_false, List.getElem?_eq_none (by omega)]; simp
theorem search_hit {A : List PR} (hA : A.length ≤ 900000) (hso : Sorted A) {i : Nat} (h : i < A.length) : f33_F (A.map (·.1), (A[i].1, ())) = some ((i : Int), (true, ())) := by
  have hp : (A.map (·.1)).Pairwise (· < ·) := List.pairwise_map.2 hso
  obtain ⟨m, h1, h2, h3, h4⟩ := search_out (A.map (·.1)) A[i].1 (by simpa using hA) hp
  have hil : i < (A.map (·.1)).length := by simpa using h
  have e : m = i := by
    rcases Nat.lt_trichotomy m i with h5 | h5 | h5
    · have h6 := h3 m (by omega) (Nat.le_refl _)
      have := List.pairwise_iff_getElem.1 hp m i (by omega) hil h5
      simp only [List.getElem_map] at this h6
      exact absurd this h6
    · exact h5
    · have := h2 i hil h5
      simp only [List.getElem_map] at this
      exact absurd this (lt_irr _)
  subst e
  rw [h4]
  simp [List.getElem?_eq_getElem h]
def texts (l : List Str) : List Str := (l.take 66).map fun s => s.take 3100
theorem texts_loop (L : List Str) (hL : L.length ≤ 66) : ∀ (d i : Nat), i + d = L.length → ∀ n, d + 1 ≤ n →
    iter f9_p0_st n (f9_p0_y L.length i ((L.take i).map (fun s => s.take 3100) ++ L.drop i)) = some (f9_p0_o0_y (L.map fun s => s.take 3100)) := by
  intro d
  induction d with
  | zero =>
    intro i hi n hn
    obtain ⟨n, rfl⟩ : ∃ k, n = k + 1 := ⟨n - 1, by omega⟩
    rw [iter, f9_p0_eq, show decide ((i : Int) < (L.length : Int)) = false from by simp; omega, cond_false, List.drop_eq_nil_of_le (by omega), List.take_of_length_le (by omega), List.append_nil]
  | succ d ih =>
    intro i hi n hn
    obtain ⟨n, rfl⟩ : ∃ k, n = k + 1 := ⟨n - 1, by omega⟩
    have hil : i < L.length := by omega
    have hlen : ((L.take i).map (fun s => s.take 3100) ++ L.drop i).length = L.length := by simp; omega
    have hg : ((L.take i).map (fun s => s.take 3100) ++ L.drop i)[i]? = some L[i] := by
      rw [List.getElem?_append_right (by simp; omega), List.getElem?_drop]
      simp only [List.length_map, List.length_take]
      rw [show i + (i - min i L.length) = i by omega, List.getElem?_eq_getElem hil]
    rw [iter, f9_p0_eq, show decide ((i : Int) < (L.length : Int)) = true from by simp; omega, cond_true, hlen, within_lt hil, Int.toNat_natCast, hg, Option.bind_some, show (3100 : Int) = ((3100 : Nat) : Int) from rfl, cut_min, within_lt hil, Option.bind_some]
    rw [show IntKind.i64.wrap ((i : Int) + (1 : Int)) = ((i + 1 : Nat) : Int) from wrap_add i 1 (by omega) (by omega)]
    have hset : ((L.take i).map (fun s => s.take 3100) ++ L.drop i).set i (L[i].take 3100) = (L.take (i + 1)).map (fun s => s.take 3100) ++ L.drop (i + 1) := by
      rw [List.set_append_right _ _ (by simp; omega)]
      simp only [List.length_map, List.length_take]
      rw [show i - min i L.length = 0 by omega, List.drop_eq_getElem_cons hil, List.set_cons_zero, List.take_succ_eq_append_getElem hil, List.map_append]
      simp
    rw [hset, ih (i + 1) (by omega) n (by omega)]
theorem texts_eq (l : List Str) : f9_F (l, ()) = some (texts l, ()) := by
  rw [f9_eq, show (66 : Int) = ((66 : Nat) : Int) from rfl, cut_min, appOk_lt (by simp; omega), List.nil_append]
  have : go f9_p0_st (f9_p0_y (l.take 66).length 0 (l.take 66)) = some (f9_p0_o0_y ((l.take 66).map fun s => s.take 3100)) := by
    refine go_le (m := (l.take 66).length + 1) (fun n hn => ?_) (by rw [fuel_def]; simp; omega)
    have := texts_loop (l.take 66) (by simp; omega) (l.take 66).length 0 (by omega) n hn
    simpa using this
  rw [this]; rfl
theorem texts_len (l : List Str) : (texts l).length ≤ 66 ∧ ∀ s ∈ texts l, s.length ≤ 3100 := by
  refine ⟨by simp [texts]; omega, fun s hs => ?_⟩
  obtain ⟨t, _, rfl⟩ := List.mem_map.1 hs
  simp; omega
end Go.Pe.Try
end
section
namespace Go.Pe.Try
open Go.Proofs Go.RowKit Go.Pe.Kv Go.Pe.X17
set_option maxRecDepth 100000
set_option linter.unusedSimpArgs false
set_option linter.unusedVariables false
def tell (S : List Str) (k : Nat) : Nat × Nat := tl (S.getD (atH S k) []) (logH S k).length
def selH (S : List Str) : Nat := if (tell S 1).1 > (tell S 0).1 then 1 else 0
def textH (S : List Str) (k used : Nat) : Str := (logH S k).flatten.take used
theorem logH_mem {S : List Str} {k : Nat} : ∀ s ∈ logH S k, s ∈ S := fun s hs => List.mem_of_mem_take (List.mem_of_mem_drop hs)
theorem sel_eq (S : List Str) (h : Right S []) : go f13_p4_st (f13_p4_y 0 S [] 0 0 0 S [] 0 0 0) = some (f13_p4_o0_y S [] 0 0 0 S [] (selH S) (tell S (selH S)).1 (tell S (selH S)).2) := by
  have h1 := h.lo; have h2 := h.hi
  refine go_le (m := 3) (fun n hn => ?_) (by rw [fuel_def]; omega)
  obtain ⟨n, rfl⟩ : ∃ k, n = k + 3 := ⟨n - 3, by omega⟩
  have t0 := tells_eq S [] 0 (by omega) h1 h2 h.sec
  have t1 := tells_eq S [] 1 (by omega) h1 h2 h.sec
  have t0' : f26_F ((S, (([] : List (Int × Str)), ())), ((0 : Int), ())) = some (((tell S 0).1 : Int), (((tell S 0).2 : Int), ())) := t0
  have t1' : f26_F ((S, (([] : List (Int × Str)), ())), ((1 : Int), ())) = some (((tell S 1).1 : Int), (((tell S 1).2 : Int), ())) := t1
  rw [iter, f13_p4_eq, show decide ((0 : Int) < 2) = true from rfl, cond_true, f13_p2_eq, t0', Option.bind_some]
  have key : ∀ (h0 t u : Int), iter f13_p4_st (n + 2) (f13_p4_y 1 S [] 0 0 0 S [] h0 t u) = some (bif decide (((tell S 1).1 : Int) > t) then f13_p4_o0_y S [] 0 0 0 S [] 1 ((tell S 1).1 : Int) ((tell S 1).2 : Int) else f13_p4_o0_y S [] 0 0 0 S [] h0 t u) := by
    intro h0 t u
    rw [iter, f13_p4_eq, show decide ((1 : Int) < 2) = true from rfl, cond_true, f13_p2_eq, t1', Option.bind_some]
    cases decide (((tell S 1).1 : Int) > t)
    · rw [cond_false, cond_false, Option.bind_some]
      show iter f13_p4_st (n + 1) (f13_p4_y 2 S [] 0 0 0 S [] h0 t u) = _
      rw [iter, f13_p4_eq, show decide ((2 : Int) < 2) = false from rfl, cond_false]
    · rw [cond_true, cond_true, Option.bind_some]
      show iter f13_p4_st (n + 1) (f13_p4_y 2 S [] 0 0 0 S [] 1 ((tell S 1).1 : Int) ((tell S 1).2 : Int)) = _
      rw [iter, f13_p4_eq, show decide ((2 : Int) < 2) = false from rfl, cond_false]
  have fin : ∀ (t u : Nat), t = (tell S 0).1 → u = (tell S 0).2 → (bif decide (((tell S 1).1 : Int) > (t : Int)) then f13_p4_o0_y S [] 0 0 0 S [] 1 ((tell S 1).1 : Int) ((tell S 1).2 : Int) else f13_p4_o0_y S [] 0 0 0 S [] 0 t u) = f13_p4_o0_y S [] 0 0 0 S [] (selH S) (tell S (selH S)).1 (tell S (selH S)).2 := by
    intro t u ht hu
    subst ht; subst hu
    unfold selH
    by_cases hc : (tell S 1).1 > (tell S 0).1
    · rw [decide_eq_true (by omega : ((tell S 1).1 : Int) > ((tell S 0).1 : Int)), cond_true, if_pos hc]; rfl
    · rw [decide_eq_false (by omega : ¬ ((tell S 1).1 : Int) > ((tell S 0).1 : Int)), cond_false, if_neg hc]; rfl
  by_cases h0 : (tell S 0).1 = 0
  · have hu := (tl_bound (S.getD (atH S 0) []) (logH S 0).length).2.2 h0
    rw [show decide (((tell S 0).1 : Int) > 0) = false from by simp [h0], cond_false, Option.bind_some]
    show iter f13_p4_st (n + 2) (f13_p4_y 1 S [] 0 0 0 S [] 0 ((0 : Nat) : Int) ((0 : Nat) : Int)) = _
    rw [key, fin 0 0 h0.symm hu.symm]
  · rw [show decide (((tell S 0).1 : Int) > 0) = true from by simp; omega, cond_true, Option.bind_some]
    show iter f13_p4_st (n + 2) (f13_p4_y 1 S [] 0 0 0 S [] 0 ((tell S 0).1 : Int) ((tell S 0).2 : Int)) = _
    rw [key, fin _ _ rfl rfl]
def allR (A : List PR) (rs : List (List Str)) : List PR := rs.foldl Kv.all A
def overR (M : List PR) (rs : List (List Str)) : List PR := rs.foldl overM M
theorem is_rows : ∀ (rs : List (List Str)) {A M : List PR}, Is A M → Is (allR A rs) (overR M rs)
  | [], _, _, h => h
  | r :: rs, _, _, h => is_rows rs (h.all r)
theorem pairs_spec {l : List Str} (h : pairsB l = true) : l ≠ [] ∧ l.length % 2 = 0 ∧ l.length ≤ 64 ∧ okP l = true := by
  unfold pairsB at h
  simp only [Bool.and_eq_true, decide_eq_true_eq] at h
  exact ⟨h.1.1, h.1.2.1, h.1.2.2, h.2⟩
theorem okP_mem : ∀ {l : List Str}, okP l = true → l.length % 2 = 0 → ∀ s ∈ l, s.length ≤ 3000
  | [], _, _ => by simp
  | [_], _, h => by simp at h
  | a :: b :: r, h, he => by
    simp only [okP, okOne, Bool.and_eq_true, decide_eq_true_eq] at h
    intro s hs
    rcases List.mem_cons.1 hs with rfl | hs
    · omega
    rcases List.mem_cons.1 hs with rfl | hs
    · omega
    · exact okP_mem h.2 (by simp only [List.length_cons] at he; omega) s hs
theorem ents_ok : ∀ {l : List Str} {rs : List (List Str)}, ents l = some rs → (∀ r ∈ rs, pairsB r = true) ∧ rs.length = l.length
  | [], rs, h => by simp only [ents, Option.some.injEq] at h; subst h; simp
  | e :: l, rs, h => by
    simp only [ents] at h
    cases hp : parts e.length 64 e with
    | none => rw [hp] at h; cases h
    | some p =>
      rw [hp] at h
      dsimp only at h
      split at h
      · rename_i hk
        obtain ⟨r', hr, rfl⟩ := Option.map_eq_some_iff.1 h
        obtain ⟨h1, h2⟩ := ents_ok hr
        refine ⟨fun r hm => ?_, by simp [h2]⟩
        rcases List.mem_cons.1 hm with rfl | hm
        · exact hk
        · exact h1 r hm
      · cases h
theorem rows_ok {t : Str} {rs : List (List Str)} (h : rows t = some rs) : (∀ r ∈ rs, pairsB r = true) ∧ rs.length ≤ t.length := by
  unfold rows at h
  obtain ⟨l, hl, h⟩ := Option.bind_eq_some_iff.1 h
  obtain ⟨h1, h2⟩ := ents_ok h
  exact ⟨h1, by rw [h2]; exact (parse_small _ _ _ hl).2⟩
theorem allR_len : ∀ (rs : List (List Str)) (A : List PR), (∀ r ∈ rs, r.length ≤ 64) → (allR A rs).length ≤ A.length + 64 * rs.length
  | [], A, _ => by simp [allR]
  | r :: rs, A, h => by
    have h1 := allR_len rs (Kv.all A r) fun x hx => h x (by simp [hx])
    have h2 := all_len r A
    have h3 := h r (by simp)
    simp only [allR, List.foldl_cons, List.length_cons] at h1 ⊢; omega
theorem allR_sz : ∀ (rs : List (List Str)) (A : List PR), (∀ r ∈ rs, ∀ s ∈ r, s.length ≤ 3000) → (∀ x ∈ A, x.1.length ≤ 3000 ∧ x.2.length ≤ 3000) → ∀ x ∈ allR A rs, x.1.length ≤ 3000 ∧ x.2.length ≤ 3000
  | [], A, _, h => h
  | r :: rs, A, h, hA => allR_sz rs (Kv.all A r) (fun x hx => h x (by simp [hx])) (all_keys r A (h r (by simp)) hA)
theorem rows_loop (rs : List (List Str)) (hl : rs.length ≤ 10000) (hp : ∀ r ∈ rs, pairsB r = true) (r1 r2 r3 : Int) (S : List Str) (D : List (Int × Str)) (r4 r5 r6 : Int) : ∀ (d i : Nat), i + d = rs.length → ∀ n, d + 1 ≤ n → ∀ M : List PR, M.length + 64 * d ≤ 900000 →
    iter f13_p1_st n (f13_p1_y rs rs.length i r1 r2 r3 S D r4 r5 r6 (E M)) = some (f13_p1_o0_y r1 r2 r3 S D r4 r5 r6 (E (overR M (rs.drop i)))) := by
  intro d
  induction d with
  | zero =>
    intro i hi n hn M hM
    obtain ⟨n, rfl⟩ : ∃ k, n = k + 1 := ⟨n - 1, by omega⟩
    rw [iter, f13_p1_eq, show decide ((i : Int) < (rs.length : Int)) = false from by simp; omega, cond_false, List.drop_eq_nil_of_le (by omega)]; rfl
  | succ d ih =>
    intro i hi n hn M hM
    obtain ⟨n, rfl⟩ : ∃ k, n = k + 1 := ⟨n - 1, by omega⟩
    have hil : i < rs.length := by omega
    have hpr := hp _ (List.getElem_mem hil)
    obtain ⟨_, p2, p3, p4⟩ := pairs_spec hpr
    have hm := okP_mem p4 p2
    rw [iter, f13_p1_eq, show decide ((i : Int) < (rs.length : Int)) = true from by simp; omega, cond_true, nth_lt hil, Option.bind_some, over_eq _ (by omega) p2 (fun s hs => by have := hm s hs; omega) M (by omega), Option.bind_some]
    rw [show ∀ l0, h30_o_l0 (h30_o_y l0) = l0 from fun _ => rfl, show IntKind.i64.wrap ((i : Int) + (1 : Int)) = ((i + 1 : Nat) : Int) from wrap_add i 1 (by omega) (by omega)]
    have := overM_len rs[i] M
    rw [ih (i + 1) (by omega) n (by omega) _ (by omega), List.drop_eq_getElem_cons hil]; rfl
theorem keys_loop (A M : List PR) (h : Is A M) (hA : A.length ≤ 900000) (r1 r2 r3 : Int) (S : List Str) (D : List (Int × Str)) (r4 r5 r6 : Int) : ∀ (d i : Nat), i + d = A.length → ∀ n, d + 1 ≤ n →
    iter f13_p0_st n (f13_p0_y A.length i r1 r2 r3 S D r4 r5 r6 (E M) (A.map (·.1)) ((A.take i).map (·.1)) ((A.take i).map (·.2))) = some (f13_p0_o0_y r1 r2 r3 S D r4 r5 r6 (A.map (·.1)) (A.map (·.2))) := by
  intro d
  induction d with
  | zero =>
    intro i hi n hn
    obtain ⟨n, rfl⟩ : ∃ k, n = k + 1 := ⟨n - 1, by omega⟩
    rw [iter, f13_p0_eq, show decide ((i : Int) < (A.length : Int)) = false from by simp; omega, cond_false, List.take_of_length_le (by omega)]
  | succ d ih =>
    intro i hi n hn
    obtain ⟨n, rfl⟩ : ∃ k, n = k + 1 := ⟨n - 1, by omega⟩
    have hil : i < A.length := by omega
    have hil2 : i < (A.map (·.1)).length := by simpa using hil
    have hv := h.val (List.getElem_mem hil)
    rw [iter, f13_p0_eq, show decide ((i : Int) < (A.length : Int)) = true from by simp; omega, cond_true, within_lt hil2, Int.toNat_natCast, List.getElem?_eq_getElem hil2, Option.bind_some, List.getElem_map, mget_E, hv]
    rw [appOk_lt (by simp; omega), appOk_lt (by simp; omega), show IntKind.i64.wrap ((i : Int) + (1 : Int)) = ((i + 1 : Nat) : Int) from wrap_add i 1 (by omega) (by omega)]
    have e1 : (A.take i).map (·.1) ++ [A[i].1] = (A.take (i + 1)).map (·.1) := by rw [List.take_succ_eq_append_getElem hil, List.map_append]; rfl
    have e2 : (A.take i).map (·.2) ++ [(some A[i].2).getD []] = (A.take (i + 1)).map (·.2) := by rw [List.take_succ_eq_append_getElem hil, List.map_append]; rfl
    rw [e1, e2, ih (i + 1) (by omega) n (by omega)]
structure Store (S : List Str) (A : List PR) (h t u : Nat) : Prop where
  right : Right S []
  half : selH S = h
  tells : tell S h = (t, u)
  pos : 1 ≤ t
  held : ∃ rs, rows (textH S h u) = some rs ∧ A = allR [] rs
theorem selH_le (S : List Str) : selH S ≤ 1 := by unfold selH; split <;> omega
theorem Store.hle {S A h t u} (s : Store S A h t u) : h ≤ 1 := by rw [← s.half]; exact selH_le S
theorem Store.used {S A h t u} (s : Store S A h t u) : u ≤ 128 * (logH S h).length ∧ t ≤ 1099511627776 := by
  have := tl_bound (S.getD (atH S h) []) (logH S h).length
  have e : tell S h = (t, u) := s.tells
  unfold tell at e
  rw [e] at this
  exact ⟨this.2.1, this.1⟩
theorem uni_of {S : List Str} (h : Right S []) (k : Nat) : X18.Uni (logH S k) := fun s hs => h.sec s (logH_mem s hs)
theorem text_len {S : List Str} (hr : Right S []) {k : Nat} (hk : k ≤ 1) (u : Nat) : (textH S k u).length ≤ 4000 := by
  have hL := logH_len S k hk hr.lo
  have := hr.hi
  have hf := X18.flat_len (uni_of hr k)
  unfold textH
  rw [List.length_take]; omega
theorem Store.sizes {S A h t u} (s : Store S A h t u) : A.length ≤ 256000 ∧ (∀ x ∈ A, x.1.length ≤ 3000 ∧ x.2.length ≤ 3000) ∧ Sorted A := by
  obtain ⟨rs, hr, rfl⟩ := s.held
  obtain ⟨h1, h2⟩ := rows_ok hr
  have h3 := text_len s.right s.hle u
  refine ⟨?_, ?_, (is_rows rs Is.nil).so⟩
  · have := allR_len rs [] fun r hm => (pairs_spec (h1 r hm)).2.2.1
    simp only [List.length_nil] at this; omega
  · exact allR_sz rs [] (fun r hm => okP_mem (pairs_spec (h1 r hm)).2.2.2 (pairs_spec (h1 r hm)).2.1) (by simp)
abbrev kvOf (S : List Str) (A : List PR) (h t u : Nat) : List Str × List (Int × Str) × List Str × List Str × Int × Int × Int × Unit := (S, ([], (A.map (·.1), (A.map (·.2), ((h : Int), ((t : Int), ((u : Int), ())))))))
theorem open_eq {S A h t u} (s : Store S A h t u) : f13_F ((S, (([] : List (Int × Str)), ())), ()) = some (kvOf S A h t u, ((0 : Int), ())) := by
  have hr := s.right
  have h1 := hr.lo; have h2 := hr.hi
  have hle := s.hle
  obtain ⟨hu, ht⟩ := s.used
  have hL := logH_len S h hle h1
  rw [f13_eq, f13_p5_eq, right_is S [] (by omega) (by simp), Option.bind_some, right_iff.2 hr]
  rw [show (!(true, ()).1) = false from rfl, cond_false, Option.bind_some]
  show (bif decide ((([] : List (Int × Str)).length : Int) > 0) then _ else ((go f13_p4_st (f13_p4_y 0 S [] 0 0 0 S [] 0 0 0)).bind _)) = _
  rw [show decide ((([] : List (Int × Str)).length : Int) > 0) = false from rfl, cond_false, sel_eq S hr, Option.bind_some, s.half, s.tells]
  show ((f27_F ((S, (([] : List (Int × Str)), ())), ((h : Int), ()))).bind _) = _
  rw [half_eq S [] h hle h1 h2, Option.bind_some]
  show ((f28_F (logH S h, ((u : Int), ()))).bind _) = _
  rw [text_ok (uni_of hr h) (by omega) hu, Option.bind_some]
  obtain ⟨rs, hrs, hA⟩ := s.held
  have htl := text_len hr hle u
  show ((f29_F (textH S h u, ())).bind _) = _
  rw [entries_eq _ (by omega), hrs, Option.bind_some]
  obtain ⟨hp, hlen⟩ := rows_ok hrs
  show ((f13_p3_F (f13_p3_y rs true 0 0 0 S [] (h : Int) (t : Int) (u : Int))).bind _) = _
  rw [f13_p3_eq, show ((t : Int) == 0) = false from by rw [beq_eq_false_iff_ne]; have := s.pos; omega, cond_false, Option.bind_some]
  show ((go f13_p1_st (f13_p1_y rs rs.length 0 0 0 0 S [] (h : Int) (t : Int) (u : Int) [])).bind _) = _
  have hgo : go f13_p1_st (f13_p1_y rs rs.length 0 0 0 0 S [] (h : Int) (t : Int) (u : Int) []) = some (f13_p1_o0_y 0 0 0 S [] (h : Int) (t : Int) (u : Int) (E (overR [] rs))) := by
    refine go_le (m := rs.length + 1) (fun n hn => ?_) (by rw [fuel_def]; omega)
    exact rows_loop rs (by omega) hp 0 0 0 S [] h t u rs.length 0 (by omega) n hn [] (by simp; omega)
  rw [hgo, Option.bind_some]
  show ((h32_F (h32_y (E (overR [] rs)))).bind _) = _
  rw [h32_eq, Option.bind_some]
  have his : Is A (overR [] rs) := by rw [hA]; exact is_rows rs Is.nil
  have hsz := s.sizes
  have hk : sortedKeys (mpairs .str .str false (E (overR [] rs))) = A.map (·.1) := by rw [mpairs_E]; exact his.keys
  show ((go f13_p0_st (f13_p0_y ((sortedKeys (mpairs .str .str false (E (overR [] rs)))).length : Int) 0 0 0 0 S [] (h : Int) (t : Int) (u : Int) (E (overR [] rs)) (sortedKeys (mpairs .str .str false (E (overR [] rs)))) [] [])).bind _) = _
  rw [hk, List.length_map]
  have hgo2 : go f13_p0_st (f13_p0_y A.length 0 0 0 0 S [] (h : Int) (t : Int) (u : Int) (E (overR [] rs)) (A.map (·.1)) [] []) = some (f13_p0_o0_y 0 0 0 S [] (h : Int) (t : Int) (u : Int) (A.map (·.1)) (A.map (·.2))) := by
    refine go_le (m := A.length + 1) (fun n hn => ?_) (by rw [fuel_def]; omega)
    exact keys_loop A _ his (by omega) 0 0 0 S [] h t u A.length 0 (by omega) n hn
  rw [hgo2]; rfl
theorem right_eq {S A h t u} (s : Store S A h t u) : f17_F (kvOf S A h t u, ()) = some (true, ()) := by
  have hsz := s.sizes
  rw [f17_eq, open_eq s, Option.bind_some]
  dsimp only
  rw [show (((0 : Int)) == 0) = true from rfl, cond_true, show ((h : Int) == (h : Int)) = true from by simp, cond_true, show ((t : Int) == (t : Int)) = true from by simp, cond_true, show ((u : Int) == (u : Int)) = true from by simp, cond_true, equal_self _ (by simp; omega), Option.bind_some]
  dsimp only
  rw [cond_true, equal_self _ (by simp; omega)]; rfl
theorem get_hit {S A h t u} (s : Store S A h t u) {i : Nat} (hi : i < A.length) : f14_F (kvOf S A h t u, (A[i].1, ())) = some (A[i].2, ((0 : Int), ())) := by
  have hsz := s.sizes
  rw [f14_eq, right_eq s, Option.bind_some, show (!((true, ()) : Bool × Unit).1) = false from rfl, cond_false]
  rw [search_hit (by omega) hsz.2.2 hi, Option.bind_some]
  show ((nth (A.map (·.2)) (i : Int)).bind _) = _
  rw [nth_lt (by simpa using hi), Option.bind_some, List.getElem_map]
end Go.Pe.Try
end
section
namespace Go.Pe.Try
open Go.Proofs Go.RowKit Go.Pe.Kv Go.Pe.X17
set_option maxRecDepth 100000
set_option linter.unusedSimpArgs false
set_option linter.unusedVariables false
abbrev PWr := Int × List UInt8
def hdH (S : List Str) (k : Nat) : Str := S.getD (atH S k) []
theorem tell_eq (S : List Str) (k : Nat) : tell S k = tl (hdH S k) (logH S k).length := rfl
theorem atH_set (S : List Str) (i : Nat) (x : Str) (k : Nat) : atH (S.set i x) k = atH S k := by simp [atH]
theorem logH_set (S : List Str) (i : Nat) (x : Str) (k : Nat) : logH (S.set i x) k = if i < atH S k + 1 then logH S k else (logH S k).set (i - (atH S k + 1)) x := by
  unfold logH atH
  rw [List.length_set, List.take_set, List.drop_set]
theorem hdH_set (S : List Str) (i : Nat) (x : Str) (k : Nat) (hk : k ≤ 1) (h1 : 4 ≤ S.length) : hdH (S.set i x) k = if i = atH S k then x else hdH S k := by
  have := atH_lt S k hk h1
  unfold hdH
  rw [atH_set, List.getD_eq_getElem?_getD, List.getD_eq_getElem?_getD, List.getElem?_set]
  split
  · rename_i e
    rw [if_pos (by omega)]; rfl
  · rfl
theorem set_past {α : Type} (l : List α) (i : Nat) (x : α) (h : l.length ≤ i) : l.set i x = l := List.set_eq_of_length_le h
structure View (S S' : List Str) (h : Nat) (L : List Str) : Prop where
  len : S'.length = S.length
  log : logH S' h = L
  oth : logH S' (1 - h) = logH S (1 - h)
  hd0 : hdH S' 0 = hdH S 0
  hd1 : hdH S' 1 = hdH S 1
theorem View.refl (S : List Str) (h : Nat) : View S S h (logH S h) := ⟨rfl, rfl, rfl, rfl, rfl⟩
theorem View.set {S S' : List Str} {h : Nat} {L : List Str} (v : View S S' h L) (hh : h ≤ 1) (h1 : 4 ≤ S.length) (hL : L.length = S.length / 2 - 1) {j : Nat} (hj : j < L.length) (x : Str) : View S (S'.set (atH S h + 1 + j) x) h (L.set j x) := by
  have ea : ∀ k, atH S' k = atH S k := fun k => by simp [atH, v.len]
  have h1' : 4 ≤ S'.length := by rw [v.len]; exact h1
  have a0 : atH S 0 = 0 := by simp [atH]
  have a1 : atH S 1 = S.length / 2 := by simp [atH]
  refine ⟨by simp [v.len], ?_, ?_, ?_, ?_⟩
  · rw [logH_set, ea, if_neg (by omega), v.log]
    congr 1; omega
  · rw [logH_set, ea, v.oth]
    have hl := logH_len S (1 - h) (by omega) h1
    have : h = 0 ∨ h = 1 := by omega
    rcases this with rfl | rfl
    · simp only [Nat.sub_zero, a0, a1] at *
      rw [if_pos (by omega)]
    · simp only [Nat.sub_self, a0, a1] at *
      rw [if_neg (by omega)]
      exact set_past _ _ _ (by omega)
  · rw [hdH_set _ _ _ _ (by omega) h1', ea, a0, if_neg (by omega), v.hd0]
  · rw [hdH_set _ _ _ _ (by omega) h1', ea, a1, v.hd1]
    have : h = 0 ∨ h = 1 := by omega
    rcases this with rfl | rfl
    · rw [if_neg (by rw [a0]; omega)]
    · rw [if_neg (by rw [a1]; omega)]
def placed (at_ : Nat) (l : List PWr) : List PWr := l.map fun w => (w.1 + ((at_ : Int) + 1), w.2)
def Ws (n : Nat) (l : List PWr) : Prop := ∀ w ∈ l, ∃ j : Nat, j < n ∧ w.1 = (j : Int) ∧ w.2.length = 128
theorem placed_view {S : List Str} {h : Nat} (hh : h ≤ 1) (h1 : 4 ≤ S.length) : ∀ (l : List PWr), Ws (logH S h).length l → ∀ {S' : List Str} {L : List Str}, View S S' h L → L.length = (logH S h).length →
    View S ((placed (atH S h) l).foldl X17.put S') h (X18.put L l)
  | [], _, _, _, v, _ => v
  | w :: l, hw, S', L, v, hL => by
    obtain ⟨j, hj, e, hl⟩ := hw w (by simp)
    have hLn := logH_len S h hh h1
    have v2 := v.set hh h1 (by omega) (j := j) (by omega) w.2
    have e2 : X17.put S' (w.1 + ((atH S h : Int) + 1), w.2) = S'.set (atH S h + 1 + j) w.2 := by
      unfold X17.put
      congr 1
      simp only [e]; omega
    have e3 : L.set w.1.toNat w.2 = L.set j w.2 := by rw [e]; rfl
    show View S ((placed (atH S h) l).foldl X17.put (X17.put S' (w.1 + ((atH S h : Int) + 1), w.2))) h (X18.put (L.set w.1.toNat w.2) l)
    rw [e2, e3]
    exact placed_view hh h1 l (fun x hx => hw x (by simp [hx])) v2 (by simp [hL])
theorem placed_wr {S : List Str} {h : Nat} (hh : h ≤ 1) (h1 : 4 ≤ S.length) {l : List PWr} (hw : Ws (logH S h).length l) : ∀ w ∈ placed (atH S h) l, 0 ≤ w.1 ∧ w.1 < (S.length : Int) ∧ w.2.length = 128 := by
  intro w hm
  obtain ⟨x, hx, rfl⟩ := List.mem_map.1 hm
  obtain ⟨j, hj, e, hl⟩ := hw x hx
  have hLn := logH_len S h hh h1
  have : h = 0 ∨ h = 1 := by omega
  refine ⟨by simp only; omega, ?_, hl⟩
  simp only [e]
  rcases this with rfl | rfl <;> simp only [atH] <;> omega
theorem head_view {S : List Str} {h : Nat} (hh : h ≤ 1) (h1 : 4 ≤ S.length) (x : Str) : (S.set (atH S h) x).length = S.length ∧ (∀ k, k ≤ 1 → logH (S.set (atH S h) x) k = logH S k) ∧ hdH (S.set (atH S h) x) h = x ∧ hdH (S.set (atH S h) x) (1 - h) = hdH S (1 - h) := by
  have a0 : atH S 0 = 0 := by simp [atH]
  have a1 : atH S 1 = S.length / 2 := by simp [atH]
  refine ⟨by simp, fun k hk => ?_, ?_, ?_⟩
  · rw [logH_set]
    have hl := logH_len S k hk h1
    have g1 : h = 0 ∨ h = 1 := by omega
    have g2 : k = 0 ∨ k = 1 := by omega
    split
    · rfl
    · rename_i g3
      refine set_past _ _ _ ?_
      rcases g1 with rfl | rfl <;> rcases g2 with rfl | rfl <;> simp only [a0, a1] at * <;> omega
  · rw [hdH_set _ _ _ _ hh h1, if_pos rfl]
  · rw [hdH_set _ _ _ _ (by omega) h1, if_neg]
    have : h = 0 ∨ h = 1 := by omega
    rcases this with rfl | rfl
    · simp only [Nat.sub_zero, a0, a1]; omega
    · simp only [Nat.sub_self, a0, a1]; omega
theorem be4_num (s : List UInt8) (h : s.length = 4) : be4 (num s) = s := by
  match s, h with
  | [a, b, c, d], _ =>
    have ha := a.toNat_lt; have hb := b.toNat_lt; have hc := c.toNat_lt; have hd := d.toNat_lt
    simp only [num, be4, List.foldl_cons, List.foldl_nil, List.cons.injEq, and_true]
    refine ⟨?_, ?_, ?_, ?_⟩ <;> apply UInt8.toNat_inj.1 <;> rw [UInt8.toNat_ofNat'] <;> omega
theorem parse_inv : ∀ (k : Nat) (s : Str) (r : List Str), parse k s = some r → s = r.flatMap frame
  | 0, s, r, h => by
    simp only [parse] at h
    split at h
    · rename_i h0; cases h; simpa using h0
    · cases h
  | k + 1, s, r, h => by
    simp only [parse] at h
    split at h
    · rename_i h0; cases h; simpa using h0
    split at h
    · cases h
    split at h
    · cases h
    rename_i h1 h2 h3
    obtain ⟨r', hr, rfl⟩ := Option.map_eq_some_iff.1 h
    have ih := parse_inv k _ r' hr
    rw [List.flatMap_cons, ← ih, frame]
    have hlen : ((s.drop 4).take (num (s.take 4))).length = num (s.take 4) := by rw [List.length_take]; omega
    rw [hlen, be4_num _ (by rw [List.length_take]; omega), List.append_assoc, List.take_append_drop, List.take_append_drop]
theorem parse_of (l : List Str) (h : ∀ s ∈ l, s.length ≤ 4096) : parse (l.flatMap frame).length (l.flatMap frame) = some l := parse_frames l _ h (Nat.le_refl _)
theorem ents_app : ∀ (a b : List Str) {x y : List (List Str)}, ents a = some x → ents b = some y → ents (a ++ b) = some (x ++ y)
  | [], b, x, y, h1, h2 => by simp only [ents, Option.some.injEq] at h1; subst h1; simpa using h2
  | e :: a, b, x, y, h1, h2 => by
    simp only [ents] at h1
    cases hp : parts e.length 64 e with
    | none => rw [hp] at h1; cases h1
    | some p =>
      rw [hp] at h1
      dsimp only at h1
      split at h1
      · rename_i hk
        obtain ⟨r', hr, rfl⟩ := Option.map_eq_some_iff.1 h1
        have := ents_app a b hr h2
        simp only [List.cons_append, ents, hp, hk, if_true, this, Option.map_some]
      · cases h1
theorem ents_pack {l : List Str} (hp : pairsB l = true) : ents [pack l] = some [l] := by
  obtain ⟨_, h2, h3, h4⟩ := pairs_spec hp
  have hm := okP_mem h4 h2
  simp only [ents, parts_pack l _ 64 (fun s hs => by have := hm s hs; omega) h3 (Nat.le_refl _), hp, if_true, Option.map_some]
theorem rows_app {t : Str} {rs : List (List Str)} (h : rows t = some rs) {l : List Str} (hp : pairsB l = true) (hl : (pack l).length ≤ 4096) : rows (t ++ frame (pack l)) = some (rs ++ [l]) := by
  unfold rows at h ⊢
  obtain ⟨es, he, h⟩ := Option.bind_eq_some_iff.1 h
  have hinv := parse_inv _ _ _ he
  have hs := (parse_small _ _ _ he).1
  have e : t ++ frame (pack l) = (es ++ [pack l]).flatMap frame := by rw [List.flatMap_append, ← hinv]; simp
  rw [e, parse_of _ (fun s hs' => by
    rcases List.mem_append.1 hs' with h5 | h5
    · exact hs s h5
    · simp only [List.mem_singleton] at h5; rw [h5]; exact hl)]
  exact ents_app _ _ h (ents_pack hp)
theorem allR_app (A : List PR) (a b : List (List Str)) : allR A (a ++ b) = allR (allR A a) b := by simp [allR]
def Good (A : List PR) : Prop := ∀ x ∈ A, okOne x.1 x.2 = true ∧ x.2 ≠ []
theorem over_good {A : List PR} (h : Good A) {a b : Str} (ho : okOne a b = true) : Good (Kv.over A a b) := by
  rintro ⟨k, v⟩ hx
  rcases (over_mem A a b k v).1 hx with ⟨_, hx⟩ | ⟨hb, rfl, rfl⟩
  · exact h _ hx
  · exact ⟨ho, hb⟩
theorem all_good : ∀ {l : List Str} {A : List PR}, okP l = true → Good A → Good (Kv.all A l)
  | [], _, _, h => h
  | [_], _, _, h => h
  | a :: b :: r, A, ho, h => by
    simp only [okP, Bool.and_eq_true] at ho
    exact all_good (l := r) ho.2 (over_good h ho.1)
theorem allR_good : ∀ {rs : List (List Str)} {A : List PR}, (∀ r ∈ rs, pairsB r = true) → Good A → Good (allR A rs)
  | [], _, _, h => h
  | r :: rs, A, hr, h => allR_good (rs := rs) (fun x hx => hr x (by simp [hx])) (all_good (pairs_spec (hr r (by simp))).2.2.2 h)
theorem Store.good {S A h t u} (s : Store S A h t u) : Good A := by
  obtain ⟨rs, hr, rfl⟩ := s.held
  exact allR_good (rows_ok hr).1 (fun x hx => by cases hx)
theorem rebuild_mem : ∀ (A B : List PR), Sorted A → (∀ x ∈ A, x.2 ≠ []) → ∀ k v, (k, v) ∈ allR B (A.map fun x => [x.1, x.2]) ↔ (k, v) ∈ A ∨ ((k, v) ∈ B ∧ k ∉ A.map (·.1))
  | [], B, _, _, k, v => by simp [allR]
  | x :: A, B, h, hv, k, v => by
    obtain ⟨a, b⟩ := x
    have hx := (List.pairwise_cons.1 h).1
    have ih := rebuild_mem A (Kv.over B a b) (List.pairwise_cons.1 h).2 (fun y hy => hv y (by simp [hy])) k v
    have hb : b ≠ [] := hv (a, b) (by simp)
    have hna : ∀ v, (a, v) ∉ A := fun v hm => lt_irr a (hx _ hm)
    have hnk : a ∉ A.map (·.1) := fun hm => by
      obtain ⟨⟨a', v'⟩, h1, h2⟩ := List.mem_map.1 hm
      simp only at h2; subst h2; exact hna _ h1
    show (k, v) ∈ allR (Kv.over B a b) (A.map fun x => [x.1, x.2]) ↔ _
    rw [ih, over_mem]
    simp only [List.mem_cons, Prod.mk.injEq, List.map_cons]
    by_cases hk : k = a
    · subst hk
      simp [hna, hnk, hb]
    · simp [hk]
theorem rebuild {A : List PR} (h : Sorted A) (hv : ∀ x ∈ A, x.2 ≠ []) : allR [] (A.map fun x => [x.1, x.2]) = A := by
  refine sorted_ext ?_ h fun k v => ?_
  · exact (is_rows _ Is.nil).so
  · rw [rebuild_mem A [] h hv]; simp
def wholeA (A : List PR) : Str := (A.map fun x => pack [x.1, x.2]).flatMap frame
theorem pack2_len (x : PR) : (pack [x.1, x.2]).length = 8 + x.1.length + x.2.length := by
  simp only [pack, List.flatMap_cons, List.flatMap_nil, List.append_nil, List.length_append, frame_len]; omega
theorem pack2_small {A : List PR} (h : Good A) {x : PR} (hx : x ∈ A) : (pack [x.1, x.2]).length ≤ 4096 := by
  have := (h x hx).1
  simp only [okOne, decide_eq_true_eq] at this
  rw [pack2_len]; omega
theorem pairs2 {A : List PR} (h : Good A) {x : PR} (hx : x ∈ A) : pairsB [x.1, x.2] = true := by
  simp [pairsB, okP, (h x hx).1]
theorem ents_whole : ∀ {A : List PR}, Good A → ents (A.map fun x => pack [x.1, x.2]) = some (A.map fun x => [x.1, x.2])
  | [], _ => rfl
  | x :: A, h => by
    have h1 := ents_pack (pairs2 h (x := x) (by simp))
    have h2 := ents_whole (A := A) fun y hy => h y (by simp [hy])
    exact ents_app [pack [x.1, x.2]] _ h1 h2
theorem rows_whole {A : List PR} (h : Good A) : rows (wholeA A) = some (A.map fun x => [x.1, x.2]) := by
  unfold rows wholeA
  rw [parse_of _ (fun s hs => by obtain ⟨x, hx, rfl⟩ := List.mem_map.1 hs; exact pack2_small h hx)]
  exact ents_whole h
end Go.Pe.Try
end
section
namespace Go.Pe.Try
open Go.Proofs Go.RowKit Go.Pe.Kv Go.Pe.X17
set_option maxRecDepth 100000
set_option linter.unusedSimpArgs false
set_option linter.unusedVariables false
def pA (A : List PR) : List PR := A.foldl (fun M x => mapPut eqS x.1 x.2 M) []
theorem pA_rows : ∀ (A M : List PR), (∀ x ∈ A, x.2 ≠ []) → A.foldl (fun M x => mapPut eqS x.1 x.2 M) M = overR M (A.map fun x => [x.1, x.2])
  | [], _, _ => rfl
  | x :: A, M, h => by
    have := pA_rows A (mapPut eqS x.1 x.2 M) fun y hy => h y (by simp [hy])
    rw [List.foldl_cons, this]
    show _ = overR (Kv.step M x.1 x.2) (A.map fun x => [x.1, x.2])
    rw [Kv.step, if_neg (h x (by simp))]
theorem pA_is {A : List PR} (h : Sorted A) (hv : ∀ x ∈ A, x.2 ≠ []) : Is A (pA A) := by
  unfold pA
  rw [pA_rows A [] hv]
  have := is_rows (A.map fun x => [x.1, x.2]) Is.nil
  rwa [rebuild h hv] at this
theorem pA_take (A : List PR) (i : Nat) (h : i < A.length) : pA (A.take (i + 1)) = mapPut eqS A[i].1 A[i].2 (pA (A.take i)) := by
  unfold pA
  rw [List.take_succ_eq_append_getElem h, List.foldl_append]; rfl
theorem put_len1 (M : List PR) (a b : Str) : (mapPut eqS a b M).length ≤ M.length + 1 := by
  have := congrArg List.length (put_keys a b M)
  rw [List.length_map] at this
  rw [this]; split <;> simp
theorem pA_len (A : List PR) : ∀ i, i ≤ A.length → (pA (A.take i)).length ≤ i
  | 0, _ => by simp [pA]
  | i + 1, h => by
    rw [pA_take A i (by omega)]
    have := pA_len A i (by omega)
    have h2 := put_len1 (pA (A.take i)) (A[i]'(by omega)).1 (A[i]'(by omega)).2
    omega
theorem fill_loop (l : List Str) (A : List PR) (hA : A.length ≤ 256000) (hs : ∀ x ∈ A, x.1.length ≤ 3000) (S : List Str) (D : List PWr) (h t u : Int) : ∀ (d i : Nat), i + d = A.length → ∀ n, d + 1 ≤ n →
    iter f46_p1_st n (f46_p1_y l (A.map (·.1)) A.length i S D (A.map (·.1)) (A.map (·.2)) h t u (E (pA (A.take i)))) = some (f46_p1_o0_y l (E (pA A))) := by
  intro d
  induction d with
  | zero =>
    intro i hi n hn
    obtain ⟨n, rfl⟩ : ∃ k, n = k + 1 := ⟨n - 1, by omega⟩
    rw [iter, f46_p1_eq, show decide ((i : Int) < (A.length : Int)) = false from by simp; omega, cond_false, List.take_of_length_le (by omega)]
  | succ d ih =>
    intro i hi n hn
    obtain ⟨n, rfl⟩ : ∃ k, n = k + 1 := ⟨n - 1, by omega⟩
    have hil : i < A.length := by omega
    have hk := hs _ (List.getElem_mem hil)
    have hpl := pA_len A i (by omega)
    rw [iter, f46_p1_eq, show decide ((i : Int) < (A.length : Int)) = true from by simp; omega, cond_true, nth_lt (by simpa using hil), nth_lt (by simpa using hil), Option.bind_some, Option.bind_some, mpairs_E, appOk_lt (by omega)]
    simp only [List.getElem_map]
    show lenOk A[i].1.length _ = _
    rw [lenOk, if_pos (by omega), mput_E, ← pA_take A i hil, show IntKind.i64.wrap ((i : Int) + (1 : Int)) = ((i + 1 : Nat) : Int) from wrap_add i 1 (by omega) (by omega), ih (i + 1) (by omega) n (by omega)]
theorem wholeA_take (A : List PR) (i : Nat) (h : i < A.length) : wholeA (A.take (i + 1)) = wholeA (A.take i) ++ frame (pack [A[i].1, A[i].2]) := by
  unfold wholeA
  rw [List.take_succ_eq_append_getElem h, List.map_append, List.flatMap_append]; simp
theorem wholeA_len {A : List PR} (h : Good A) : ∀ i, i ≤ A.length → (wholeA (A.take i)).length ≤ 4100 * i
  | 0, _ => by simp [wholeA]
  | i + 1, hi => by
    rw [wholeA_take A i (by omega), List.length_append, frame_len]
    have h1 := wholeA_len h i (by omega)
    have h2 := pack2_small h (List.getElem_mem (l := A) (n := i) (by omega))
    omega
theorem build_loop (A M : List PR) (his : Is A M) (hg : Good A) (hA : A.length ≤ 300000) : ∀ (d i : Nat), i + d = A.length → ∀ n, d + 1 ≤ n →
    iter f46_p0_st n (f46_p0_y A.length i (E M) (A.map (·.1)) (bytesOf (wholeA (A.take i)))) = some (f46_p0_o0_y (bytesOf (wholeA A))) := by
  intro d
  induction d with
  | zero =>
    intro i hi n hn
    obtain ⟨n, rfl⟩ : ∃ k, n = k + 1 := ⟨n - 1, by omega⟩
    rw [iter, f46_p0_eq, show decide ((i : Int) < (A.length : Int)) = false from by simp; omega, cond_false, List.take_of_length_le (by omega)]
  | succ d ih =>
    intro i hi n hn
    obtain ⟨n, rfl⟩ : ∃ k, n = k + 1 := ⟨n - 1, by omega⟩
    have hil : i < A.length := by omega
    have hil2 : i < (A.map (·.1)).length := by simpa using hil
    have hm := List.getElem_mem hil
    have hsm := pack2_small hg hm
    have hv := his.val hm
    have hwl := wholeA_len hg i (by omega)
    rw [iter, f46_p0_eq, show decide ((i : Int) < (A.length : Int)) = true from by simp; omega, cond_true, within_lt hil2, Int.toNat_natCast, List.getElem?_eq_getElem hil2, Option.bind_some, List.getElem_map, mget_E, hv]
    have hsz : ∀ s ∈ [A[i].1, (some A[i].2).getD []], s.length < 4611686018427387904 := by
      have := pack2_len A[i]
      intro s hs
      simp only [List.mem_cons, List.not_mem_nil, or_false] at hs
      rcases hs with rfl | rfl
      · omega
      · show A[i].2.length < _; omega
    rw [pack_eq _ (by simp) hsz, if_pos (by show (pack [A[i].1, A[i].2]).length ≤ _; omega), Option.bind_some]
    show ((f43_F (pack [A[i].1, A[i].2], ())).bind _) = _
    rw [frame_eq _ hsm, Option.bind_some]
    show ((h37a_F (h37a_y (frame (pack [A[i].1, A[i].2])) (bytesOf (wholeA (A.take i))))).bind _) = _
    rw [write_eq _ _ (by rw [bytes_len, frame_len]; omega), Option.bind_some]
    rw [show ∀ (a : Int) (b : List Int), h37a_o_l0 (h37a_o_y a b) = b from fun _ _ => rfl, ← bytes_app, ← wholeA_take A i hil, show IntKind.i64.wrap ((i : Int) + (1 : Int)) = ((i + 1 : Nat) : Int) from wrap_add i 1 (by omega) (by omega), ih (i + 1) (by omega) n (by omega)]
theorem whole_eq {S A h t u} (s : Store S A h t u) {l : List Str} (hp : pairsB l = true) : f46_F (kvOf S A h t u, (l, ())) = some (wholeA (Kv.all A l), ()) := by
  obtain ⟨z1, z2, z3⟩ := s.sizes
  have hg := s.good
  obtain ⟨_, p2, p3, p4⟩ := pairs_spec hp
  have hm := okP_mem p4 p2
  rw [f46_eq]
  have hgo : go f46_p1_st (f46_p1_y l (A.map (·.1)) (A.map (·.1)).length 0 S [] (A.map (·.1)) (A.map (·.2)) h t u []) = some (f46_p1_o0_y l (E (pA A))) := by
    refine go_le (m := A.length + 1) (fun n hn => ?_) (by rw [fuel_def]; omega)
    rw [List.length_map]
    exact fill_loop l A z1 (fun x hx => (z2 x hx).1) S [] h t u A.length 0 (by omega) n hn
  rw [hgo, Option.bind_some]
  show ((h30_F (h30_y l (E (pA A)))).bind _) = _
  have hpl := pA_len A A.length (Nat.le_refl _)
  rw [List.take_length] at hpl
  rw [over_eq l (by omega) p2 (fun s hs => by have := hm s hs; omega) _ (by omega), Option.bind_some]
  show ((h32_F (h32_y (E (overM (pA A) l)))).bind _) = _
  rw [h32_eq, Option.bind_some]
  have his : Is (Kv.all A l) (overM (pA A) l) := (pA_is z3 fun x hx => (hg x hx).2).all l
  have hgood := all_good (l := l) p4 hg
  have hal := all_len l A
  have hk : sortedKeys (mpairs .str .str false (E (overM (pA A) l))) = (Kv.all A l).map (·.1) := by rw [mpairs_E]; exact his.keys
  show ((go f46_p0_st (f46_p0_y ((sortedKeys (mpairs .str .str false (E (overM (pA A) l)))).length : Int) 0 (E (overM (pA A) l)) (sortedKeys (mpairs .str .str false (E (overM (pA A) l)))) [])).bind _) = _
  rw [hk, List.length_map]
  have hgo2 : go f46_p0_st (f46_p0_y (Kv.all A l).length 0 (E (overM (pA A) l)) ((Kv.all A l).map (·.1)) []) = some (f46_p0_o0_y (bytesOf (wholeA (Kv.all A l)))) := by
    refine go_le (m := (Kv.all A l).length + 1) (fun n hn => ?_) (by rw [fuel_def]; omega)
    exact build_loop _ _ his hgood (by omega) _ 0 (by omega) n hn
  rw [hgo2, Option.bind_some]
  have hwl := wholeA_len hgood (Kv.all A l).length (Nat.le_refl _)
  rw [List.take_length] at hwl
  show ((h39_F (h39_y (bytesOf (wholeA (Kv.all A l))))).bind _) = _
  rw [string_eq _ (by omega)]; rfl
theorem lay_full {s : List Str} (hu : X18.Uni s) (hl : s.length ≤ 64) {used : Nat} (h : used ≤ 128 * s.length) {data : Str} (hd : 128 * s.length < used + data.length) : f44_F (s, ((used : Int), (data, ()))) = some ([], (40, ())) := by
  rw [f44_eq, may_eq s used (by omega), Option.bind_some, decide_eq_true (may_of hu hl h)]
  have w1 : IntKind.i64.wrap ((s.length : Int) * 128) = 128 * (s.length : Int) := by rw [wrap64 (by omega) (by omega)]; omega
  have w2 : IntKind.i64.wrap (128 * (s.length : Int) - (used : Int)) = 128 * (s.length : Int) - (used : Int) := wrap64 (by omega) (by omega)
  rw [show (!((true, ()) : Bool × Unit).1) = false from rfl, cond_false, w1, w2, show decide ((data.length : Int) > 128 * (s.length : Int) - (used : Int)) = true from by simp only [decide_eq_true_eq]; omega, cond_true]
theorem place_loop (at_ : Nat) (ha : at_ ≤ 64) (L : List PWr) (hL : L.length ≤ 1000) (hw : ∀ w ∈ L, 0 ≤ w.1 ∧ w.1 ≤ 100000) : ∀ (d i : Nat), i + d = L.length → ∀ n, d + 1 ≤ n →
    iter f45_p0_st n (f45_p0_y at_ L.length i (placed at_ (L.take i) ++ L.drop i)) = some (f45_p0_o0_y (placed at_ L)) := by
  intro d
  induction d with
  | zero =>
    intro i hi n hn
    obtain ⟨n, rfl⟩ : ∃ k, n = k + 1 := ⟨n - 1, by omega⟩
    rw [iter, f45_p0_eq, show decide ((i : Int) < (L.length : Int)) = false from by simp; omega, cond_false, List.drop_eq_nil_of_le (by omega), List.take_of_length_le (by omega), List.append_nil]
  | succ d ih =>
    intro i hi n hn
    obtain ⟨n, rfl⟩ : ∃ k, n = k + 1 := ⟨n - 1, by omega⟩
    have hil : i < L.length := by omega
    have hlen : (placed at_ (L.take i) ++ L.drop i).length = L.length := by simp [placed]; omega
    have hg : (placed at_ (L.take i) ++ L.drop i)[i]? = some L[i] := by
      rw [List.getElem?_append_right (by simp [placed]; omega), List.getElem?_drop]
      simp only [placed, List.length_map, List.length_take]
      rw [show i + (i - min i L.length) = i by omega, List.getElem?_eq_getElem hil]
    obtain ⟨w0, w1⟩ := hw _ (List.getElem_mem hil)
    rw [iter, f45_p0_eq, show decide ((i : Int) < (L.length : Int)) = true from by simp; omega, cond_true, hlen, within_lt hil, Int.toNat_natCast, hg, Option.bind_some, within_lt hil, Option.bind_some]
    rw [show IntKind.i64.wrap ((i : Int) + (1 : Int)) = ((i + 1 : Nat) : Int) from wrap_add i 1 (by omega) (by omega), wrap64 (x := (at_ : Int) + 1) (by omega) (by omega), wrap64 (by omega) (by omega)]
    have hset : (placed at_ (L.take i) ++ L.drop i).set i (L[i].1 + ((at_ : Int) + 1), L[i].2) = placed at_ (L.take (i + 1)) ++ L.drop (i + 1) := by
      rw [List.set_append_right _ _ (by simp [placed]; omega)]
      simp only [placed, List.length_map, List.length_take]
      rw [show i - min i L.length = 0 by omega, List.drop_eq_getElem_cons hil, List.set_cons_zero, List.take_succ_eq_append_getElem hil, List.map_append]
      simp
    rw [hset, ih (i + 1) (by omega) n (by omega)]
theorem place_eq (at_ : Nat) (ha : at_ ≤ 64) (L : List PWr) (hL : L.length ≤ 1000) (hw : ∀ w ∈ L, 0 ≤ w.1 ∧ w.1 ≤ 100000) : f45_F (L, ((at_ : Int), ())) = some (placed at_ L, ()) := by
  rw [f45_eq, clone_w L hL, Option.bind_some]
  show ((go f45_p0_st (f45_p0_y at_ L.length 0 L)).bind _) = _
  have : go f45_p0_st (f45_p0_y at_ L.length 0 L) = some (f45_p0_o0_y (placed at_ L)) := by
    refine go_le (m := L.length + 1) (fun n hn => ?_) (by rw [fuel_def]; omega)
    exact place_loop at_ ha L hL hw L.length 0 (by omega) n hn
  rw [this]; rfl
theorem of_ws {all : Str} {n : Nat} (hall : 128 * n ≤ all.length) {l : List PWr} (h : X18.Of all n l) : Ws n l := fun w hw => by
  obtain ⟨j, hj, rfl⟩ := h w hw
  exact ⟨j, hj, rfl, X18.chunk_len all j (by omega)⟩
theorem ws_range {n : Nat} (hn : n ≤ 64) {l : List PWr} (h : Ws n l) : ∀ w ∈ l, 0 ≤ w.1 ∧ w.1 ≤ 100000 := fun w hw => by
  obtain ⟨j, hj, e, _⟩ := h w hw
  omega
theorem lays_few (s : List Str) (used : Nat) (data : Str) (h : used + data.length ≤ 128 * s.length) (hl : s.length ≤ 64) : (X18.lays s used data).length ≤ 64 := by
  unfold X18.lays
  rw [X18.writes_len]
  unfold X18.many
  split <;> omega
structure Plan (S : List Str) (A : List PR) (h t u : Nat) (l : List Str) (h' t' u' : Nat) (W : List PWr) : Prop where
  hh : h' ≤ 1
  ws : Ws (logH S h').length W
  few : W.length ≤ 64
  t1 : 1 ≤ t'
  t2 : t' ≤ 1099511627776
  u1 : u' ≤ 128 * (logH S h').length
  new : ∃ rs, rows ((X18.put (logH S h') W).flatten.take u') = some rs ∧ Kv.all A l = allR [] rs
  old : (h' = h ∧ t' = t ∧ ∀ l', (∀ w ∈ l', w ∈ W) → (X18.put (logH S h) l').flatten.take u = (logH S h).flatten.take u) ∨ (h' = 1 - h ∧ t' = t + 1)
abbrev stepsOf (S : List Str) (h' t' u' : Nat) (W : List PWr) : List (List PWr) := [placed (atH S h') W, [((atH S h' : Int), head t' u')]]
end Go.Pe.Try
end
section
namespace Go.Pe.Try
open Go.Proofs Go.RowKit Go.Pe.Kv Go.Pe.X17
set_option maxRecDepth 100000
set_option linter.unusedSimpArgs false
set_option linter.unusedVariables false
theorem bne0 : ((0 : Int) != 0) = false := rfl
theorem beq0 : ((0 : Int) == 0) = true := rfl
def fitsA (S : List Str) (h u : Nat) (l : List Str) : Prop := u + (4 + (pack l).length) ≤ 128 * (logH S h).length
def fitsB (S : List Str) (A : List PR) (h t : Nat) (l : List Str) : Prop := (wholeA (Kv.all A l)).length ≤ 128 * (logH S (1 - h)).length ∧ t + 1 < 1099511627776
theorem lens {S A h t u} (s : Store S A h t u) : (logH S h).length = S.length / 2 - 1 ∧ (logH S (1 - h)).length = S.length / 2 - 1 ∧ 4 ≤ S.length ∧ S.length ≤ 64 :=
  ⟨logH_len S h s.hle s.right.lo, logH_len S (1 - h) (by omega) s.right.lo, s.right.lo, s.right.hi⟩
theorem steps_bad {S A h t u} (s : Store S A h t u) {l : List Str} (hl : l.length ≤ 1000) (hp : pairsB l = false) : f18_F (kvOf S A h t u, (l, ())) = some ([], ((1 : Int), ())) := by
  rw [f18_eq, f18_p2_eq, right_eq s, Option.bind_some, show (!((true, ()) : Bool × Unit).1) = false from rfl, cond_false, pairs_eq l hl, hp]; rfl
theorem steps_front {S A h t u} (s : Store S A h t u) {l : List Str} (hp : pairsB l = true) : f18_p2_F (f18_p2_y l S [] (A.map (·.1)) (A.map (·.2)) h t u) = some (f18_p2_o0_y l false S [] (A.map (·.1)) (A.map (·.2)) h t u) := by
  obtain ⟨_, _, p3, _⟩ := pairs_spec hp
  rw [f18_p2_eq, right_eq s, Option.bind_some, show (!((true, ()) : Bool × Unit).1) = false from rfl, cond_false, pairs_eq l (by omega), hp]; rfl
theorem pack_pairs {l : List Str} (hp : pairsB l = true) : f42_F (l, ()) = some (if (pack l).length ≤ 65536 then (pack l, (0, ())) else ([], (2, ()))) := by
  obtain ⟨_, p2, p3, p4⟩ := pairs_spec hp
  have hm := okP_mem p4 p2
  exact pack_eq l p3 fun s hs => by have := hm s hs; omega
theorem steps_long {S A h t u} (s : Store S A h t u) {l : List Str} (hp : pairsB l = true) (hL : 4096 < (pack l).length) : f18_F (kvOf S A h t u, (l, ())) = some ([], ((2 : Int), ())) := by
  rw [f18_eq, steps_front s hp, Option.bind_some]
  show ((f42_F (l, ())).bind _) = _
  rw [pack_pairs hp, Option.bind_some]
  by_cases h6 : (pack l).length ≤ 65536
  · rw [if_pos h6]
    show ((f43_F (pack l, ())).bind _) = _
    rw [frame_long _ hL]; rfl
  · rw [if_neg h6]; rfl
theorem lay_res {S : List Str} (hr : Right S []) {k : Nat} (hk : k ≤ 1) {u : Nat} {data : Str} (h : u + data.length ≤ 128 * (logH S k).length) : X18.Of (X18.whole (logH S k) u data) (logH S k).length (X18.lays (logH S k) u data) ∧ Ws (logH S k).length (X18.lays (logH S k) u data) ∧ (X18.lays (logH S k) u data).length ≤ 64 ∧ f44_F (logH S k, ((u : Int), (data, ()))) = some (X18.lays (logH S k) u data, (0, ())) ∧ f45_F (X18.lays (logH S k) u data, ((atH S k : Int), ())) = some (placed (atH S k) (X18.lays (logH S k) u data), ()) := by
  have hL := logH_len S k hk hr.lo
  have h2 := hr.hi
  have hlo := hr.lo
  have hu := uni_of hr k
  have hof := X18.lay_of h
  have hws := of_ws (by rw [X18.whole_len hu h]; omega) hof
  have hfew := lays_few _ _ _ h (by omega)
  have hat := atH_lt S k hk hr.lo
  exact ⟨hof, hws, hfew, lay_ok hu (by omega) h, place_eq _ (by omega) _ (by omega) (ws_range (by omega) hws)⟩
theorem steps_A {S A h t u} (s : Store S A h t u) {l : List Str} (hp : pairsB l = true) (hL : (pack l).length ≤ 4096) (hf : fitsA S h u l) :
    ∃ W, Plan S A h t u l h t (u + (frame (pack l)).length) W ∧ f18_F (kvOf S A h t u, (l, ())) = some (stepsOf S h t (u + (frame (pack l)).length) W, ((0 : Int), ())) := by
  obtain ⟨l1, l2, l3, l4⟩ := lens s
  obtain ⟨hu, ht⟩ := s.used
  have hle := s.hle
  have hfl : (frame (pack l)).length = 4 + (pack l).length := frame_len _
  have hfit : u + (frame (pack l)).length ≤ 128 * (logH S h).length := by rw [hfl]; exact hf
  obtain ⟨r1, r2, r3, r4, r5⟩ := lay_res s.right hle hfit
  have huni := uni_of s.right h
  refine ⟨X18.lays (logH S h) u (frame (pack l)), ⟨hle, r2, r3, s.pos, ht, hfit, ?_, .inl ⟨rfl, rfl, fun l' hl' => X18.some_text huni hfit fun w hw => r1 w (hl' w hw)⟩⟩, ?_⟩
  · obtain ⟨rs, hrs, hA⟩ := s.held
    refine ⟨rs ++ [l], ?_, ?_⟩
    · rw [X18.lay_text huni hfit]
      exact rows_app hrs hp hL
    · rw [allR_app, ← hA]; rfl
  · rw [f18_eq, steps_front s hp]
    simp only [Option.bind_some, f18_p2_o0_x22_y, f18_p2_o0_x1_y, f18_p2_o0_r0_0_y, f18_p2_o0_r0_1_y, f18_p2_o0_r0_2_y, f18_p2_o0_r0_3_y, f18_p2_o0_r0_4_y, f18_p2_o0_r0_5_y, f18_p2_o0_r0_6_y, cond_false]
    rw [pack_pairs hp, if_pos (by omega), Option.bind_some]
    dsimp only
    rw [bne0, cond_false, frame_eq _ hL, Option.bind_some]
    dsimp only
    rw [bne0, cond_false, half_eq S [] h hle l3 l4, Option.bind_some]
    dsimp only
    rw [r4, Option.bind_some]
    dsimp only
    rw [beq0, cond_true, r5, Option.bind_some]
    dsimp only
    have hw : IntKind.i64.wrap ((u : Int) + ((frame (pack l)).length : Int)) = ((u + (frame (pack l)).length : Nat) : Int) := by rw [wrap64 (by omega) (by omega)]; rfl
    rw [hw, head_eq _ _ (by omega) (by omega), Option.bind_some]
theorem steps_other {S A h t u} (s : Store S A h t u) {l : List Str} (hp : pairsB l = true) (hL : (pack l).length ≤ 4096) (hf : ¬ fitsA S h u l) :
    f18_F (kvOf S A h t u, (l, ())) = (f18_p1_F (f18_p1_y l S [] (A.map (·.1)) (A.map (·.2)) h t u)).bind fun o168 => some ((f18_p1_o0_x4 o168), ((f18_p1_o0_x5 o168), ())) := by
  obtain ⟨l1, l2, l3, l4⟩ := lens s
  obtain ⟨hu, ht⟩ := s.used
  have hle := s.hle
  have hfl : (frame (pack l)).length = 4 + (pack l).length := frame_len _
  rw [f18_eq, steps_front s hp]
  simp only [Option.bind_some, f18_p2_o0_x22_y, f18_p2_o0_x1_y, f18_p2_o0_r0_0_y, f18_p2_o0_r0_1_y, f18_p2_o0_r0_2_y, f18_p2_o0_r0_3_y, f18_p2_o0_r0_4_y, f18_p2_o0_r0_5_y, f18_p2_o0_r0_6_y, cond_false]
  rw [pack_pairs hp, if_pos (by omega), Option.bind_some]
  dsimp only
  rw [bne0, cond_false, frame_eq _ hL, Option.bind_some]
  dsimp only
  rw [bne0, cond_false, half_eq S [] h hle l3 l4, Option.bind_some]
  dsimp only
  rw [lay_full (uni_of s.right h) (by omega) hu (by rw [hfl]; unfold fitsA at hf; omega), Option.bind_some]
  dsimp only
  rw [show ((40 : Int) == 0) = false from rfl, cond_false]
theorem half_int {h : Nat} (hh : h ≤ 1) : IntKind.i64.wrap ((1 : Int) - (h : Int)) = ((1 - h : Nat) : Int) := by rw [wrap64 (by omega) (by omega)]; omega
theorem steps_B {S A h t u} (s : Store S A h t u) {l : List Str} (hp : pairsB l = true) (hL : (pack l).length ≤ 4096) (hf : ¬ fitsA S h u l) (hb : fitsB S A h t l) :
    ∃ u' W, Plan S A h t u l (1 - h) (t + 1) u' W ∧ f18_F (kvOf S A h t u, (l, ())) = some (stepsOf S (1 - h) (t + 1) u' W, ((0 : Int), ())) := by
  obtain ⟨l1, l2, l3, l4⟩ := lens s
  obtain ⟨hu, ht⟩ := s.used
  have hle := s.hle
  obtain ⟨b1, b2⟩ := hb
  have hfit : 0 + (wholeA (Kv.all A l)).length ≤ 128 * (logH S (1 - h)).length := by omega
  obtain ⟨r1, r2, r3, r4, r5⟩ := lay_res s.right (by omega : 1 - h ≤ 1) hfit
  have huni := uni_of s.right (1 - h)
  obtain ⟨_, p2, p3, p4⟩ := pairs_spec hp
  have hgood := all_good (l := l) p4 s.good
  have hso : Sorted (Kv.all A l) := by
    have := (pA_is s.sizes.2.2 fun x hx => (s.good x hx).2).all l
    exact this.so
  refine ⟨(wholeA (Kv.all A l)).length, X18.lays (logH S (1 - h)) 0 (wholeA (Kv.all A l)), ⟨by omega, r2, r3, by omega, by omega, b1, ?_, .inr ⟨rfl, rfl⟩⟩, ?_⟩
  · refine ⟨_, ?_, (rebuild hso fun x hx => (hgood x hx).2).symm⟩
    have := X18.lay_text huni hfit
    rw [Nat.zero_add] at this
    rw [this, List.take_zero, List.nil_append]
    exact rows_whole hgood
  · rw [steps_other s hp hL hf, f18_p1_eq, half_int hle, half_eq S [] (1 - h) (by omega) l3 l4, Option.bind_some, whole_eq s hp, Option.bind_some]
    dsimp only
    have ht1 : IntKind.i64.wrap ((t : Int) + 1) = ((t + 1 : Nat) : Int) := by rw [wrap64 (by omega) (by omega)]; rfl
    have r4' : f44_F (logH S (1 - h), ((0 : Int), (wholeA (Kv.all A l), ()))) = some (X18.lays (logH S (1 - h)) 0 (wholeA (Kv.all A l)), (0, ())) := r4
    rw [r4', Option.bind_some]
    dsimp only
    rw [f18_p0_eq, bne0, cond_false, ht1, show decide (((t + 1 : Nat) : Int) ≥ (1099511627776 : Int)) = false from by simp only [decide_eq_false_iff_not]; omega]
    simp only [Option.bind_some, f18_p0_o0_x9_y, f18_p0_o0_x13_y, f18_p0_o0_x14_y, f18_p0_o0_x97_y, f18_p0_o0_r0_0_y, f18_p0_o0_r0_1_y, f18_p0_o0_r0_2_y, f18_p0_o0_r0_3_y, f18_p0_o0_r0_4_y, f18_p0_o0_r0_5_y, f18_p0_o0_r0_6_y, f18_p1_o0_x4_y, f18_p1_o0_x5_y, cond_false]
    rw [r5, Option.bind_some]
    dsimp only
    rw [ht1, head_eq _ _ (by omega) (by omega)]
    rfl
theorem steps_full {S A h t u} (s : Store S A h t u) {l : List Str} (hp : pairsB l = true) (hL : (pack l).length ≤ 4096) (hf : ¬ fitsA S h u l) (hb : ¬ fitsB S A h t l) :
    f18_F (kvOf S A h t u, (l, ())) = some ([], ((40 : Int), ())) := by
  obtain ⟨l1, l2, l3, l4⟩ := lens s
  obtain ⟨hu, ht⟩ := s.used
  have hle := s.hle
  have huni := uni_of s.right (1 - h)
  have ht1 : IntKind.i64.wrap ((t : Int) + 1) = ((t + 1 : Nat) : Int) := by rw [wrap64 (by omega) (by omega)]; rfl
  rw [steps_other s hp hL hf, f18_p1_eq, half_int hle, half_eq S [] (1 - h) (by omega) l3 l4, Option.bind_some, whole_eq s hp, Option.bind_some]
  dsimp only
  by_cases h1 : (wholeA (Kv.all A l)).length ≤ 128 * (logH S (1 - h)).length
  · have h2 : ¬ t + 1 < 1099511627776 := fun h2 => hb ⟨h1, h2⟩
    obtain ⟨r1, r2, r3, r4, r5⟩ := lay_res s.right (by omega : 1 - h ≤ 1) (u := 0) (data := wholeA (Kv.all A l)) (by omega)
    have r4' : f44_F (logH S (1 - h), ((0 : Int), (wholeA (Kv.all A l), ()))) = some (X18.lays (logH S (1 - h)) 0 (wholeA (Kv.all A l)), (0, ())) := r4
    rw [r4', Option.bind_some]
    dsimp only
    rw [f18_p0_eq, bne0, cond_false, ht1, show decide (((t + 1 : Nat) : Int) ≥ (1099511627776 : Int)) = true from by simp only [decide_eq_true_eq]; omega]
    simp only [Option.bind_some, f18_p0_o0_x9_y, f18_p0_o0_x13_y, f18_p0_o0_x14_y, f18_p0_o0_x97_y, f18_p0_o0_r0_0_y, f18_p0_o0_r0_1_y, f18_p0_o0_r0_2_y, f18_p0_o0_r0_3_y, f18_p0_o0_r0_4_y, f18_p0_o0_r0_5_y, f18_p0_o0_r0_6_y, f18_p1_o0_x4_y, f18_p1_o0_x5_y, cond_true]
  · have r4' : f44_F (logH S (1 - h), ((0 : Int), (wholeA (Kv.all A l), ()))) = some ([], (40, ())) := lay_full huni (by omega) (used := 0) (by omega) (by omega)
    rw [r4', Option.bind_some]
    dsimp only
    rw [f18_p0_eq, show ((40 : Int) != 0) = true from rfl, cond_true]
    simp only [Option.bind_some, f18_p0_o0_x9_y, f18_p0_o0_x13_y, f18_p0_o0_x14_y, f18_p0_o0_x97_y, f18_p0_o0_r0_0_y, f18_p0_o0_r0_1_y, f18_p0_o0_r0_2_y, f18_p0_o0_r0_3_y, f18_p0_o0_r0_4_y, f18_p0_o0_r0_5_y, f18_p0_o0_r0_6_y, f18_p1_o0_x4_y, f18_p1_o0_x5_y, cond_true]
end Go.Pe.Try
end
section
namespace Go.Pe.Try
open Go.Proofs Go.RowKit Go.Pe.Kv Go.Pe.X17
set_option maxRecDepth 100000
set_option linter.unusedSimpArgs false
set_option linter.unusedVariables false
abbrev GoodW (S : List Str) (W : List PWr) : Prop := ∀ w ∈ W, 0 ≤ w.1 ∧ w.1 < (S.length : Int) ∧ w.2.length = 128
theorem put_one {S : List Str} {D : List PWr} (hr : Right S D) {w : PWr} (h0 : 0 ≤ w.1) (h1 : w.1 < (S.length : Int)) (hd : w.2.length = 128) (hf : D.length < 200) : f19_F ((S, (D, ())), (w.1, (w.2, ()))) = disk S (D ++ [w]) 0 := by
  obtain ⟨k, hk⟩ := Int.eq_ofNat_of_zero_le h0
  obtain ⟨a, b⟩ := w
  simp only at hk h1 hd ⊢
  subst hk
  exact put_is hr (by omega) hd hf
theorem right_more {S : List Str} {D E : List PWr} (hr : Right S D) (hE : GoodW S E) (hf : D.length + E.length ≤ 200) : Right S (D ++ E) :=
  ⟨hr.lo, hr.hi, by simpa using hf, hr.sec, fun w hw => by
    rcases List.mem_append.1 hw with h | h
    · exact hr.wr w h
    · exact hE w h⟩
theorem put_loop10 (x25 : List (List PWr)) (x26 x27 r1 r2 r3 : Int) (S : List Str) (W : List PWr) (hr : Right S []) (hW : GoodW S W) (hf : W.length ≤ 199) : ∀ (d i : Nat), i + d = W.length → ∀ n, d + 1 ≤ n →
    iter f10_p0_st n (f10_p0_y x25 x26 x27 W W.length i r1 r2 r3 S (W.take i)) = some (f10_p0_o0_y x25 x26 x27 r1 r2 r3 S W) := by
  intro d
  induction d with
  | zero =>
    intro i hi n hn
    obtain ⟨n, rfl⟩ : ∃ k, n = k + 1 := ⟨n - 1, by omega⟩
    rw [iter, f10_p0_eq, show decide ((i : Int) < (W.length : Int)) = false from by simp; omega, cond_false, List.take_of_length_le (by omega)]
  | succ d ih =>
    intro i hi n hn
    obtain ⟨n, rfl⟩ : ∃ k, n = k + 1 := ⟨n - 1, by omega⟩
    have hil : i < W.length := by omega
    obtain ⟨w0, w1, w2⟩ := hW _ (List.getElem_mem hil)
    have hrd : Right S (W.take i) := by
      have := right_more (E := W.take i) hr (fun w hw => hW w (List.mem_of_mem_take hw)) (by simp; omega)
      simpa using this
    rw [iter, f10_p0_eq, show decide ((i : Int) < (W.length : Int)) = true from by simp; omega, cond_true, nth_lt hil, Option.bind_some, put_one hrd w0 w1 w2 (by simp; omega), Option.bind_some]
    show iter f10_p0_st n (f10_p0_y x25 x26 x27 W W.length (IntKind.i64.wrap ((i : Int) + ((1 : Nat) : Int))) r1 r2 r3 S (W.take i ++ [W[i]])) = _
    rw [wrap_add i 1 (by omega) (by omega), ← List.take_succ_eq_append_getElem hil, ih (i + 1) (by omega) n (by omega)]
theorem put_go10 (x25 : List (List PWr)) (x26 x27 r1 r2 r3 : Int) (S : List Str) (W : List PWr) (hr : Right S []) (hW : GoodW S W) (hf : W.length ≤ 199) : go f10_p0_st (f10_p0_y x25 x26 x27 W W.length 0 r1 r2 r3 S []) = some (f10_p0_o0_y x25 x26 x27 r1 r2 r3 S W) := by
  refine go_le (m := W.length + 1) (fun n hn => ?_) (by rw [fuel_def]; omega)
  exact put_loop10 x25 x26 x27 r1 r2 r3 S W hr hW hf W.length 0 (by omega) n hn
def diskW (S : List Str) (h' : Nat) (W : List PWr) : List Str := (placed (atH S h') W).foldl X17.put S
def diskH (S : List Str) (h' t' u' : Nat) (W : List PWr) : List Str := (diskW S h' W).set (atH S h') (head t' u')
theorem Plan.view {S A h t u l h' t' u' W} (p : Plan S A h t u l h' t' u' W) (s : Store S A h t u) {W' : List PWr} (hW : ∀ w ∈ W', w ∈ W) : View S (diskW S h' W') h' (X18.put (logH S h') W') :=
  placed_view p.hh s.right.lo W' (fun w hw => p.ws w (hW w hw)) (View.refl S h') rfl
theorem Plan.good {S A h t u l h' t' u' W} (p : Plan S A h t u l h' t' u' W) (s : Store S A h t u) {W' : List PWr} (hW : ∀ w ∈ W', w ∈ W) : GoodW S (placed (atH S h') W') :=
  placed_wr p.hh s.right.lo fun w hw => p.ws w (hW w hw)
theorem right_one {S : List Str} {E : List PWr} (hr : Right S []) (hE : GoodW S E) (hf : E.length ≤ 200) : Right S E := by
  have := right_more (D := []) hr hE (by simpa using hf)
  rwa [List.nil_append] at this
theorem right_diskW {S : List Str} (hr : Right S []) {D : List PWr} (hD : GoodW S D) (hf : D.length ≤ 200) : Right (D.foldl X17.put S) [] := puts_right (right_more (D := []) hr hD (by simpa using hf))
theorem view_tell {S S' : List Str} {h : Nat} {L : List Str} (v : View S S' h L) (hh : h ≤ 1) (hL : L.length = (logH S h).length) : ∀ k, k ≤ 1 → tell S' k = tell S k := by
  intro k hk
  have e1 : ∀ k, k ≤ 1 → (logH S' k).length = (logH S k).length := fun k hk => by
    by_cases e : k = h
    · rw [e, v.log, hL]
    · have : k = 1 - h := by omega
      rw [this, v.oth]
  rw [tell_eq, tell_eq, e1 k hk]
  have : k = 0 ∨ k = 1 := by omega
  rcases this with rfl | rfl
  · rw [v.hd0]
  · rw [v.hd1]
theorem plan_partial {S A h t u l h' t' u' W} (s : Store S A h t u) (p : Plan S A h t u l h' t' u' W) {W' : List PWr} (hW : ∀ w ∈ W', w ∈ W) (hf : W'.length ≤ 200) : Store (diskW S h' W') A h t u := by
  have v := p.view s hW
  have ht := view_tell v p.hh (X18.put_len _ _)
  have hsel : selH (diskW S h' W') = selH S := by unfold selH; rw [ht 0 (by omega), ht 1 (by omega)]
  refine ⟨right_diskW s.right (p.good s hW) (by simpa [placed] using hf), by rw [hsel]; exact s.half, by rw [ht h s.hle]; exact s.tells, s.pos, ?_⟩
  obtain ⟨rs, hrs, hA⟩ := s.held
  refine ⟨rs, ?_, hA⟩
  have : textH (diskW S h' W') h u = textH S h u := by
    unfold textH
    rcases p.old with ⟨rfl, _, ho⟩ | ⟨e, _⟩
    · rw [v.log]; exact ho W' hW
    · have hle := s.hle
      have e2 : 1 - h' = h := by omega
      have := v.oth
      rw [e2] at this
      rw [this]
  rw [this]; exact hrs
theorem plan_store {S A h t u l h' t' u' W} (s : Store S A h t u) (p : Plan S A h t u l h' t' u' W) : Store (diskH S h' t' u' W) (Kv.all A l) h' t' u' := by
  have v := p.view s (W' := W) fun _ h => h
  have hlen : (diskW S h' W).length = S.length := v.len
  have hrW : Right (diskW S h' W) [] := right_diskW s.right (p.good s fun _ h => h) (by have := p.few; simp [placed]; omega)
  have hat : atH (diskW S h' W) h' = atH S h' := by simp [atH, hlen]
  have hlt := atH_lt S h' p.hh s.right.lo
  obtain ⟨c1, c2, c3, c4⟩ := head_view p.hh hrW.lo (head t' u')
  rw [hat] at c1 c2 c3 c4
  have hrH : Right (diskH S h' t' u' W) [] := by
    have := right_diskW hrW (D := [(((atH S h' : Nat) : Int), head t' u')]) (fun w hw => by
      simp only [List.mem_singleton] at hw; subst hw
      exact ⟨by simp, by rw [hlen]; omega, head_len _ _⟩) (by simp)
    exact this
  have hll : (logH (diskH S h' t' u' W) h').length = (logH S h').length := by
    unfold diskH; rw [c2 h' p.hh, v.log, X18.put_len]
  have hu1 := p.u1
  have hL := logH_len S h' p.hh s.right.lo
  have hS := s.right.hi
  have tn : tell (diskH S h' t' u' W) h' = (t', u') := by
    rw [tell_eq, hll]
    unfold diskH; rw [c3]
    exact tl_head t' u' _ p.t1 p.t2 hu1 (by omega)
  have tOt : tell (diskH S h' t' u' W) (1 - h') = tell S (1 - h') := by
    have hv := view_tell v p.hh (X18.put_len _ _) (1 - h') (by omega)
    rw [← hv, tell_eq, tell_eq]
    unfold diskH; rw [c4, c2 (1 - h') (by omega)]
  refine ⟨hrH, ?_, tn, p.t1, ?_⟩
  · have hsel := s.half
    have htl := s.tells
    have hle := s.hle
    have h01 : h' = 0 ∨ h' = 1 := by have := p.hh; omega
    rcases p.old with ⟨e, et, _⟩ | ⟨e, et⟩
    · subst e; subst et
      unfold selH at hsel ⊢
      rcases h01 with rfl | rfl
      · simp only [Nat.sub_zero] at tOt
        rw [tn, tOt]
        rw [htl] at hsel
        exact hsel
      · simp only [Nat.sub_self] at tOt
        rw [tn, tOt]
        rw [htl] at hsel
        exact hsel
    · subst et
      unfold selH at hsel ⊢
      rcases h01 with rfl | rfl
      · have e2 : h = 1 := by omega
        subst e2
        simp only [Nat.sub_zero] at tOt
        rw [tn, tOt, htl, if_neg (by simp)]
      · have e2 : h = 0 := by omega
        subst e2
        simp only [Nat.sub_self] at tOt
        rw [tn, tOt, htl, if_pos (by simp)]
  · obtain ⟨rs, hrs, hA⟩ := p.new
    refine ⟨rs, ?_, hA⟩
    unfold textH diskH
    rw [c2 h' p.hh, v.log]
    exact hrs
abbrev kv0 : List Str × List PWr × List Str × List Str × Int × Int × Int × Unit := ([], ([], ([], ([], ((0 : Int), ((0 : Int), ((0 : Int), ())))))))
theorem put_err {S A h t u} (s : Store S A h t u) {l : List Str} {e : Int} (he : e ≠ 0) (hs : f18_F (kvOf S A h t u, (l, ())) = some ([], (e, ()))) : f10_F (kvOf S A h t u, (l, ())) = some (kv0, (e, ())) := by
  rw [f10_eq, hs, Option.bind_some]
  dsimp only
  rw [show (e != 0) = true from by simp [he], cond_true]
theorem put_ok {S A h t u l h' t' u' W} (s : Store S A h t u) (p : Plan S A h t u l h' t' u' W) (hs : f18_F (kvOf S A h t u, (l, ())) = some (stepsOf S h' t' u' W, ((0 : Int), ()))) :
    f10_F (kvOf S A h t u, (l, ())) = some (kvOf (diskH S h' t' u' W) (Kv.all A l) h' t' u', ((0 : Int), ())) := by
  have hst := plan_store s p
  have hgW := p.good s (W' := W) fun _ h => h
  have hfew := p.few
  have hrW : Right (diskW S h' W) [] := right_diskW s.right hgW (by simp [placed]; omega)
  have hlen : (diskW S h' W).length = S.length := (p.view s (W' := W) fun _ h => h).len
  have hlt := atH_lt S h' p.hh s.right.lo
  rw [f10_eq, hs, Option.bind_some]
  dsimp only
  rw [bne0, cond_false]
  have hgo : go f10_p1_st (f10_p1_y (stepsOf S h' t' u' W) ((stepsOf S h' t' u' W).length : Int) 0 0 0 0 S []) = some (f10_p1_o0_y 0 0 0 (diskH S h' t' u' W) []) := by
    refine go_le (m := 3) (fun n hn => ?_) (by rw [fuel_def]; omega)
    obtain ⟨n, rfl⟩ : ∃ k, n = k + 3 := ⟨n - 3, by omega⟩
    rw [iter, f10_p1_eq]
    show (bif decide ((0 : Int) < 2) then ((nth (stepsOf S h' t' u' W) 0).bind _) else _) = _
    rw [show decide ((0 : Int) < 2) = true from rfl, cond_true, show nth (stepsOf S h' t' u' W) 0 = some (placed (atH S h') W) from rfl, Option.bind_some, put_go10 _ _ _ _ _ _ S _ s.right hgW (by simp [placed]; omega), Option.bind_some]
    simp only [f10_p0_o0_r2_0_y, f10_p0_o0_r2_1_y, f10_p0_o0_x25_y, f10_p0_o0_x26_y, f10_p0_o0_x27_y, f10_p0_o0_r1_4_y, f10_p0_o0_r1_5_y, f10_p0_o0_r1_6_y]
    rw [sync_is (right_one s.right hgW (by simp [placed]; omega)), Option.bind_some]
    dsimp only
    rw [show IntKind.i64.wrap ((0 : Int) + 1) = 1 from by decide]
    show iter f10_p1_st (n + 2) (f10_p1_y (stepsOf S h' t' u' W) ((stepsOf S h' t' u' W).length : Int) 1 0 0 0 (diskW S h' W) []) = _
    rw [iter, f10_p1_eq]
    show (bif decide ((1 : Int) < 2) then ((nth (stepsOf S h' t' u' W) 1).bind _) else _) = _
    have hg1 : GoodW (diskW S h' W) [(((atH S h' : Nat) : Int), head t' u')] := fun w hw => by
      simp only [List.mem_singleton] at hw; subst hw
      exact ⟨by simp, by rw [hlen]; omega, head_len _ _⟩
    rw [show decide ((1 : Int) < 2) = true from rfl, cond_true, show nth (stepsOf S h' t' u' W) 1 = some [(((atH S h' : Nat) : Int), head t' u')] from rfl, Option.bind_some, put_go10 _ _ _ _ _ _ _ _ hrW hg1 (by simp), Option.bind_some]
    simp only [f10_p0_o0_r2_0_y, f10_p0_o0_r2_1_y, f10_p0_o0_x25_y, f10_p0_o0_x26_y, f10_p0_o0_x27_y, f10_p0_o0_r1_4_y, f10_p0_o0_r1_5_y, f10_p0_o0_r1_6_y]
    rw [sync_is (right_one hrW hg1 (by simp)), Option.bind_some]
    dsimp only
    rw [show IntKind.i64.wrap ((1 : Int) + 1) = 2 from by decide]
    show iter f10_p1_st (n + 1) (f10_p1_y (stepsOf S h' t' u' W) ((stepsOf S h' t' u' W).length : Int) 2 0 0 0 (diskH S h' t' u' W) []) = _
    rw [iter, f10_p1_eq]
    show (bif decide ((2 : Int) < 2) then _ else _) = _
    rw [show decide ((2 : Int) < 2) = false from rfl, cond_false]
  rw [hgo, Option.bind_some]
  simp only [f10_p1_o0_r2_0_y, f10_p1_o0_r2_1_y]
  rw [open_eq hst, Option.bind_some]
theorem put_cases {S A h t u} (s : Store S A h t u) {l : List Str} (hl : l.length ≤ 1000) : (pairsB l = false ∧ f18_F (kvOf S A h t u, (l, ())) = some ([], ((1 : Int), ()))) ∨
    (pairsB l = true ∧ ∃ e : Int, (e = 2 ∨ e = 40) ∧ f18_F (kvOf S A h t u, (l, ())) = some ([], (e, ())) ∧ (e = 40 → ¬ fitsA S h u l ∧ ¬ fitsB S A h t l)) ∨
    (pairsB l = true ∧ ∃ h' t' u' W, Plan S A h t u l h' t' u' W ∧ f18_F (kvOf S A h t u, (l, ())) = some (stepsOf S h' t' u' W, ((0 : Int), ()))) := by
  cases hp : pairsB l
  · exact .inl ⟨rfl, steps_bad s hl hp⟩
  · by_cases hL : (pack l).length ≤ 4096
    · by_cases hf : fitsA S h u l
      · obtain ⟨W, h1, h2⟩ := steps_A s hp hL hf
        exact .inr (.inr ⟨rfl, _, _, _, _, h1, h2⟩)
      · by_cases hb : fitsB S A h t l
        · obtain ⟨u', W, h1, h2⟩ := steps_B s hp hL hf hb
          exact .inr (.inr ⟨rfl, _, _, _, _, h1, h2⟩)
        · exact .inr (.inl ⟨rfl, 40, .inr rfl, steps_full s hp hL hf hb, fun _ => ⟨hf, hb⟩⟩)
    · exact .inr (.inl ⟨rfl, 2, .inl rfl, steps_long s hp (by omega), fun h => by cases h⟩)
def disk0 (n : Nat) : List Str := (List.replicate n (List.replicate 128 (0 : UInt8))).set 0 (head 1 0)
theorem format_store {n : Nat} (h1 : 4 ≤ n) (h2 : n ≤ 64) : Store (disk0 n) [] 0 1 0 := by
  have hlen : (disk0 n).length = n := by simp [disk0]
  have hr : Right (disk0 n) [] := ⟨by omega, by omega, by simp, fun s hs => by
    rcases List.mem_or_eq_of_mem_set hs with h | h
    · rw [List.eq_of_mem_replicate h]; simp
    · rw [h]; exact head_len 1 0, by simp⟩
  have t0 : tell (disk0 n) 0 = (1, 0) := by
    have e : hdH (disk0 n) 0 = head 1 0 := by
      unfold hdH atH disk0
      rw [Nat.zero_mul, List.getD_eq_getElem?_getD, List.getElem?_set_self (by simp; omega)]; rfl
    rw [tell_eq, e]
    exact tl_head 1 0 _ (by omega) (by omega) (by omega) (by omega)
  have t1 : tell (disk0 n) 1 = (0, 0) := by
    have e : hdH (disk0 n) 1 = List.replicate 128 0 := by
      unfold hdH atH
      rw [hlen, Nat.one_mul]
      unfold disk0
      rw [List.getD_eq_getElem?_getD, List.getElem?_set_ne (by omega), List.getElem?_replicate, if_pos (by omega)]; rfl
    rw [tell_eq, e]
    exact tl_zero _
  refine ⟨hr, by unfold selH; rw [t0, t1]; rfl, t0, by omega, [], ?_, rfl⟩
  unfold textH
  rw [List.take_zero]; rfl
theorem format_eq {n : Nat} (h1 : 4 ≤ n) (h2 : n ≤ 64) : f7_F ((n : Int), ()) = some (kvOf (disk0 n) [] 0 1 0, ((0 : Int), ())) := by
  rw [f7_eq, h22_eq, h22_p0_eq, show decide ((n : Int) < 4) = false from by simp; omega, cond_false, show decide ((n : Int) > 64) = false from by simp; omega]
  simp only [Option.bind_some, h22_p0_o0_x10_y, h22_p0_o0_x0_y, cond_false]
  have hz := repeat_zero 128 (by omega)
  have hz' : repeatF (([0] : List UInt8), ((128 : Int), ())) = some (List.replicate 128 0, ()) := hz
  rw [hz', Option.bind_some]
  have h51 : h51_F (h51_y [List.replicate 128 (0 : UInt8)] (n : Int)) = some (h51_o_y (List.replicate n (List.replicate 128 (0 : UInt8)))) := by
    show (if 1 ≤ (n : Int) ∧ (n : Int) ≤ 1000000 then some (((), ()), (), (List.replicate (n : Int).toNat (List.replicate 128 (0 : UInt8)), ())) else none) = _
    rw [if_pos (by omega), Int.toNat_natCast]; rfl
  rw [h51, Option.bind_some]
  simp only [Option.bind_some, h22_o_x1_y, h51_o_l0_y, h22_o_l0_y]
  have hh : f23_F ((1 : Int), ((0 : Int), ())) = some (head 1 0, ()) := head_eq 1 0 (by omega) (by omega)
  rw [bne0, cond_false, hh, Option.bind_some]
  have hw : ∀ (K : Option (argsDen f7_rs)), within (0 : Int) (List.replicate n (List.replicate 128 (0 : UInt8))).length K = K := fun K => by
    rw [within, if_pos (by simp; omega)]
  have hlt : 0 < (List.replicate n (List.replicate 128 (0 : UInt8))).length := by rw [List.length_replicate]; omega
  rw [hw, show Int.toNat (0 : Int) = 0 from rfl, List.getElem?_eq_getElem hlt, Option.bind_some]
  show ((f13_F ((disk0 n, (([] : List PWr), ())), ())).bind _) = _
  rw [open_eq (format_store h1 h2), Option.bind_some]
end Go.Pe.Try
end
section
namespace Go.Pe.Try
open Go.Proofs Go.RowKit Go.Pe.Kv Go.Pe.X17
set_option maxRecDepth 100000
set_option linter.unusedSimpArgs false
set_option linter.unusedVariables false
theorem put_fits {S A h t u} (s : Store S A h t u) {l : List Str} (hp : pairsB l = true) (hL : (pack l).length ≤ 4096) (hf : fitsA S h u l) :
    ∃ S', S'.length = S.length ∧ Store S' (Kv.all A l) h t (u + (4 + (pack l).length)) ∧ f10_F (kvOf S A h t u, (l, ())) = some (kvOf S' (Kv.all A l) h t (u + (4 + (pack l).length)), ((0 : Int), ())) := by
  obtain ⟨W, p, h2⟩ := steps_A s hp hL hf
  have h3 := put_ok s p h2
  have h4 := plan_store s p
  rw [frame_len] at h3 h4
  refine ⟨_, ?_, h4, h3⟩
  unfold diskH
  rw [List.length_set, (p.view s (W' := W) fun _ h => h).len]
theorem alive_eq : f8_F () = some (true, ()) := by
  have s0 := format_store (n := 8) (by omega) (by omega)
  have hl : (logH (disk0 8) 0).length = 3 := by rw [logH_len _ _ (by omega) (by simp [disk0])]; simp [disk0]
  have hpk : (pack [([97] : Str), ([49] : Str)]).length = 10 := rfl
  obtain ⟨S', _, s1, hput⟩ := put_fits s0 (l := [[97], [49]]) (by decide) (by rw [hpk]; omega) (by unfold fitsA; rw [hpk, hl]; omega)
  have hall : Kv.all [] [([97] : Str), ([49] : Str)] = [([97], [49])] := by decide
  rw [hall] at s1 hput
  have hfmt := format_eq (n := 8) (by omega) (by omega)
  have hfmt' : f7_F ((8 : Int), ()) = some (kvOf (disk0 8) [] 0 1 0, ((0 : Int), ())) := hfmt
  rw [f8_eq, f7_Le, f10_Le, f14_Le, hfmt', Option.bind_some]
  dsimp only
  rw [hput, Option.bind_some]
  dsimp only
  have hg := get_hit s1 (i := 0) (by simp)
  have hg' : f14_F (kvOf S' [(([97] : Str), ([49] : Str))] 0 1 (0 + (4 + (pack [([97] : Str), ([49] : Str)]).length)), (([97] : Str), ())) = some (([49] : Str), ((0 : Int), ())) := hg
  rw [hg', Option.bind_some]
  rfl
theorem clamp (a : Int) (lo : Nat) (h : 4 ≤ lo) (h2 : lo ≤ 64) : ∃ n : Nat, minI (maxI a (lo : Int)) (64 : Int) = (n : Int) ∧ lo ≤ n ∧ n ≤ 64 := by
  rw [minI_eq, maxI_eq]
  by_cases h1 : (lo : Int) > a
  · rw [if_pos h1, if_neg (by omega)]; exact ⟨lo, rfl, by omega, h2⟩
  · rw [if_neg h1]
    by_cases h3 : (64 : Int) < a
    · rw [if_pos h3]; exact ⟨64, rfl, h2, by omega⟩
    · rw [if_neg h3]; exact ⟨a.toNat, by omega, by omega, by omega⟩
end Go.Pe.Try
end
section
namespace Go.Pe
open Go.RowKit Go.ChangeShapes
def All (w : World) (b : Nat) : Prop := b < w.heap.size
theorem cell_lt {w : World} {a : Addr} {v : Value} (h : w.cell? a = some v) : a.block < w.heap.size ∧ a.spot = none := by
  unfold World.cell? at h
  split at h
  · rename_i c el t hb
    refine ⟨(Array.getElem?_eq_some_iff.1 hb).1, ?_⟩
    split at h
    · cases h
    · rename_i hs; simpa using hs
  · cases h
theorem add_spot {a : Addr} (h : a.spot = none) (n : Nat) : a.add n = ⟨a.block, a.off + n, none⟩ := by
  unfold Addr.add
  split
  · rename_i e; subst e; cases a; simp_all
  · rfl
theorem decTys_enc : ∀ (ts : List Ty) (x : tysDen ts), decTys ts (encTys ts x) = some x
  | [], _ => rfl
  | t :: ts, x => by simp only [encTys, decTys, asTy, dite_true, Option.bind_some, decTys_enc ts x.2]
theorem KD.dec_enc : ∀ (k : KD) (x : k.den), k.dec (k.enc x) = some x
  | .one t, x => by simp only [KD.enc, KD.dec, asTy, dite_true]
  | .agg ts, x => by simp only [KD.enc, KD.dec, decTys_enc]
theorem decArgs_enc : ∀ (ks : List KD) (x : argsDen ks), decArgs ks (encArgs ks x) = some x
  | [], _ => rfl
  | k :: ks, x => by simp only [encArgs, decArgs, KD.dec_enc, Option.bind_some, decArgs_enc ks x.2]
theorem law_walk [GI] {P : Program} {f : Nat} {ps : List KD} {F : argsDen ps → Option (argsDen [.one .bool])} (h : Sound P f (pfun F)) (y : argsDen ps) (hF : F y = some (true, ())) {w : World} {vs : List Value} (hgi : GI.inv w)
    (hrep : RepAVs (c0 (All w) w) (encArgs ps y) vs) : Calls P f vs.toArray w fun e w' => e = .returned (.bool true) ∧ Below w.heap.size w w' := by
  obtain ⟨av, hK, _, hc⟩ := h.2 AV (encArgs ps y) some (.d .bool true) (by simp only [pfun, decArgs_enc, Option.bind_some, hF]; rfl) (All w) w vs (fun b hb => hb) hgi (encArgs_closed ps y) hrep
  cases hK
  refine hc.mono fun e w' ⟨v, he, hb, hr⟩ => ?_
  simp only [RepAV, Rep, List.cons.injEq, and_true] at hr
  subst hr
  exact ⟨he, hb⟩
end Go.Pe
end
