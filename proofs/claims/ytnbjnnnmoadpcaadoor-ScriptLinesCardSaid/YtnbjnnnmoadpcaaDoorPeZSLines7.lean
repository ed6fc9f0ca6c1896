/- Texts of the proof, what is used of them: S8, S9, S10, CardTrysd, Open, Open2. -/
import Derived.Lib.LaidU8
import Derived.Lib.LaidTab
import Derived.Shelf.Vars
import Derived.HandedShaped
import Derived.Handed
import Derived.Lay
import Derived.MakeChecks
import Derived.SliceStrings
import Derived.SizedLaws
import Derived.WideShapes
import Derived.Test.YtnbjnnnmoadpcaaDoorPeZSLines6
section
namespace Go.Pe.Tryd
open Go.Proofs Go.RowKit
open Go.Lib (join itoa joinTail)
set_option maxRecDepth 100000
set_option linter.unusedSimpArgs false
set_option linter.unusedVariables false
theorem counts {k : Int} {x : Shp} (h : (k, x) ∈ shp) : f29_F (k, ()) = some (x.2.1, ()) ∧ f30_F (k, ()) = some (x.2.2, ()) ∧ f31_F (k, ()) = some (x.1, ()) := by
  simp only [shp, List.mem_cons, Prod.mk.injEq, List.not_mem_nil, or_false] at h
  rw [f29_eq, f30_eq, f31_eq]
  rcases h with ⟨rfl, rfl⟩ | ⟨rfl, rfl⟩ | ⟨rfl, rfl⟩ | ⟨rfl, rfl⟩ | ⟨rfl, rfl⟩ | ⟨rfl, rfl⟩ | ⟨rfl, rfl⟩ | ⟨rfl, rfl⟩ <;> exact ⟨rfl, rfl, rfl⟩
theorem badC_byte (c : UInt8) : badC (c.toNat : Int) = !(c == 48 || c == 49) := by
  have : ∀ n : Fin 256, badC (n.val : Int) = !(UInt8.ofNat n.val == 48 || UInt8.ofNat n.val == 49) := by decide +kernel
  simpa using this ⟨c.toNat, c.toNat_lt⟩
theorem find_all {α : Type} (l : List α) (p q : α → Bool) (h : ∀ x, p x = !q x) : l.findIdx? p = none ↔ l.all q = true := by
  rw [List.findIdx?_eq_none_iff]
  constructor
  · intro hn; rw [List.all_eq_true]; intro x hx; have := hn x hx; rw [h] at this; simpa using this
  · intro ha x hx; rw [List.all_eq_true] at ha; rw [h, ha x hx]; rfl
theorem rbits (s : List UInt8) (hs : s.length ≤ 900000) : go f13_p2_st (f13_p2_y s 0) = some (if s.all (fun c => c == 48 || c == 49) = true then .inl f13_p2_o0_y else .inr (f13_p2_o1_y false)) := by
  have hl := go_scan (step := f13_p2_st) (l := s) (fun i => f13_p2_y s (i : Int)) (fun c => badC (c.toNat : Int)) (fun k => some (.inr (f13_p2_o1_y false))) (some (.inl f13_p2_o0_y))
    (fun i hi rec => by
      rw [f13_p2_eq, lt_true hi, cond_true, f13_p0_eq, nth_at hi, Option.bind_some]
      unfold badC
      cases h1 : ((s[i].toNat : Int) != 48) with
      | false =>
        rw [cond_false, Option.bind_some]
        simp only [f13_p0_o0_x7_y, f13_p0_o0_x8_y, f13_p0_o0_x104_y, cond_false, Bool.false_and]
        rw [inc i (by omega)]
      | true =>
        rw [cond_true, Option.bind_some, Option.bind_some]
        simp only [f13_p0_o0_x7_y, f13_p0_o0_x8_y, f13_p0_o0_x104_y, Bool.true_and]
        rw [inc i (by omega)]) (fun rec => by rw [f13_p2_eq, lt_false, cond_false]) (by rw [fuel_def]; omega)
  rw [show ((0 : Nat) : Int) = 0 from rfl] at hl
  rw [hl]
  have hf := find_all s (fun c => badC (c.toNat : Int)) (fun c => c == 48 || c == 49) badC_byte
  cases h : s.findIdx? (fun c => badC (c.toNat : Int)) with
  | none => rw [if_pos (hf.1 h)]
  | some k =>
    rw [if_neg (fun ha => by rw [hf.2 ha] at h; cases h)]
theorem rloopT (k : Int) (ts : List (List UInt8)) (ns : List Int) (h1 : ts.length ≤ 900000) : go f13_p6_st (f13_p6_y ts (ts.length : Int) 0 k ts ns) = some (if ts.all (fun s => decide (s.length ≤ 3000)) = true then .inl (f13_p6_o0_y k ts ns) else .inr (f13_p6_o1_y false)) := by
  have hl := go_scan (step := f13_p6_st) (l := ts) (fun i => f13_p6_y ts (ts.length : Int) (i : Int) k ts ns) (fun s => decide ((s.length : Int) > 3000)) (fun _ => some (.inr (f13_p6_o1_y false))) (some (.inl (f13_p6_o0_y k ts ns)))
    (fun i hi rec => by rw [f13_p6_eq, lt_true hi, cond_true, nth_at hi, Option.bind_some, inc i (by omega)]) (fun rec => by rw [f13_p6_eq, lt_false, cond_false]) (by rw [fuel_def]; omega)
  rw [show ((0 : Nat) : Int) = 0 from rfl] at hl
  rw [hl]
  have hf := find_all ts (fun s => decide ((s.length : Int) > 3000)) (fun s => decide (s.length ≤ 3000)) (fun s => by by_cases h : s.length ≤ 3000 <;> simp [h] <;> omega)
  cases ha : ts.findIdx? (fun s => decide ((s.length : Int) > 3000)) with
  | none => rw [if_pos (hf.1 ha)]
  | some j => rw [if_neg (fun hh => by rw [hf.2 hh] at ha; cases ha)]
theorem rbad (n : Int) (x47 : List Int) (x48 x49 r0 : Int) (r1 : List (List UInt8)) (r2 : List Int) : f13_p1_F (f13_p1_y n x47 x48 x49 r0 r1 r2) = some (f13_p1_o0_y x47 x48 x49 (badN n) r0 r1 r2) := by
  rw [f13_p1_eq]
  unfold badN
  by_cases hneg : n < 0
  · rw [show decide (n < 0) = true from by simpa using hneg, cond_true, show decide (0 ≤ n ∧ n ≤ 1099511627776) = false from by simp; omega, Bool.not_false]
  · rw [show decide (n < 0) = false from by simpa using hneg, cond_false]
    by_cases hbig : n > 1099511627776
    · rw [show decide (n > 1099511627776) = true from by simpa using hbig, show decide (0 ≤ n ∧ n ≤ 1099511627776) = false from by simp; omega, Bool.not_false]
    · rw [show decide (n > 1099511627776) = false from by simpa using hbig, show decide (0 ≤ n ∧ n ≤ 1099511627776) = true from by simp; omega, Bool.not_true]
theorem rloopN (k : Int) (ts : List (List UInt8)) (ns : List Int) (h2 : ns.length ≤ 900000) : go f13_p3_st (f13_p3_y ns (ns.length : Int) 0 k ts ns) = some (if ns.all (fun n => decide (0 ≤ n ∧ n ≤ 1099511627776)) = true then .inl (f13_p3_o0_y k ts ns) else .inr (f13_p3_o1_y false)) := by
  have hl2 := go_scan (step := f13_p3_st) (l := ns) (fun i => f13_p3_y ns (ns.length : Int) (i : Int) k ts ns) badN (fun _ => some (.inr (f13_p3_o1_y false))) (some (.inl (f13_p3_o0_y k ts ns)))
    (fun i hi rec => by
      rw [f13_p3_eq, lt_true hi, cond_true, nth_at hi, Option.bind_some, rbad, Option.bind_some]
      simp only [f13_p1_o0_x47_y, f13_p1_o0_x48_y, f13_p1_o0_x49_y, f13_p1_o0_x58_y, f13_p1_o0_r0_0_y, f13_p1_o0_r0_1_y, f13_p1_o0_r0_2_y]
      rw [inc i (by omega)]) (fun rec => by rw [f13_p3_eq, lt_false, cond_false]) (by rw [fuel_def]; omega)
  rw [show ((0 : Nat) : Int) = 0 from rfl] at hl2
  rw [hl2]
  have hf2 := find_all ns badN (fun n => decide (0 ≤ n ∧ n ≤ 1099511627776)) (fun n => rfl)
  cases hb : ns.findIdx? badN with
  | none => rw [if_pos (hf2.1 hb)]
  | some j => rw [if_neg (fun hh => by rw [hf2.2 hh] at hb; cases hb)]
theorem rspec (k : Int) (ts : List (List UInt8)) (ns : List Int) (q2 : k = 2 → ns.length = 2) (q8 : k = 8 → ns.length = 1) (q6 : k = 6 → ts.length = 1) (hall : ∀ s ∈ ts, s.length ≤ 3000) :
    ((f13_p4_F (f13_p4_y k ts ns)).bind fun o200 => bif (f13_p4_o0_x81 o200) then (some (false, ())) else ((f13_p5_F (f13_p5_y (f13_p4_o0_r0_0 o200) (f13_p4_o0_r0_1 o200) (f13_p4_o0_r0_2 o200))).bind fun o201 => (match o201 with | .inl z202 => some ((f13_p5_o0_x2 z202), ()) | .inr o203 => some (true, ())))) = some (special (k, (ts, ns)), ()) := by
  rw [f13_p4_eq]
  unfold special
  dsimp only
  by_cases k2 : k = 2
  · subst k2
    have := q2 rfl
    match ns, this with
    | [a, b], _ =>
      rw [show ((2 : Int) == 2) = true from rfl, cond_true, show nth [a, b] (1 : Int) = some b from rfl, Option.bind_some, if_pos rfl]
      by_cases hb1 : b > 1
      · rw [show decide (b > 1) = true from by simpa using hb1, cond_true, Option.bind_some]
        simp only [f13_p4_o0_x81_y, f13_p4_o0_r0_0_y, f13_p4_o0_r0_1_y, f13_p4_o0_r0_2_y, cond_true]
        rw [show decide (([a, b] : List Int).getD 1 0 ≤ 1) = false from by simp; omega]
      · rw [show decide (b > 1) = false from by simpa using hb1, cond_false, show ((2 : Int) == 8) = false from rfl, cond_false, Option.bind_some]
        simp only [f13_p4_o0_x81_y, f13_p4_o0_r0_0_y, f13_p4_o0_r0_1_y, f13_p4_o0_r0_2_y, cond_false]
        rw [f13_p5_eq, show ((2 : Int) == 6) = false from rfl, cond_false, Option.bind_some]
        rw [show decide (([a, b] : List Int).getD 1 0 ≤ 1) = true from by simp; omega]
  · rw [if_neg k2, show (k == 2) = false from by simpa using k2, cond_false]
    by_cases k8 : k = 8
    · subst k8
      have := q8 rfl
      match ns, this with
      | [a], _ =>
        rw [show ((8 : Int) == 8) = true from rfl, cond_true, show nth [a] (0 : Int) = some a from rfl, Option.bind_some, Option.bind_some, if_pos rfl]
        simp only [f13_p4_o0_x81_y, f13_p4_o0_r0_0_y, f13_p4_o0_r0_1_y, f13_p4_o0_r0_2_y]
        by_cases hb1 : a > 1
        · rw [show decide (a > 1) = true from by simpa using hb1, cond_true]
          rw [show decide (([a] : List Int).getD 0 0 ≤ 1) = false from by simp; omega]
        · rw [show decide (a > 1) = false from by simpa using hb1, cond_false]
          rw [f13_p5_eq, show ((8 : Int) == 6) = false from rfl, cond_false, Option.bind_some]
          rw [show decide (([a] : List Int).getD 0 0 ≤ 1) = true from by simp; omega]
    · rw [if_neg k8, show (k == 8) = false from by simpa using k8, cond_false, Option.bind_some]
      simp only [f13_p4_o0_x81_y, f13_p4_o0_r0_0_y, f13_p4_o0_r0_1_y, f13_p4_o0_r0_2_y, cond_false]
      rw [f13_p5_eq]
      by_cases k6 : k = 6
      · subst k6
        have := q6 rfl
        match ts, this, hall with
        | [s], _, hall =>
          have hs : s.length ≤ 3000 := hall s (by simp)
          rw [show ((6 : Int) == 6) = true from rfl, cond_true, show nth [s] (0 : Int) = some s from rfl, Option.bind_some, rbits s (by omega), Option.bind_some, if_pos rfl]
          rw [show ([s] : List (List UInt8)).getD 0 [] = s from rfl]
          cases s.all (fun c => c == 48 || c == 49) with
          | true => rw [if_pos rfl]; rfl
          | false =>
            rw [if_neg (by decide)]
            dsimp only
            rw [Option.bind_some]
            dsimp only
            simp only [f13_p2_o1_x2_y, f13_p5_o0_x2_y]
      · rw [if_neg k6, show (k == 6) = false from by simpa using k6, cond_false, Option.bind_some]
theorem risdeed (k : Int) (ts : List (List UInt8)) (ns : List Int) (h1 : ts.length ≤ 900000) (h2 : ns.length ≤ 900000) : f13_F ((k, (ts, (ns, ()))), ()) = some (isDeed (k, (ts, ns)), ()) := by
  rw [f13_eq, f13_p7_eq]
  rcases look_cases k with ⟨hn, hk⟩ | ⟨hk1, hk2, x, hx, hm⟩
  · have hI : isDeed (k, (ts, ns)) = false := by simp [isDeed, hn]
    rw [hI]
    by_cases hk0 : k < 1
    · rw [show decide (k < 1) = true from by simpa using hk0, cond_true, Option.bind_some]
      simp only [f13_p7_o0_x34_y, f13_p7_o0_r0_0_y, f13_p7_o0_r0_1_y, f13_p7_o0_r0_2_y, cond_true]
    · rw [show decide (k < 1) = false from by simpa using hk0, cond_false, show decide (k > 8) = true from by simp; omega, cond_true, Option.bind_some]
      simp only [f13_p7_o0_x34_y, f13_p7_o0_r0_0_y, f13_p7_o0_r0_1_y, f13_p7_o0_r0_2_y, cond_true]
  · obtain ⟨q2, q8, q6, _⟩ := shp_len hm
    obtain ⟨c1, c2, _⟩ := counts hm
    have hI : isDeed (k, (ts, ns)) = ((ts.length : Int) == x.2.1 && ((ns.length : Int) == x.2.2 && (ts.all (fun s => decide (s.length ≤ 3000)) && (ns.all (fun n => decide (0 ≤ n ∧ n ≤ 1099511627776)) && special (k, (ts, ns)))))) := by simp [isDeed, hx]
    rw [hI]
    rw [show decide (k < 1) = false from by simp; omega, cond_false, show decide (k > 8) = false from by simp; omega, cond_false, c1, Option.bind_some]
    dsimp only
    by_cases e1 : (ts.length : Int) = x.2.1
    · rw [show ((ts.length : Int) != x.2.1) = false from by simpa using e1, cond_false, c2, Option.bind_some, Option.bind_some]
      simp only [f13_p7_o0_x34_y, f13_p7_o0_r0_0_y, f13_p7_o0_r0_1_y, f13_p7_o0_r0_2_y]
      rw [show ((ts.length : Int) == x.2.1) = true from by simpa using e1, Bool.true_and]
      by_cases e2 : (ns.length : Int) = x.2.2
      · rw [show ((ns.length : Int) != x.2.2) = false from by simpa using e2, cond_false]
        rw [show ((ns.length : Int) == x.2.2) = true from by simpa using e2, Bool.true_and, rloopT k ts ns h1, Option.bind_some]
        cases ha : ts.all (fun s => decide (s.length ≤ 3000)) with
        | false =>
          rw [if_neg (by decide), Bool.false_and]
          dsimp only
          simp only [f13_p6_o1_x2_y]
        | true =>
          rw [if_pos rfl, Bool.true_and]
          have hall : ∀ s ∈ ts, s.length ≤ 3000 := by simpa [List.all_eq_true] using ha
          dsimp only
          simp only [f13_p6_o0_r0_0_y, f13_p6_o0_r0_1_y, f13_p6_o0_r0_2_y]
          rw [rloopN k ts ns h2, Option.bind_some]
          cases hb : ns.all (fun n => decide (0 ≤ n ∧ n ≤ 1099511627776)) with
          | false =>
            rw [if_neg (by decide), Bool.false_and]
            dsimp only
            simp only [f13_p3_o1_x2_y]
          | true =>
            rw [if_pos rfl, Bool.true_and]
            dsimp only
            simp only [f13_p3_o0_r0_0_y, f13_p3_o0_r0_1_y, f13_p3_o0_r0_2_y]
            exact rspec k ts ns (fun h => by have := q2 h; omega) (fun h => by have := q8 h; omega) (fun h => by have := q6 h; omega) hall
      · rw [show ((ns.length : Int) != x.2.2) = true from by simpa using e2, cond_true]
        rw [show ((ns.length : Int) == x.2.2) = false from by simpa using e2]; rfl
    · rw [show ((ts.length : Int) != x.2.1) = true from by simpa using e1, cond_true, Option.bind_some]
      simp only [f13_p7_o0_x34_y, f13_p7_o0_r0_0_y, f13_p7_o0_r0_1_y, f13_p7_o0_r0_2_y, cond_true]
      rw [show ((ts.length : Int) == x.2.1) = false from by simpa using e1]; rfl
theorem foldi_tail {α : Type} (g : α → List UInt8) (l : List α) : ∀ (k : Nat) (s : List UInt8), foldi (fun _ (s : List UInt8) (x : α) => s ++ ([32] ++ g x)) k s l = s ++ joinTail [32] (l.map g) := by
  induction l with
  | nil => intro k s; simp [foldi, joinTail]
  | cons x l ih => intro k s; rw [foldi, ih]; simp [joinTail]
theorem rline (k : Int) (ts : List (List UInt8)) (ns : List Int) (h : isDeed (k, (ts, ns)) = true) : f14_F ((k, (ts, (ns, ()))), ()) = some (line (k, (ts, ns)), ()) := by
  obtain ⟨x, hx, hm, h1, h2, h3, h4⟩ := isDeed_iff h
  have hl := shp_len hm
  obtain ⟨_, _, c3⟩ := counts hm
  have hw := (shp_word hm).1
  dsimp only at hx h1 h2 h3 h4 c3 hw
  rw [f14_eq, c3, Option.bind_some]
  dsimp only
  have a1 := go_foldi (step := f14_p1_st) (l := ts) (fun i s => f14_p1_y s ts (ts.length : Int) (i : Int) k ts ns) (fun _ s t => s ++ ([32] ++ (120 :: hex t))) (fun i s => s.length ≤ 7 + i * 6002) (s0 := x.1) (fin := fun s => some (f14_p1_o0_y s k ts ns)) (by omega)
    (fun i s hi hs => by
      have hle := h3 _ (List.getElem_mem hi)
      refine ⟨by rw [List.length_append, List.length_append, List.length_cons, List.length_cons, List.length_nil, hex_length, Nat.add_mul]; omega, fun rec => ?_⟩
      have : i * 6002 ≤ 3 * 6002 := Nat.mul_le_mul_right _ (by omega)
      rw [f14_p1_eq, lt_true hi, cond_true, nth_at hi, Option.bind_some, if_pos (by simp; omega), rhex_eq _ (by omega), Option.bind_some]
      dsimp only
      rw [if_pos (by rw [hex_length]; simp; omega), inc i (by omega)]
      simp) (fun s hs rec => by rw [f14_p1_eq, lt_false, cond_false]) (by rw [fuel_def]; omega)
  obtain ⟨a1, b1⟩ := a1
  rw [show ((0 : Nat) : Int) = 0 from rfl] at a1
  rw [a1, Option.bind_some, foldi_tail (fun t => 120 :: hex t)]
  rw [foldi_tail (fun t => 120 :: hex t)] at b1
  simp only [f14_p1_o0_x3_y, f14_p1_o0_r0_0_y, f14_p1_o0_r0_1_y, f14_p1_o0_r0_2_y]
  have a2 := go_foldi (step := f14_p0_st) (l := ns) (fun i s => f14_p0_y s ns (ns.length : Int) (i : Int)) (fun _ s n => s ++ ([32] ++ itoa n)) (fun i s => s.length ≤ 20000 + i * 22) (s0 := x.1 ++ joinTail [32] (ts.map fun t => 120 :: hex t)) (fin := fun s => some (f14_p0_o0_y s)) (by have : ts.length * 6002 ≤ 3 * 6002 := Nat.mul_le_mul_right _ (by omega); omega)
    (fun i s hi hs => by
      have hle := itoa_le (h4 _ (List.getElem_mem hi))
      refine ⟨by rw [List.length_append, List.length_append, List.length_cons, List.length_nil, Nat.add_mul]; omega, fun rec => ?_⟩
      have : i * 22 ≤ 2 * 22 := Nat.mul_le_mul_right _ (by omega)
      rw [f14_p0_eq, lt_true hi, cond_true, nth_at hi, Option.bind_some, if_pos (by simp; omega), itoaF_eq (h4 _ (List.getElem_mem hi)), Option.bind_some]
      dsimp only
      rw [if_pos (by simp; omega), inc i (by omega)]
      simp) (fun s hs rec => by rw [f14_p0_eq, lt_false, cond_false]) (by rw [fuel_def]; omega)
  obtain ⟨a2, b2⟩ := a2
  rw [show ((0 : Nat) : Int) = 0 from rfl] at a2
  rw [a2, Option.bind_some, foldi_tail itoa]
  simp only [f14_p0_o0_x3_y]
  unfold line
  rw [hx, Option.getD_some, wordsOf, Lib.join_cons]
  simp [joinTail]
end Go.Pe.Tryd
end
section
namespace Go.Pe.Tryd
open Go.Proofs Go.RowKit
open Go.Lib (join itoa joinTail)
set_option maxRecDepth 100000
set_option linter.unusedSimpArgs false
set_option linter.unusedVariables false
def seedOf (n : UInt8) : List UInt8 := n :: [48, 49, 50, 51, 52, 53, 54, 55, 56, 57, 97, 98, 99, 100, 101, 102, 48, 49, 50, 51, 52, 53, 54, 55, 56, 57, 97, 98, 99, 100, 101]
theorem seed_eq (n : UInt8) (h : IntKind.u8.wrap (n.toNat : Int) = (n.toNat : Int)) : f41_F ((n.toNat : Int), ()) = some (seedOf n, ()) := by
  rw [f41_eq, h]
  rw [if_pos (by simp [strOf])]
  simp [strOf, seedOf]
def planS : List (List UInt8) := [seedOf 1, seedOf 2, seedOf 3, seedOf 4]
theorem plan_right : right planS (seedOf 5) 30 2 [] = true := by decide
theorem alive_eq : f9_F () = some (true, ()) := by
  have e1 : f41_F ((1 : Int), ()) = some (seedOf 1, ()) := seed_eq 1 (by decide)
  have e2 : f41_F ((2 : Int), ()) = some (seedOf 2, ()) := seed_eq 2 (by decide)
  have e3 : f41_F ((3 : Int), ()) = some (seedOf 3, ()) := seed_eq 3 (by decide)
  have e4 : f41_F ((4 : Int), ()) = some (seedOf 4, ()) := seed_eq 4 (by decide)
  have e5 : f41_F ((5 : Int), ()) = some (seedOf 5, ()) := seed_eq 5 (by decide)
  rw [f9_eq, f20_eq, f41_Le, e1, Option.bind_some, e2, Option.bind_some, e3, Option.bind_some, e4, Option.bind_some, e5, Option.bind_some, Option.bind_some, f6_Le]
  have hp := print_eq planS (seedOf 5) 30 2 [] (by decide) ⟨by decide, by simp⟩
  rw [if_pos plan_right] at hp
  rw [show f6_F (([seedOf 1, seedOf 2, seedOf 3, seedOf 4], (seedOf 5, ((30 : Int), ((2 : Int), (([] : List Deed), ()))))), ()) = _ from hp, Option.bind_some, f7_Le]
  rw [show f7_F (textOf planS (seedOf 5) 30 2 [], ()) = _ from parse_text plan_right, Option.bind_some]
  dsimp only
  rw [show ((0 : Int) == 0) = true from rfl, cond_true, cond_true, show ((planS.length : Int) == 4) = true from rfl, cond_true, show ((2 : Int) == 2) = true from rfl, cond_true, f10_Le, rightP_eq planS (seedOf 5) 30 2 [] (by decide) ⟨by decide, by simp⟩, Option.bind_some, plan_right]
theorem okD_small {D : List Deed} {n : Nat} (hn : n ≤ 900000) (h : D.length ≤ n) (hD : ∀ d ∈ D, OkD d) : Small D := ⟨by omega, fun d hd => by obtain ⟨h1, h2, _⟩ := hD d hd; exact ⟨by omega, by omega⟩⟩
end Go.Pe.Tryd
end
section
namespace Go.Pe.Tryd
open Go.Proofs Go.RowKit
open Go.Lib (join itoa joinTail)
set_option maxRecDepth 100000
set_option linter.unusedSimpArgs false
set_option linter.unusedVariables false
theorem countF_eq (s : List UInt8) (h : s.length ≤ 8000000) : countF (s, (([10] : List UInt8), ())) = some (((s.count 10 : Nat) : Int), ()) := by
  show (if s.length < 4294967281 ∧ 1 ≤ ([10] : List UInt8).length then some ((Lib.countB ⟨s.toArray⟩ ⟨#[10]⟩ : Int), ()) else none) = _
  rw [if_pos ⟨by omega, by decide⟩]
  have : Lib.countB ⟨s.toArray⟩ ⟨#[10]⟩ = s.count 10 := Lib.count_one 10 s
  rw [this]
theorem count_lines : ∀ {D : List Deed}, (∀ d ∈ D, isDeed d = true) → (linesOf D).count 10 = D.length
  | [], _ => rfl
  | d :: D, h => by
    rw [linesOf_cons, List.count_append, List.count_eq_zero_of_not_mem (line_no (h d (by simp))), List.count_cons_self, count_lines (D := D) fun x hx => h x (by simp [hx])]
    simp
theorem count_text {S : List (List UInt8)} {L : List UInt8} {li cl : Int} {D : List Deed} (h : right S L li cl D = true) : (textOf S L li cl D).count 10 = D.length + 1 := by
  obtain ⟨h1, h2, h3⟩ := right_iff h
  rw [textOf, List.count_append, List.count_eq_zero_of_not_mem (first_no h1), List.count_cons_self, count_lines h3]
  omega
theorem lines_first {D : List Deed} (h : ∀ d ∈ D, isDeed d = true) (S : List (List UInt8)) (L : List UInt8) (li cl : Int) (rest : List UInt8) (hb : begins S L li cl = true) : linesOf D ≠ first S L li cl ++ 10 :: rest := by
  intro e
  cases D with
  | nil => simp [linesOf] at e
  | cons d D =>
    have hd := h d (by simp)
    rw [linesOf_cons] at e
    obtain ⟨e1, _⟩ := part_one e (line_no hd) (first_no hb)
    obtain ⟨x, hm, hsp, g1, g2, g4⟩ := split_line hd
    rw [e1, split_first hb] at hsp
    have := congrArg List.length hsp
    have hl := shp_len hm
    rw [(firstW_len hb).1] at this
    simp only [List.length_cons, List.length_append, List.length_map] at this
    omega
theorem right_more (S : List (List UInt8)) (L : List UInt8) (li cl : Int) (D : List Deed) (d : Deed) (h : right S L li cl D = true) : right S L li cl (D ++ [d]) = (isDeed d && decide (D.length ≠ 200)) := by
  obtain ⟨h1, h2, h3⟩ := right_iff h
  unfold right
  rw [h1, Bool.true_and, List.all_append, List.length_append]
  have : D.all isDeed = true := by rw [List.all_eq_true]; exact h3
  rw [this]
  simp only [List.all_cons, List.all_nil, Bool.and_true, Bool.true_and, List.length_cons, List.length_nil]
  rw [Bool.and_comm]
  congr 1
  rw [decide_eq_decide]
  omega
theorem text_more (S : List (List UInt8)) (L : List UInt8) (li cl : Int) (D : List Deed) (d : Deed) : textOf S L li cl (D ++ [d]) = textOf S L li cl D ++ line d ++ [10] := by simp [textOf, linesOf]
theorem parse_lines {D : List Deed} (h : ∀ d ∈ D, isDeed d = true) (hl : D.length ≤ 200) : f7_F (linesOf D, ()) = some (([], ([], (0, (0, ([], ()))))), (250, (1, ()))) := by
  have hlen := lines_len h
  have : D.length * 36013 ≤ 200 * 36013 := Nat.mul_le_mul_right _ hl
  rcases parse_eq (linesOf D) (by omega) (seg_lines h) with ⟨no, _, q1, q2, _⟩ | ⟨S, L, li, cl, D2, _, q2, q3⟩
  · have hno := q2 fun S L li cl rest hb => lines_first h S L li cl rest hb
    subst hno
    exact q1
  · exact absurd q3 (lines_first h S L li cl _ (right_iff q2).1)
set_option maxHeartbeats 1000000 in
theorem lawLines (S : List (List UInt8)) (L : List UInt8) (li cl : Int) (D : List Deed) (d : Deed) : f4_F ((S, (L, (li, (cl, (D, ()))))), ((d.1, (d.2.1, (d.2.2, ()))), ())) = some (true, ()) := by
  rw [f4_eq]
  obtain ⟨D1, a1, a2, a3⟩ := few_eq S L li cl D 205 (by decide)
  rw [show (205 : Int) = ((205 : Nat) : Int) from rfl, a1, Option.bind_some]
  obtain ⟨D2, b1, b2, b3⟩ := few_eq [] [] 0 0 [(d.1, (d.2.1, d.2.2))] 1 (by decide)
  rw [show (1 : Int) = ((1 : Nat) : Int) from rfl, b1, Option.bind_some]
  dsimp only
  obtain ⟨d2, rfl⟩ : ∃ d2, D2 = [d2] := by
    have : D2.length = 1 := by simpa using b2
    match D2, this with
    | [x], _ => exact ⟨x, rfl⟩
  rw [show nth [d2] (0 : Int) = some d2 from rfl, Option.bind_some]
  have hd2 := b3 d2 (by simp)
  have hD1 : Small D1 := okD_small (n := 205) (by decide) (by omega) a3
  have hS1 : (S.take 6).length ≤ 900000 := by simp; omega
  generalize S.take 6 = S1 at hS1 ⊢
  rw [print_eq S1 L li cl D1 hS1 hD1, Option.bind_some]
  by_cases hr : right S1 L li cl D1 = true
  · rw [if_pos hr]
    dsimp only
    obtain ⟨r1, r2, r3⟩ := right_iff hr
    have htl := text_len hr
    rw [show ((0 : Int) != 0) = false from rfl, cond_false, cutF_eq _ htl, Option.bind_some]
    have hcut : Lib.cut (textOf S1 L li cl D1) [10] = (first S1 L li cl, linesOf D1, true) := by rw [textOf]; exact cut_at (first_no r1)
    rw [hcut]
    dsimp only
    rw [parse_lines r3 r2, Option.bind_some, f4_p2_eq]
    dsimp only
    rw [appOk, if_pos (by simp; omega), appOk, if_pos (by simp; omega)]
    have hD3 : Small (D1 ++ [d2]) := ⟨by simp; omega, fun x hx => by
      rcases List.mem_append.1 hx with hx | hx
      · exact hD1.2 x hx
      · simp only [List.mem_singleton] at hx; subst hx; exact ⟨by have := hd2.1; omega, by have := hd2.2.1; omega⟩⟩
    have e3 : (([] : List Deed) ++ D1 ++ [(d2.1, (d2.2.1, d2.2.2))]) = D1 ++ [d2] := rfl
    rw [show (((([] : List ((Int × (List (List UInt8) × List Int)))) ++ D1) ++ [(d2.1, (d2.2.1, d2.2.2))])) = D1 ++ [d2] from rfl, print_eq S1 L li cl (D1 ++ [d2]) hS1 hD3, Option.bind_some, f4_p1_eq, countF_eq _ htl, Option.bind_some, count_text hr]
    dsimp only
    rw [inc D1.length (by omega), show (((D1.length + 1 : Nat) : Int) != ((D1.length + 1 : Nat) : Int)) = false from by simp, cond_false, show ((250 : Int) != 250) = false from rfl, cond_false, show ((1 : Int) != 1) = false from rfl, cond_false, alive_eq, Option.bind_some, Option.bind_some]
    simp only [f4_p1_o0_x5_y, f4_p1_o0_x14_y, f4_p1_o0_x15_y, f4_p1_o0_x81_y, f4_p1_o0_r0_0_y, f4_p1_o0_r0_1_y, f4_p1_o0_r0_2_y, f4_p1_o0_r0_3_y, f4_p1_o0_r0_4_y, f4_p1_o0_r1_0_y, f4_p1_o0_r1_1_y, f4_p1_o0_r1_2_y, Bool.not_true, cond_false]
    rw [f4_p0_eq, risdeed d2.1 d2.2.1 d2.2.2 (by have := hd2.1; omega) (by have := hd2.2.1; omega), Option.bind_some]
    dsimp only
    rw [right_more S1 L li cl D1 d2 hr]
    have ed : isDeed (d2.1, (d2.2.1, d2.2.2)) = isDeed d2 := rfl
    rw [ed]
    cases hdd : isDeed d2 with
    | false =>
      rw [Bool.not_false, cond_true, Option.bind_some]
      simp only [f4_p0_o0_x5_y, f4_p0_o0_x14_y, f4_p0_o0_x15_y, f4_p0_o0_x90_y, f4_p0_o0_r1_0_y, f4_p0_o0_r1_1_y, f4_p0_o0_r1_2_y, cond_true, Bool.false_and]
      rw [if_neg (by decide)]
      dsimp only
      rw [Option.bind_some]
      simp only [f4_p2_o0_x4_y]
      rfl
    | true =>
      rw [Bool.not_true, cond_false, Option.bind_some, Bool.true_and]
      simp only [f4_p0_o0_x5_y, f4_p0_o0_x14_y, f4_p0_o0_x15_y, f4_p0_o0_x90_y, f4_p0_o0_r1_0_y, f4_p0_o0_r1_1_y, f4_p0_o0_r1_2_y]
      by_cases h200 : D1.length = 200
      · rw [show ((D1.length : Int) == 200) = true from by rw [h200]; rfl, cond_true, show decide (D1.length ≠ 200) = false from by simpa using h200, if_neg (by decide)]
        dsimp only
        rw [Option.bind_some]
        simp only [f4_p2_o0_x4_y]
        rfl
      · rw [show ((D1.length : Int) == 200) = false from by simp; omega, cond_false, show decide (D1.length ≠ 200) = true from by simpa using h200, if_pos rfl]
        dsimp only
        rw [show ((0 : Int) == 0) = true from rfl, cond_true, rline d2.1 d2.2.1 d2.2.2 hdd, Option.bind_some]
        have hll := line_len hdd
        have el : line (d2.1, (d2.2.1, d2.2.2)) = line d2 := rfl
        dsimp only
        rw [el, if_pos (by omega), if_pos (by simp; omega), Option.bind_some]
        simp only [f4_p2_o0_x4_y]
        rw [text_more]
        simp
  · rw [if_neg hr]
    dsimp only
    rw [show ((1 : Int) != 0) = true from rfl, cond_true, alive_eq, Option.bind_some, cond_true]
    rfl
theorem lawLinesR (p : List (List UInt8) × (List UInt8 × (Int × (Int × List Deed)))) (d : Int × (List (List UInt8) × List Int)) : f4_F ((p.1, (p.2.1, (p.2.2.1, (p.2.2.2.1, (p.2.2.2.2, ()))))), ((d.1, (d.2.1, (d.2.2, ()))), ())) = some (true, ()) := lawLines _ _ _ _ _ _
end Go.Pe.Tryd
end
section
set_option linter.unusedSectionVars false
set_option linter.unusedVariables false
set_option linter.unusedSimpArgs false
namespace Go.Pe.Tryd
open Go.Proofs Go.RowKit
variable {H : Type} {enc : TypeId × Value → H}
theorem returns_both {a : Assume} {C : Checked} {os : Os} {f : FuncId} {fn : Func} {s : ChangeSpec} {conds : List PathCond} {apart fresh handsOn again : Bool} {X : World → Array Value → Prop}
    (hX : ∀ (w w' : World) (args : Array Value), w.heap = w'.heap → X w args → X w' args)
    (own : ownKnob C.prog.godebug = none) (started : os.Started) (noInit : C.prog.inits.idxOf? f = none) (hfn : C.prog.funcs[f]? = some fn)
    (witness : ∃ (w : World) (tape : Tape) (i : Input), w.os = os ∧ (w.forCall tape i).Shaped C.prog ∧ i.vars = [] ∧ Input.okWide C.prog (w.forCall tape i) .any w.heap.size f i ∧
      ((s.pre enc C.prog fn conds apart (w.forCall tape i).memory i.args ∧ X (w.forCall tape i).memory i.args) ∧ sizedMet enc C.prog fn (OpenSpec.ofChange s) apart (w.forCall tape i).memory i.args) ∧ a.holds C.prog (lone (Frame.enter C.prog f i.args .normal) [] (w.forCall tape i)))
    (contract : ∀ (W : World) (base : Nat) (args : Array Value) (ds gs : List (DataW H)) (before : List MemPlace),
      (∀ (j : Nat) t v, fn.params[j]? = some t → args[j]? = some v → Value.okWide C.prog W .any base t v) →
      DataW.Whole enc C.prog fn.params.toList s.vars apart W args.toList ds gs before →
      conds.all (PathCond.test C.prog ⟨fn.params.toList, ds, s.plain.varTypes C.prog, gs⟩) = true →
      (DataW.weightsEach C.prog (fn.params.toList ++ s.plain.varTypes C.prog) (ds ++ gs)).all (· ≤ reachBytes) = true → X W args → W.ShapedOpen C.prog →
      a.holds C.prog (lone (Frame.enter C.prog f args .normal) [] W) →
      Calls C.prog f args W fun e W' => ∃ v, e = .returned v ∧ s.post enc C.prog fn apart fresh handsOn again W args v W') :
    ReturnsInHanded a C os f .any (fun w args => (s.pre enc C.prog fn conds apart w args ∧ X w args) ∧ sizedMet enc C.prog fn (OpenSpec.ofChange s) apart w args) (s.post enc C.prog fn apart fresh handsOn again) := by
  refine returnsInHanded_of_calls own started noInit witness ?_
  intro w tape i _ hsh _ hok hpre hholds
  obtain ⟨_, _, _, fn', hfn', _, _, _, _, hval⟩ := hok
  have e : fn' = fn := Option.some.inj (hfn'.symm.trans hfn)
  subst e
  obtain ⟨⟨⟨ds, gs, before, hw, hc⟩, hx⟩, hz⟩ := hpre
  have hw' := DataW.Whole.of_heap (w' := w.forCall tape i) (by rfl) hw
  refine (contract (w.forCall tape i) w.heap.size i.args ds gs before hval hw' hc (hz.weights hw) (hX _ _ _ (by rfl) hx) hsh hholds).mono fun e W' ⟨v, he, hp⟩ => ?_
  subst he
  exact ChangeSpec.post_blind hp
theorem tab_of_reads {w : World} (h : Lib.VarReads Tryd.prog w "internal/strconv.uint64pow10" (Lib.tabData .u64 Lib.pow10Tab)) : Lib.TabIs Tryd.prog w "internal/strconv.uint64pow10" .u64 Lib.pow10Tab := by
  obtain ⟨g', t', cs, fuel, p, hg', ht', hvar, hd⟩ := h
  obtain rfl := Option.some.inj ((show Tryd.prog.globalNamed "internal/strconv.uint64pow10" = some 1 by kernel_rfl).symm.trans hg')
  obtain rfl := Option.some.inj ((show (Tryd.prog.globals[1]?).map (·.type) = some 116 by kernel_rfl).symm.trans ht')
  unfold Lib.TabIs
  rw [hvar, ← Lib.cells_of_tab (n := 20) (e := 99) (show Tryd.prog.underlying 116 = some (.array 20 99) by kernel_rfl) (show Tryd.prog.underlying 99 = some (.int .u64) by kernel_rfl) (by kernel_rfl) (by kernel_rfl) hd]
theorem trod_ifc {P : Program} {w : World} {enc : TypeId × Value → Unit} {sp : Nat → Bool} {t : TypeId} {ms : Array (String × TypeId)} (hi : P.underlying t = some (.interface ms)) {d : DataW Unit} {p : List MemPlace} : ∀ {fuel : Nat} {cs : List Value}, DataW.trod enc P w 0 sp false fuel t cs = some (d, p) → ∃ v, cs = [v] ∧ (v = .nilIface ∨ ∃ te pe, v = .iface te pe)
  | 0, _, h => by simp [DataW.trod] at h
  | fuel + 1, [], h => by simp [DataW.trod, hi] at h
  | fuel + 1, [v], h => by cases v <;> simp [DataW.trod, hi] at h ⊢
  | fuel + 1, v :: v' :: r, h => by simp [DataW.trod, hi] at h
theorem ifc_of_reads {w : World} {n : String} {g : Nat} {d : DataW Unit} (hg : Tryd.prog.globalNamed n = some g) (ht : (Tryd.prog.globals[g]?).map (·.type) = some 78) (h : Lib.VarReads Tryd.prog w n d) : IfcAt w g := by
  obtain ⟨g', t', cs, fuel, p, hg', ht', hvar, hd⟩ := h
  obtain rfl := Option.some.inj (hg.symm.trans hg')
  obtain rfl := Option.some.inj (ht.symm.trans ht')
  obtain ⟨v, hv, hk⟩ := trod_ifc Tryd.underlying78 hd
  have h0 := World.var?_cell hg hvar 0
  have e : cs = #[v] := Array.ext' (by simpa using hv)
  subst e
  exact ⟨v, by simpa using h0, hk⟩
theorem inv_of {w : World} {l : List (String × DataW Unit)} {d1 d2 : DataW Unit} (hn : (l.all fun x => x.2.handleName?.isNone) = true) (hL : laidMetH Tryd.prog l w) (hm : ("internal/strconv.uint64pow10", (Lib.tabData .u64 Lib.pow10Tab : DataW Unit)) ∈ l)
    (h1 : ("strconv.ErrSyntax", d1) ∈ l) (h2 : ("strconv.ErrRange", d2) ∈ l) (hs : w.ShapedOpen Tryd.prog) : Inv w := by
  rw [MakeChecks.laidMetH_plain _ _ _ hn] at hL
  exact ⟨cell_of_shapedOpen_int (P := Tryd.prog) (g := 0) (t := 3) (zero := #[.int .i64 0]) hs (of_decide_eq_true (by kernel_rfl)) (by kernel_rfl) rfl (by kernel_rfl) (by kernel_rfl) (by kernel_rfl), tab_of_reads (Lib.laidMet.reads hL hm),
    ifc_of_reads (by kernel_rfl) (by kernel_rfl) (Lib.laidMet.reads hL h1), ifc_of_reads (by kernel_rfl) (by kernel_rfl) (Lib.laidMet.reads hL h2)⟩
end Go.Pe.Tryd
end
section
namespace Go.Pe
open Go.RowKit Go.ChangeShapes
def All (w : World) (b : Nat) : Prop := b < w.heap.size
theorem cell_lt {w : World} {a : Addr} {v : Value} (h : w.cell? a = some v) : a.block < w.heap.size ∧ a.spot = none := by
  unfold World.cell? at h
  split at h
  · rename_i c el t hb
    refine ⟨(Array.getElem?_eq_some_iff.1 hb).1, ?_⟩
    split at h
    · cases h
    · rename_i hs; simpa using hs
  · cases h
theorem add_spot {a : Addr} (h : a.spot = none) (n : Nat) : a.add n = ⟨a.block, a.off + n, none⟩ := by
  unfold Addr.add
  split
  · rename_i e; subst e; cases a; simp_all
  · rfl
theorem decTys_enc : ∀ (ts : List Ty) (x : tysDen ts), decTys ts (encTys ts x) = some x
  | [], _ => rfl
  | t :: ts, x => by simp only [encTys, decTys, asTy, dite_true, Option.bind_some, decTys_enc ts x.2]
theorem KD.dec_enc : ∀ (k : KD) (x : k.den), k.dec (k.enc x) = some x
  | .one t, x => by simp only [KD.enc, KD.dec, asTy, dite_true]
  | .agg ts, x => by simp only [KD.enc, KD.dec, decTys_enc]
theorem decArgs_enc : ∀ (ks : List KD) (x : argsDen ks), decArgs ks (encArgs ks x) = some x
  | [], _ => rfl
  | k :: ks, x => by simp only [encArgs, decArgs, KD.dec_enc, Option.bind_some, decArgs_enc ks x.2]
theorem law_walk [GI] {P : Program} {f : Nat} {ps : List KD} {F : argsDen ps → Option (argsDen [.one .bool])} (h : Sound P f (pfun F)) (y : argsDen ps) (hF : F y = some (true, ())) {w : World} {vs : List Value} (hgi : GI.inv w)
    (hrep : RepAVs (c0 (All w) w) (encArgs ps y) vs) : Calls P f vs.toArray w fun e w' => e = .returned (.bool true) ∧ Below w.heap.size w w' := by
  obtain ⟨av, hK, _, hc⟩ := h.2 AV (encArgs ps y) some (.d .bool true) (by simp only [pfun, decArgs_enc, Option.bind_some, hF]; rfl) (All w) w vs (fun b hb => hb) hgi (encArgs_closed ps y) hrep
  cases hK
  refine hc.mono fun e w' ⟨v, he, hb, hr⟩ => ?_
  simp only [RepAV, Rep, List.cons.injEq, and_true] at hr
  subst hr
  exact ⟨he, hb⟩
end Go.Pe
end
section
namespace Go.Pe
open Go.RowKit Go.ChangeShapes Go.WideShapes
set_option linter.unusedSectionVars false
variable [GI]

inductive WfV (N : Nat) : V → Prop
  | mk (kind n : Int) (s : List UInt8) (items : List V) (keys : List (List UInt8)) (hk : (Lit.int .i64 kind).wf = true) (hn : (Lit.int .i64 n).wf = true) (hs : s.length ≤ N) (hi : items.length ≤ N) (hks : keys.length ≤ N)
      (hit : ∀ i (h : i < items.length), WfV N items[i]) (hkl : ∀ k ∈ keys, k.length ≤ N) : WfV N (.mk kind n s items keys)
def Wf (N : Nat) : (t : Ty) → t.den → Prop
  | .bool, _ => True
  | .int k, n => (Lit.int k n).wf = true
  | .str, s => s.length ≤ N
  | .list e, xs => xs.length ≤ N ∧ ∀ x ∈ xs, Wf N e x
  | .unit, _ => True
  | .prod a b, x => Wf N a x.1 ∧ Wf N b x.2
  | .value, x => WfV N x

def layTys (P : Program) (f : Nat → Option Ty) (total : Nat) : Nat → List (Nat × Nat) → Option Ty
  | off, [] => if off = total then some .unit else none
  | off, [(t, o)] => if o = off ∧ off + P.cellsOf t = total then (f t).bind fun a => if a.size = P.cellsOf t then some a else none else none
  | off, (t, o) :: r => if o = off then (f t).bind fun a => if a.size = P.cellsOf t then (layTys P f total (off + P.cellsOf t) r).bind fun b => some (.prod a b) else none else none
def isInt64 (P : Program) (t : Nat) : Bool := match P.underlying t with | some (.int .i64) => true | _ => false
def isString (P : Program) (t : Nat) : Bool := match P.underlying t with | some .string => true | _ => false
def sliceEl (P : Program) (t : Nat) : Option Nat := match P.underlying t with | some (.slice e) => some e | _ => none
def vtOk (P : Program) (vt : Nat) : Bool :=
  match P.underlying vt with
  | some (.struct fs) => (match fs.toList.map fun f => (f.type, f.offset) with
    | [(t1, 0), (t2, 1), (t3, 2), (t4, 3), (t5, 4)] => isInt64 P t1 && isInt64 P t2 && isString P t3 && (match sliceEl P t4 with | some e => Nat.beq e vt | none => false) && (match sliceEl P t5 with | some e => isString P e && Nat.beq (P.cellsOf e) 1 && Nat.ble 1 (P.bytesOf e) | none => false) &&
      Nat.beq (P.cellsOf t1) 1 && Nat.beq (P.cellsOf t2) 1 && Nat.beq (P.cellsOf t3) 1 && Nat.beq (P.cellsOf t4) 1 && Nat.beq (P.cellsOf t5) 1 && Nat.beq (P.cellsOf vt) 5 && Nat.ble 1 (P.bytesOf vt)
    | _ => false)
  | _ => false
def lay (P : Program) (vt : Nat) : Nat → Nat → Option Ty
  | 0, _ => none
  | n + 1, t => if t = vt then (if vtOk P vt = true then some .value else none) else match P.underlying t with
    | some .bool => some .bool
    | some (.int k) => some (.int k)
    | some .string => some .str
    | some (.slice e) => if 1 ≤ P.bytesOf e ∧ 1 ≤ P.cellsOf e then (lay P vt n e).bind fun ty => if ty.size = P.cellsOf e then some (.list ty) else none else none
    | some (.struct fs) => layTys P (lay P vt n) (P.cellsOf t) 0 (fs.toList.map fun f => (f.type, f.offset))
    | _ => none

section
variable {H : Type} {enc : TypeId × Value → H} {P : Program} {w : World} {base : Nat} {spare : Nat → Bool} {held : Bool} {N vt : Nat}

theorem rows_of {α : Type} {R : α → List Value → Prop} {W : α → Prop} {sz blk : Nat} : ∀ (len off : Nat), (∀ i, i < len → ∃ x c, R x c ∧ W x ∧ c.length = sz ∧ ∀ j, j < sz → w.cell? ⟨blk, off + i * sz + j, none⟩ = c[j]?) →
    ∃ (xs : List α) (us : List Value), xs.length = len ∧ (∀ x ∈ xs, W x) ∧ us.length = len * sz ∧ CellsAt w ⟨blk, off, none⟩ us ∧ RepAll R xs us
  | 0, off, _ => ⟨[], [], rfl, by simp, by simp, fun j hj => by simp at hj, rfl⟩
  | len + 1, off, h => by
    obtain ⟨x, c, h1, h2, h3, h4⟩ := h 0 (by omega)
    obtain ⟨xs, us, g1, g2, g3, g4, g5⟩ := rows_of len (off + sz) fun i hi => by
      obtain ⟨x, c, h1, h2, h3, h4⟩ := h (i + 1) (by omega)
      refine ⟨x, c, h1, h2, h3, fun j hj => ?_⟩
      rw [← h4 j hj, show off + sz + i * sz + j = off + (i + 1) * sz + j by rw [Nat.succ_mul]; omega]
    refine ⟨x :: xs, c ++ us, by simp [g1], by simpa using ⟨h2, g2⟩, by simp [g3, h3, Nat.succ_mul]; omega, fun j hj => ?_, c, us, rfl, h1, g5⟩
    simp only [List.length_append] at hj
    rcases Nat.lt_or_ge j sz with hl | hl
    · rw [List.getElem?_append_left (by omega), ← h4 j hl]; simp
    · rw [List.getElem?_append_right (by omega)]
      have := g4 (j - c.length) (by omega)
      simp only at this
      rw [← this, show off + sz + (j - c.length) = off + j by omega]

theorem slice_rep {ty : Ty} {e t fuel : Nat} {cs : List Value} {d : DataW H} {ps : List MemPlace} (ht : P.underlying t = some (.slice e)) (hb : 1 ≤ P.bytesOf e) (hc : 1 ≤ P.cellsOf e) (hsz : ty.size = P.cellsOf e)
    (ih : ∀ m, m < fuel → ∀ (cs : List Value) (d : DataW H) (ps : List MemPlace), DataW.trod enc P w base spare held m e cs = some (d, ps) → (∀ m ∈ d.weights P e, m ≤ N) → ∃ x, Rep (All w) w ty x cs ∧ Wf N ty x)
    (h : DataW.trod enc P w base spare held fuel t cs = some (d, ps)) (hw : ∀ m ∈ d.weights P t, m ≤ N) : ∃ x, Rep (All w) w (.list ty) x cs ∧ Wf N (.list ty) x := by
  rcases DataW.trod_slice ht h with ⟨rfl, hx⟩ | ⟨a, len, cap, elems, rest, n, hf, rfl, hx, _, hlc, _, hel, hat, _, _⟩
  · exact ⟨[], ⟨_, rfl, none, 0, rfl, Nat.le_refl _, .inl rfl⟩, by simp [Wf]⟩
  · have hd : d = .slice (elems.map (·.1)) (rest.map (·.1)) := congrArg Prod.fst hx
    subst hd
    simp only [DataW.weights, ht, List.mem_cons, List.mem_append] at hw
    have hlen : len ≤ N := by
      have := hw _ (.inl rfl)
      have h2 : len * 1 ≤ (elems.length + rest.length) * P.bytesOf e := Nat.mul_le_mul (by omega) hb
      simp only [List.length_map] at this
      omega
    have key : ∀ i, i < len → ∃ x c, Rep (All w) w ty x c ∧ Wf N ty x ∧ c.length = P.cellsOf e ∧ ∀ j, j < P.cellsOf e → w.cell? ((a.add (i * P.cellsOf e)).add j) = c[j]? := by
      intro i hi
      have h1 := hat i hi
      rw [List.getElem?_eq_getElem (by omega), Option.bind_eq_some_iff] at h1
      obtain ⟨c, hc1, hc2⟩ := h1
      obtain ⟨_, hc3, hc4⟩ := World.cells?_some hc1
      obtain ⟨x, hx1, hx2⟩ := ih n (by omega) c (elems[i]).1 (elems[i]).2 hc2 fun m hm => hw m (.inr (.inl (by
        have : ∀ (l : List (DataW H)) (d : DataW H), d ∈ l → m ∈ d.weights P e → m ∈ DataW.weightsAll P e l := by
          intro l; induction l with
          | nil => intro d hd; simp at hd
          | cons y l ih => intro d hd hm; simp only [DataW.weightsAll, List.mem_append]; exact (List.mem_cons.1 hd).elim (fun e => .inl (e ▸ hm)) (fun hd => .inr (ih d hd hm))
        exact this _ _ (List.mem_map_of_mem (List.getElem_mem (l := elems) (by omega))) hm)))
      exact ⟨x, c, hx1, hx2, hc3, hc4⟩
    rcases Nat.eq_zero_or_pos len with h0 | h0
    · subst h0
      exact ⟨[], ⟨_, rfl, some a, cap, rfl, by simp, .inl rfl⟩, by simp [Wf]⟩
    · obtain ⟨x, c, _, _, hcl, hcc⟩ := key 0 h0
      have h00 := hcc 0 (by omega)
      rw [List.getElem?_eq_getElem (by omega)] at h00
      have ha : a.block < w.heap.size ∧ a.spot = none := by
        have h1 : (a.add (0 * P.cellsOf e)).add 0 = a := by simp [Addr.add]
        rw [h1] at h00
        exact cell_lt h00
      obtain ⟨xs, us, g1, g2, g3, g4, g5⟩ := rows_of (w := w) (R := Rep (All w) w ty) (W := Wf N ty) (sz := P.cellsOf e) (blk := a.block) len a.off fun i hi => by
        obtain ⟨x, c, h1, h2, h3, h4⟩ := key i hi
        refine ⟨x, c, h1, h2, h3, fun j hj => ?_⟩
        rw [← h4 j hj, add_spot ha.2, add_spot rfl]
      refine ⟨xs, ⟨_, rfl, some a, cap, by rw [g1], by omega, .inr ⟨a, us, rfl, ha.2, ha.1, ?_, g5⟩⟩, ?_⟩
      · intro j hj
        exact g4 j hj
      · simp only [Wf]; exact ⟨by omega, g2⟩

theorem mem_each : ∀ {ts : List TypeId} {ds : List (DataW H)} {t d} {m : Nat}, m ∈ DataW.weights P t d → m ∈ DataW.weightsEach P (t :: ts) (d :: ds) := by
  intro ts ds t d m h
  simp only [DataW.weightsEach, List.mem_append]; exact .inl h
theorem mem_each' : ∀ {ts : List TypeId} {ds : List (DataW H)} {t d} {m : Nat}, m ∈ DataW.weightsEach P ts ds → m ∈ DataW.weightsEach P (t :: ts) (d :: ds) := by
  intro ts ds t d m h
  simp only [DataW.weightsEach, List.mem_append]; exact .inr h

theorem fields_rep {f : Nat → Option Ty} {fuel total : Nat} {cs : List Value} (hlen : cs.length = total)
    (ih : ∀ t ty (cs : List Value) (d : DataW H) (ps : List MemPlace), f t = some ty → DataW.trod enc P w base spare held fuel t cs = some (d, ps) → (∀ m ∈ d.weights P t, m ≤ N) → ∃ x, Rep (All w) w ty x cs ∧ Wf N ty x) :
    ∀ (fs : List Field) (off : Nat) (ty : Ty) (xs : List (DataW H × List MemPlace)), layTys P f total off (fs.map fun f => (f.type, f.offset)) = some ty →
      (fs.mapM fun f => DataW.trod enc P w base spare held fuel f.type ((cs.drop f.offset).take (P.cellsOf f.type))) = some xs →
      (∀ m ∈ DataW.weightsEach P (fs.map (·.type)) (xs.map (·.1)), m ≤ N) → ∃ x, Rep (All w) w ty x (cs.drop off) ∧ Wf N ty x
  | [], off, ty, xs, hl, hm, hw => by
    simp only [List.map_nil, layTys] at hl
    split at hl
    · rename_i ho; cases hl
      exact ⟨(), by simp only [Rep]; exact List.drop_of_length_le (by omega), trivial⟩
    · cases hl
  | [fd], off, ty, xs, hl, hm, hw => by
    simp only [List.map_cons, List.map_nil, layTys] at hl
    split at hl
    · rename_i ho
      simp only [Option.bind_eq_some_iff] at hl
      obtain ⟨a, ha, hl⟩ := hl
      split at hl
      · rename_i hs; cases hl
        simp only [List.mapM_cons, List.mapM_nil, Option.pure_def, Option.bind_eq_bind, Option.bind_eq_some_iff, Option.some.injEq] at hm
        obtain ⟨y, hy, ys, rfl, rfl⟩ := hm
        obtain ⟨x, h1, h2⟩ := ih fd.type _ _ y.1 y.2 ha hy fun m hm => hw m (by simpa [DataW.weightsEach] using hm)
        refine ⟨x, ?_, h2⟩
        rw [ho.1] at h1
        rwa [List.take_of_length_le (by rw [List.length_drop]; omega)] at h1
      · cases hl
    · cases hl
  | fd :: fd2 :: fs, off, ty, xs, hl, hm, hw => by
    simp only [List.map_cons, layTys] at hl
    split at hl
    · rename_i ho
      simp only [Option.bind_eq_some_iff] at hl
      obtain ⟨a, ha, hl⟩ := hl
      split at hl
      · rename_i hs
        simp only [Option.bind_eq_some_iff, Option.some.injEq] at hl
        obtain ⟨b, hb, rfl⟩ := hl
        rw [List.mapM_cons] at hm
        simp only [Option.pure_def, Option.bind_eq_bind, Option.bind_eq_some_iff, Option.some.injEq] at hm
        obtain ⟨y, hy, ys, hys, rfl⟩ := hm
        obtain ⟨x, h1, h2⟩ := ih fd.type _ _ y.1 y.2 ha hy fun m hm => hw m (by simp only [List.map_cons]; exact mem_each hm)
        obtain ⟨x', h3, h4⟩ := fields_rep hlen ih (fd2 :: fs) (off + P.cellsOf fd.type) b ys (by simpa only [List.map_cons] using hb) hys fun m hm => hw m (by simp only [List.map_cons] at hm ⊢; exact mem_each' hm)
        refine ⟨(x, x'), ⟨_, _, ?_, h1, h3⟩, h2, h4⟩
        rw [ho, ← List.drop_drop, List.take_append_drop]
      · cases hl
    · cases hl

theorem trod_bool {t fuel : Nat} {cs : List Value} {d : DataW H} {ps} (ht : P.underlying t = some .bool) (h : DataW.trod enc P w base spare held fuel t cs = some (d, ps)) : ∃ b, cs = [.bool b] := by
  cases fuel with
  | zero => simp [DataW.trod] at h
  | succ n => unfold DataW.trod at h; rw [ht] at h; split at h <;> simp_all
theorem trod_int {t fuel : Nat} {cs : List Value} {d : DataW H} {ps} {k} (ht : P.underlying t = some (.int k)) (h : DataW.trod enc P w base spare held fuel t cs = some (d, ps)) : ∃ n, cs = [.int k n] ∧ (Lit.int k n).wf = true := by
  cases fuel with
  | zero => simp [DataW.trod] at h
  | succ n => unfold DataW.trod at h; rw [ht] at h; split at h <;> simp_all
theorem trod_str {t fuel : Nat} {cs : List Value} {d : DataW H} {ps} (ht : P.underlying t = some .string) (h : DataW.trod enc P w base spare held fuel t cs = some (d, ps)) : ∃ s : ByteArray, cs = [.string s] ∧ d = .lit (.string s.data.toList) := by
  cases fuel with
  | zero => simp [DataW.trod] at h
  | succ n => unfold DataW.trod at h; rw [ht] at h; split at h <;> simp_all
theorem trod_struct {t fuel : Nat} {cs : List Value} {d : DataW H} {ps} {fs : Array Field} (ht : P.underlying t = some (.struct fs)) (h : DataW.trod enc P w base spare held fuel t cs = some (d, ps)) :
    ∃ n xs, fuel = n + 1 ∧ cs.length = P.cellsOf t ∧ (fs.toList.mapM fun f => DataW.trod enc P w base spare held n f.type ((cs.drop f.offset).take (P.cellsOf f.type))) = some xs ∧ d = .agg (xs.map (·.1)) := by
  cases fuel with
  | zero => simp [DataW.trod] at h
  | succ n =>
    unfold DataW.trod at h
    rw [ht] at h
    simp only at h
    split at h
    · rename_i hc
      simp only [Option.map_eq_some_iff] at h
      obtain ⟨xs, hx, he⟩ := h
      exact ⟨n, xs, rfl, hc, hx, (congrArg Prod.fst he).symm⟩
    · cases h

theorem str_rep {t fuel : Nat} {cs : List Value} {d : DataW H} {ps} (ht : P.underlying t = some .string) (h : DataW.trod enc P w base spare held fuel t cs = some (d, ps)) (hw : ∀ m ∈ d.weights P t, m ≤ N) : ∃ x, Rep (All w) w .str x cs ∧ Wf N .str x := by
  obtain ⟨s, rfl, rfl⟩ := trod_str ht h
  exact ⟨s.data.toList, by simp [Rep], hw _ (by simp [DataW.weights])⟩

theorem beq_imp {a b : Nat} (h : Nat.beq a b = true) : a = b := Nat.eq_of_beq_eq_true h
theorem value_rep (hv : vtOk P vt = true) : ∀ (fuel : Nat) (cs : List Value) (d : DataW H) (ps : List MemPlace), DataW.trod enc P w base spare held fuel vt cs = some (d, ps) → (∀ m ∈ d.weights P vt, m ≤ N) →
    ∃ x, Rep (All w) w .value x cs ∧ Wf N .value x := by
  intro fuel
  induction fuel using Nat.strongRecOn with
  | _ fuel IH =>
  intro cs d ps h hw
  unfold vtOk at hv
  split at hv
  · rename_i fs hfs
    split at hv
    · rename_i t1 t2 t3 t4 t5 hl
      simp only [Bool.and_eq_true] at hv
      obtain ⟨⟨⟨⟨⟨⟨⟨⟨⟨⟨⟨v1, v2⟩, v3⟩, v4⟩, v5⟩, c1⟩, c2⟩, c3⟩, c4⟩, c5⟩, c6⟩, c7⟩ := hv
      have c1 := beq_imp c1; have c2 := beq_imp c2; have c3 := beq_imp c3; have c4 := beq_imp c4; have c5 := beq_imp c5; have c6 := beq_imp c6
      have c7 := Nat.le_of_ble_eq_true c7
      have u1 : P.underlying t1 = some (.int .i64) := by unfold isInt64 at v1; split at v1; assumption; cases v1
      have u2 : P.underlying t2 = some (.int .i64) := by unfold isInt64 at v2; split at v2; assumption; cases v2
      have u3 : P.underlying t3 = some .string := by unfold isString at v3; split at v3; assumption; cases v3
      have u4 : P.underlying t4 = some (.slice vt) := by
        unfold sliceEl at v4
        split at v4
        · rename_i e he
          split at he
          · rename_i e' hu; cases he; rw [hu, beq_imp v4]
          · cases he
        · cases v4
      obtain ⟨ts, u5, u6, c8, c9⟩ : ∃ ts, P.underlying t5 = some (.slice ts) ∧ P.underlying ts = some .string ∧ P.cellsOf ts = 1 ∧ 1 ≤ P.bytesOf ts := by
        unfold sliceEl at v5
        split at v5
        · rename_i e he
          split at he
          · rename_i e' hu; cases he
            simp only [Bool.and_eq_true] at v5
            refine ⟨e, hu, ?_, beq_imp v5.1.2, Nat.le_of_ble_eq_true v5.2⟩
            have v6 := v5.1.1
            unfold isString at v6; split at v6
            · assumption
            · cases v6
          · cases he
        · cases v5
      obtain ⟨n, xs, rfl, hlen, hm, rfl⟩ := trod_struct hfs h
      rcases fs with ⟨fl⟩
      have hl' : fl.map (fun f => (f.type, f.offset)) = [(t1, 0), (t2, 1), (t3, 2), (t4, 3), (t5, 4)] := hl
      rcases fl with _ | ⟨f1, _ | ⟨f2, _ | ⟨f3, _ | ⟨f4, _ | ⟨f5, _ | ⟨f6, fl⟩⟩⟩⟩⟩⟩ <;> simp only [List.map_cons, List.map_nil, List.cons.injEq, Prod.mk.injEq, reduceCtorEq, and_false, List.nil_eq, and_true] at hl'
      obtain ⟨⟨e1, o1⟩, ⟨e2, o2⟩, ⟨e3, o3⟩, ⟨e4, o4⟩, e5, o5⟩ := hl'
      simp only [List.mapM_cons, List.mapM_nil, Option.pure_def, Option.bind_eq_bind, Option.bind_eq_some_iff, Option.some.injEq, e1, e2, e3, e4, e5, o1, o2, o3, o4, o5, c1, c2, c3, c4, c5] at hm
      obtain ⟨y1, h1, z1, ⟨y2, h2, z2, ⟨y3, h3, z3, ⟨y4, h4, z4, ⟨y5, h5, z5, rfl, rfl⟩, rfl⟩, rfl⟩, rfl⟩, rfl⟩ := hm
      have hw' : ∀ m ∈ DataW.weightsEach P [t1, t2, t3, t4, t5] [y1.1, y2.1, y3.1, y4.1, y5.1], m ≤ N := by
        intro m hm
        apply hw
        simp only [DataW.weights, hfs]
        simpa [e1, e2, e3, e4, e5] using hm
      rw [c6] at hlen
      rcases cs with _ | ⟨a1, _ | ⟨a2, _ | ⟨a3, _ | ⟨a4, _ | ⟨a5, _ | ⟨a6, cs⟩⟩⟩⟩⟩⟩ <;> simp only [List.length_cons, List.length_nil] at hlen <;> try omega
      simp only [List.drop_succ_cons, List.drop_zero, List.take_succ_cons, List.take_zero] at h1 h2 h3 h4 h5
      obtain ⟨n1, q1, w1⟩ := trod_int u1 h1
      obtain ⟨n2, q2, w2⟩ := trod_int u2 h2
      obtain ⟨x3, r3, w3⟩ := str_rep (N := N) u3 h3 fun m hm => hw' m (by simp only [DataW.weightsEach, List.mem_append]; exact .inr (.inr (.inl hm)))
      obtain ⟨x4, r4, w4⟩ := slice_rep (N := N) (ty := .value) u4 c7 (by omega) (by rw [c6]; rfl) (fun m hm cs d ps h hw => IH m (by omega) cs d ps h hw) h4 fun m hm => hw' m (by simp only [DataW.weightsEach, List.mem_append]; exact .inr (.inr (.inr (.inl hm))))
      obtain ⟨x5, r5, w5⟩ := slice_rep (N := N) (ty := .str) u5 c9 (by omega) (by rw [c8]; rfl) (fun m hm cs d ps h hw => str_rep u6 h hw) h5 fun m hm => hw' m (by simp only [DataW.weightsEach, List.mem_append]; exact .inr (.inr (.inr (.inr (.inl hm)))))
      simp only [List.cons.injEq, and_true] at q1 q2
      subst q1; subst q2
      simp only [Rep, List.cons.injEq, and_true] at r3
      subst r3
      obtain ⟨v4', e4', a, cap, rfl, hcap, hmem⟩ := r4
      simp only [List.cons.injEq, and_true] at e4'
      subst e4'
      obtain ⟨v5', e5', hs5⟩ := r5
      simp only [List.cons.injEq, and_true] at e5'
      subst e5'
      have w4' : x4.length ≤ N ∧ ∀ x ∈ x4, WfV N x := by simpa only [Wf] using w4
      have w5' : x5.length ≤ N ∧ ∀ x ∈ x5, x.length ≤ N := by simpa only [Wf] using w5
      refine ⟨.mk n1 n2 x3 x4 x5, ?_, ?_⟩
      · simp only [Rep]
        have hs5' : SliceRep (All w) w (fun k vs => vs = [Value.string ⟨k.toArray⟩]) x5 a5 := by
          refine hs5.imp (fun _ h => h) (fun _ _ => rfl) fun x u h => by simpa only [Rep] using h
        rcases hmem with rfl | ⟨ad, us, rfl, hsp, hA, hcells, hall⟩
        · exact .mk n1 n2 x3 [] x5 a cap a5 (fun _ => []) hcap (.inl rfl) (fun i h => by simp at h) hs5'
        · have hsz : ∀ (x : V) (u : List Value), Rep (All w) w .value x u → u.length = 5 := fun x u h => RepV.length h
          have hul : us.length = x4.length * 5 := RepAll.length (sz := 5) hsz hall
          refine .mk n1 n2 x3 x4 x5 (some ad) cap a5 (fun i => (us.drop (i * 5)).take 5) hcap (.inr ⟨ad, rfl, hsp, hA, fun i hi => ⟨by simp [hul]; omega, fun j hj => ?_⟩⟩) (fun i hi => ?_) hs5'
          · rw [List.getElem?_take_of_lt hj, List.getElem?_drop]
            exact hcells (i * 5 + j) (by omega)
          · obtain ⟨p, u, q, he, hp, hr⟩ := RepAll.get (sz := 5) hsz i x4[i] hall (List.getElem?_eq_getElem hi)
            have hu := hsz _ _ hr
            rw [he, List.drop_append_of_le_length (by omega), List.drop_of_length_le (l := p) (by omega), List.nil_append, List.take_append_of_le_length (by omega), List.take_of_length_le (by omega)]
            simpa only [Rep] using hr
      · simp only [Wf]
        exact .mk _ _ _ _ _ w1 w2 w3 w4'.1 w5'.1 (fun i hi => w4'.2 _ (List.getElem_mem hi)) w5'.2
    · cases hv
  · cases hv

theorem trod_rep : ∀ (fuel n t : Nat) (ty : Ty) (cs : List Value) (d : DataW H) (ps : List MemPlace), lay P vt n t = some ty → DataW.trod enc P w base spare held fuel t cs = some (d, ps) → (∀ m ∈ d.weights P t, m ≤ N) →
    ∃ x, Rep (All w) w ty x cs ∧ Wf N ty x := by
  intro fuel
  induction fuel using Nat.strongRecOn with
  | _ fuel IH =>
  intro n t ty cs d ps hl h hw
  cases n with
  | zero => simp [lay] at hl
  | succ n =>
    unfold lay at hl
    split at hl
    · rename_i e; subst e
      split at hl
      · rename_i hv; cases hl; exact value_rep hv fuel cs d ps h hw
      · cases hl
    · split at hl
      · rename_i ht; cases hl
        obtain ⟨b, rfl⟩ := trod_bool ht h
        exact ⟨b, rfl, trivial⟩
      · rename_i k ht; cases hl
        obtain ⟨m, rfl, h1⟩ := trod_int ht h
        exact ⟨m, rfl, h1⟩
      · rename_i ht; cases hl
        exact str_rep ht h hw
      · rename_i e ht
        split at hl
        · rename_i hb
          simp only [Option.bind_eq_some_iff] at hl
          obtain ⟨ty', h1, hl⟩ := hl
          split at hl
          · rename_i hs; cases hl
            exact slice_rep ht hb.1 hb.2 hs (fun m hm cs d ps h hw => IH m hm n e ty' cs d ps h1 h hw) h hw
          · cases hl
        · cases hl
      · rename_i fs ht
        obtain ⟨m, xs, rfl, hlen, hm, rfl⟩ := trod_struct ht h
        have := fields_rep (N := N) hlen (fun t ty cs d ps h1 h2 h3 => IH m (by omega) n t ty cs d ps h1 h2 h3) fs.toList 0 ty xs hl hm fun m hm => hw m (by simpa only [DataW.weights, ht] using hm)
        simpa only [List.drop_zero] using this
      · cases hl

theorem open_agg {t n : Nat} {cs : Array Value} {ty : Ty} {d : DataW H} {ps} (hl : lay P vt n t = some ty) (h : DataW.Trod enc P w 0 spare held t (.agg cs) d ps) (hw : ∀ m ∈ d.weights P t, m ≤ N) :
    ∃ x, RepAV (c0 (All w) w) (.agg (unpack ty x)) (.agg cs) ∧ Wf N ty x := by
  obtain ⟨fuel, h⟩ := h
  obtain ⟨x, h1, h2⟩ := trod_rep fuel n t ty _ _ _ hl h hw
  refine ⟨x, ?_, h2⟩
  simp only [RepAV]
  exact ⟨cs, rfl, unpack_rep h1⟩
end
end Go.Pe
end
