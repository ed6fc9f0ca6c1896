/- Texts of the proof, what is used of them: S1, S2, S3, S4, S5, S6, S7, S9, CardTrysd, Open, Open2. -/
import Derived.Lib.ItoaLen
import Derived.Lib.ItoaMem
import Derived.Lib.Join
import Derived.Lib.LaidU8
import Derived.Lib.LaidTab
import Derived.Shelf.Vars
import Derived.HandedShaped
import Derived.Handed
import Derived.Lay
import Derived.MakeChecks
import Derived.SliceStrings
import Derived.SizedLaws
import Derived.WideShapes
import Derived.Test.YtnbjnnnmoadpcaaDoorPeZSBack5
section
namespace Go.Pe
open Go.Lib
set_option linter.unusedSectionVars false
set_option linter.unusedVariables false
set_option linter.unusedSimpArgs false

theorem parse_snoc : ∀ (l : List UInt8) (acc v d : Nat), parseUint10 acc l = .ok v → v < 1844674407370955161 → d < 10 → parseUint10 acc (l ++ [UInt8.ofNat (48 + d)]) = .ok (v * 10 + d)
  | [], acc, v, d, h, hv, hd => by
    simp only [parseUint10, NumEnd.ok.injEq] at h
    subst h
    have e : (UInt8.ofNat (48 + d)).toNat = 48 + d := by simp [UInt8.toNat_ofNat']; omega
    simp only [List.nil_append, parseUint10, e]
    rw [if_pos (by omega), if_neg (by omega), if_neg (by omega)]
    simp
  | c :: l, acc, v, d, h, hv, hd => by
    simp only [parseUint10] at h
    simp only [List.cons_append, parseUint10]
    split at h
    · rename_i hc
      rw [if_pos hc]
      split at h
      · cases h
      · rename_i h1
        rw [if_neg h1]
        split at h
        · cases h
        · rename_i h2
          rw [if_neg h2]
          exact parse_snoc l _ v d h hv hd
    · cases h
theorem dec_ne (u : Nat) : decDigits u ≠ [] := by
  unfold decDigits
  split
  · simp
  · simp
theorem dec_digit (u : Nat) : ∀ c ∈ decDigits u, 48 ≤ c.toNat ∧ c.toNat ≤ 57 := by
  induction u using Nat.strongRecOn with
  | ind u ih =>
    intro c hc
    unfold decDigits at hc
    split at hc
    · rename_i h
      simp only [List.mem_singleton] at hc
      subst hc
      have : (UInt8.ofNat (48 + u)).toNat = 48 + u := by simp [UInt8.toNat_ofNat']; omega
      omega
    · rename_i h
      rcases List.mem_append.1 hc with hc | hc
      · exact ih (u / 10) (by omega) c hc
      · simp only [List.mem_singleton] at hc
        subst hc
        have : (UInt8.ofNat (48 + u % 10)).toNat = 48 + u % 10 := by simp [UInt8.toNat_ofNat']; omega
        omega
theorem parse_dec (u : Nat) : u < 18446744073709551610 → parseUint10 0 (decDigits u) = .ok u := by
  induction u using Nat.strongRecOn with
  | ind u ih =>
    intro hu
    unfold decDigits
    split
    · rename_i h
      have := parse_snoc [] 0 0 u rfl (by omega) h
      simpa using this
    · rename_i h
      have := parse_snoc _ 0 (u / 10) (u % 10) (ih (u / 10) (by omega) (by omega)) (by omega) (by omega)
      rw [this]
      congr 1; omega
theorem numOf_itoa (n : Int) (h0 : 0 ≤ n) (h1 : n < 9223372036854775808) : numOf (itoa n) = n := by
  obtain ⟨u, rfl⟩ := Int.eq_ofNat_of_zero_le h0
  rw [itoa_nonneg]
  have hp := parse_dec u (by omega)
  have hd := dec_digit u
  unfold numOf atoiAll
  cases hc : decDigits u with
  | nil => exact absurd hc (dec_ne u)
  | cons c r =>
    rw [hc] at hp
    have h1' := hd c (by rw [hc]; simp)
    have e : ¬ (c.toNat = 43 ∨ c.toNat = 45) := by omega
    have e2 : ¬ c.toNat = 45 := by omega
    have hm : parseMag (c :: r) = .ok u := by unfold parseMag; rw [if_neg (by simp)]; exact hp
    dsimp only
    rw [if_neg e, hm]
    dsimp only
    rw [if_neg (by omega), if_neg (by omega), if_neg e2]
theorem itoa_digit (n : Int) (h0 : 0 ≤ n) : ∀ c ∈ itoa n, 48 ≤ c.toNat ∧ c.toNat ≤ 57 := by
  obtain ⟨u, rfl⟩ := Int.eq_ofNat_of_zero_le h0
  rw [itoa_nonneg]; exact dec_digit u

theorem index_none {c : UInt8} : ∀ {a : List UInt8}, c ∉ a → index a [c] = -1
  | [], _ => rfl
  | b :: a, h => by
    simp only [List.mem_cons, not_or] at h
    have : (c == b) = false := by simpa using h.1
    unfold index
    simp only [List.isPrefixOf, this, Bool.false_and, Bool.false_eq_true, if_false]
    rw [index_none h.2]; rfl
theorem index_at {c : UInt8} {b : List UInt8} : ∀ {a : List UInt8}, c ∉ a → index (a ++ c :: b) [c] = (a.length : Int)
  | [], _ => by unfold index; simp [List.isPrefixOf]
  | x :: a, h => by
    simp only [List.mem_cons, not_or] at h
    have e1 : (c == x) = false := by simpa using h.1
    have ih := index_at (b := b) h.2
    simp only [List.cons_append]
    unfold index
    simp only [List.isPrefixOf, e1, Bool.false_and, Bool.false_eq_true, if_false, ih]
    rw [if_neg (by simp)]
    simp
theorem mem_part {c : UInt8} : ∀ {s : List UInt8}, c ∈ s → ∃ a b, s = a ++ c :: b ∧ c ∉ a
  | x :: s, h => by
    by_cases e : c = x
    · subst e; exact ⟨[], s, rfl, by simp⟩
    · obtain ⟨a, b, rfl, h2⟩ := mem_part (s := s) (by simpa [e] using h)
      exact ⟨x :: a, b, rfl, by simp [e, h2]⟩
theorem cut_none {c : UInt8} {a : List UInt8} (h : c ∉ a) : Lib.cut a [c] = (a, [], false) := by
  unfold Lib.cut; rw [index_none h, if_neg (by decide)]
theorem cut_at {c : UInt8} {a b : List UInt8} (h : c ∉ a) : Lib.cut (a ++ c :: b) [c] = (a, b, true) := by
  unfold Lib.cut
  rw [index_at h, if_pos (by omega)]
  simp
theorem trim_x (t : List UInt8) : trimPrefix (120 :: t) [120] = t := by simp [trimPrefix, hasPrefix, List.isPrefixOf]

def splitC (c : UInt8) : List UInt8 → List (List UInt8)
  | [] => [[]]
  | b :: l => if b = c then [] :: splitC c l else match splitC c l with
    | w :: ws => (b :: w) :: ws
    | [] => [[b]]
theorem splitC_none {c : UInt8} : ∀ {a : List UInt8}, c ∉ a → splitC c a = [a]
  | [], _ => rfl
  | b :: a, h => by
    simp only [List.mem_cons, not_or] at h
    unfold splitC
    rw [if_neg (Ne.symm h.1), splitC_none h.2]
theorem splitC_at {c : UInt8} {b : List UInt8} : ∀ {a : List UInt8}, c ∉ a → splitC c (a ++ c :: b) = a :: splitC c b
  | [], _ => by simp [splitC]
  | x :: a, h => by
    simp only [List.mem_cons, not_or] at h
    simp only [List.cons_append]
    rw [splitC, if_neg (Ne.symm h.1), splitC_at h.2]
theorem splitK_eq {c : UInt8} : ∀ (n : Nat) (s : List UInt8), s.length ≤ n → splitK [c] 0 (s.count c) s = splitC c s := by
  intro n
  induction n with
  | zero => intro s h; obtain rfl := List.eq_nil_of_length_eq_zero (by omega : s.length = 0); rfl
  | succ n ih =>
    intro s h
    by_cases hc : c ∈ s
    · obtain ⟨a, b, rfl, ha⟩ := mem_part hc
      have e : (a ++ c :: b).count c = b.count c + 1 := by rw [List.count_append, List.count_eq_zero_of_not_mem ha, List.count_cons_self]; omega
      rw [e, splitK, index_at ha, if_neg (by simp), splitC_at ha]
      have e1 : ((a.length : Int).toNat + 0) = a.length := by omega
      have e2 : ((a.length : Int).toNat + ([c] : List UInt8).length) = a.length + 1 := by simp
      rw [e1, e2, List.take_left']
      · rw [show (a ++ c :: b).drop (a.length + 1) = b from by rw [List.drop_append]; simp]
        rw [ih b (by simp at h; omega)]
      · rfl
    · rw [List.count_eq_zero_of_not_mem hc, splitK, splitC_none hc]
theorem split_words (c : UInt8) (s : List UInt8) : (splitB ⟨#[c]⟩ 0 (countB ⟨s.toArray⟩ ⟨#[c]⟩) ⟨s.toArray⟩).map (·.data.toList) = splitC c s := by
  rw [splitB_data]
  show splitK [c] 0 (count s [c]) s = _
  rw [count_one, splitK_eq s.length s (Nat.le_refl _)]
theorem join_two (x y : List UInt8) (r : List (List UInt8)) (c : UInt8) : join (x :: y :: r) [c] = x ++ c :: join (y :: r) [c] := by
  simp [join, List.intercalate]
theorem splitC_join {c : UInt8} : ∀ {ws : List (List UInt8)}, ws ≠ [] → (∀ w ∈ ws, c ∉ w) → splitC c (join ws [c]) = ws
  | [w], _, h => by rw [join_one]; exact splitC_none (h w (by simp))
  | w :: y :: r, _, h => by
    rw [join_two, splitC_at (h w (by simp)), splitC_join (ws := y :: r) (by simp) fun x hx => h x (by simp [hx])]
def D16 : List UInt8 := [48, 49, 50, 51, 52, 53, 54, 55, 56, 57, 97, 98, 99, 100, 101, 102]
def hexD (n : Nat) : UInt8 := if n < 10 then UInt8.ofNat (48 + n) else UInt8.ofNat (87 + n)
def hexB (b : UInt8) : List UInt8 := [hexD (b.toNat / 16), hexD (b.toNat % 16)]
def hex (s : List UInt8) : List UInt8 := s.flatMap hexB
theorem D16_at (n : Nat) (h : n < 16) : D16[n]? = some (hexD n) := by
  have : ∀ n : Fin 16, D16[n.val]? = some (hexD n.val) := by decide
  exact this ⟨n, h⟩
theorem hex_length : ∀ s : List UInt8, (hex s).length = 2 * s.length
  | [] => rfl
  | b :: s => by
    have := hex_length s
    simp only [hex, List.flatMap_cons, List.length_append, List.length_cons] at this ⊢
    simp only [hexB, List.length_cons, List.length_nil]; omega
theorem hexD_not (n : Nat) (h : n < 16) : 48 ≤ (hexD n).toNat := by
  have : ∀ n : Fin 16, 48 ≤ (hexD n.val).toNat := by decide
  exact this ⟨n, h⟩
theorem hex_digit : ∀ (s : List UInt8), ∀ c ∈ hex s, 48 ≤ c.toNat
  | [], c, h => by simp [hex] at h
  | b :: s, c, h => by
    simp only [hex, List.flatMap_cons, List.mem_append] at h
    rcases h with h | h
    · have := b.toNat_lt
      simp only [hexB, List.mem_cons, List.not_mem_nil, or_false] at h
      rcases h with rfl | rfl
      · exact hexD_not _ (by omega)
      · exact hexD_not _ (by omega)
    · exact hex_digit s c h
def unhex : List UInt8 → Option (List UInt8)
  | [] => some []
  | [_] => none
  | a :: b :: l => if indexByte D16 a < 0 ∨ indexByte D16 b < 0 then none else (unhex l).map fun t => UInt8.ofNat ((indexByte D16 a).toNat * 16 + (indexByte D16 b).toNat) :: t
theorem indexD (n : Nat) (h : n < 16) : indexByte D16 (hexD n) = (n : Int) := by
  have : ∀ n : Fin 16, indexByte D16 (hexD n.val) = (n.val : Int) := by decide
  exact this ⟨n, h⟩
theorem unhex_hex : ∀ s : List UInt8, unhex (hex s) = some s
  | [] => rfl
  | b :: s => by
    have hb := b.toNat_lt
    have ih := unhex_hex s
    show unhex (hexD (b.toNat / 16) :: hexD (b.toNat % 16) :: hex s) = _
    rw [unhex, indexD _ (by omega), indexD _ (by omega), if_neg (by omega), ih]
    simp only [Option.map_some, Int.toNat_natCast, Option.some.injEq, List.cons.injEq, and_true]
    have : b.toNat / 16 * 16 + b.toNat % 16 = b.toNat := by omega
    rw [this]; simp
theorem indexD_lt : ∀ c : UInt8, indexByte D16 c < 16 := by
  intro c
  have h : ∀ n : Fin 256, indexByte D16 (UInt8.ofNat n.val) < 16 := by decide +kernel
  have := h ⟨c.toNat, c.toNat_lt⟩
  simpa using this
end Go.Pe
end
section
namespace Go.Pe.Tryd
open Go.Proofs Go.RowKit
set_option maxRecDepth 100000
set_option linter.unusedSimpArgs false
set_option linter.unusedVariables false
theorem inc (i : Nat) (h : i < 9223372036854775807) : IntKind.i64.wrap ((i : Int) + 1) = ((i + 1 : Nat) : Int) := by rw [wrap64 (by omega) (by omega)]; rfl
theorem lt_true {i n : Nat} (h : i < n) : decide ((i : Int) < (n : Int)) = true := by simp; omega
theorem lt_false (n : Nat) : decide ((n : Int) < (n : Int)) = false := by simp
theorem nth_at {α : Type} {l : List α} {i : Nat} (h : i < l.length) : nth l (i : Int) = some l[i] := by
  unfold nth
  rw [if_pos (by omega), Int.toNat_natCast, List.getElem?_eq_getElem h]
theorem nthD (n : Nat) (h : n < 16) : nth ([48, 49, 50, 51, 52, 53, 54, 55, 56, 57, 97, 98, 99, 100, 101, 102] : List UInt8) (n : Int) = some (hexD n) := by
  unfold nth
  rw [if_pos (by omega), Int.toNat_natCast]
  exact D16_at n h
theorem byte_hi (b : UInt8) : Int.fdiv (b.toNat : Int) (2 ^ (min (Int.toNat (4 : Int)) 8)) = ((b.toNat / 16 : Nat) : Int) := by
  have h : ∀ n : Fin 256, Int.fdiv (n.val : Int) (2 ^ (min (Int.toNat (4 : Int)) 8)) = ((n.val / 16 : Nat) : Int) := by decide +kernel
  exact h ⟨b.toNat, b.toNat_lt⟩
theorem byte_lo (b : UInt8) : IntKind.u8.wrap (((BitVec.ofInt 8 (b.toNat : Int) &&& BitVec.ofInt 8 (15 : Int)).toNat : Int)) = ((b.toNat % 16 : Nat) : Int) := by
  have h : ∀ n : Fin 256, IntKind.u8.wrap (((BitVec.ofInt 8 (n.val : Int) &&& BitVec.ofInt 8 (15 : Int)).toNat : Int)) = ((n.val % 16 : Nat) : Int) := by decide +kernel
  exact h ⟨b.toNat, b.toNat_lt⟩
theorem nib (a b : Nat) (ha : a < 16) (hb : b < 16) : IntKind.u8.wrap (IntKind.i64.wrap (((BitVec.ofInt 64 (IntKind.i64.wrap ((a : Int) * 2 ^ (min (Int.toNat (4 : Int)) 64))) ||| BitVec.ofInt 64 (b : Int)).toNat : Int))) = ((UInt8.ofNat (a * 16 + b)).toNat : Int) := by
  have h : ∀ (a b : Fin 16), IntKind.u8.wrap (IntKind.i64.wrap (((BitVec.ofInt 64 (IntKind.i64.wrap ((a.val : Int) * 2 ^ (min (Int.toNat (4 : Int)) 64))) ||| BitVec.ofInt 64 (b.val : Int)).toNat : Int))) = ((UInt8.ofNat (a.val * 16 + b.val)).toNat : Int) := by decide +kernel
  exact h ⟨a, ha⟩ ⟨b, hb⟩
theorem bytesOf_app (a b : List UInt8) : bytesOf (a ++ b) = bytesOf a ++ bytesOf b := by simp [bytesOf]
theorem strOf_bytesOf (a : List UInt8) : strOf (bytesOf a) = a := by
  simp only [strOf, bytesOf, List.map_map]
  have : ((fun n : Int => UInt8.ofNat n.toNat) ∘ fun b : UInt8 => (b.toNat : Int)) = id := by funext b; simp
  rw [this, List.map_id]
theorem bytesOf_len (a : List UInt8) : (bytesOf a).length = a.length := by simp [bytesOf]
theorem wb (c : Int) (l : List Int) (h : l.length < 4294967296) : h52a_F (h52a_y c l) = some (h52a_o_y (l ++ [c])) := by
  rw [h52a_eq]
  show appOk (l.length + [c].length) (some (h52a_o_y (l ++ [c]))) = _
  rw [appOk, if_pos (by simp; omega)]
theorem foldi_hex (l : List UInt8) : ∀ (k : Nat) (s : List Int), foldi (fun _ (s : List Int) (b : UInt8) => s ++ bytesOf (hexB b)) k s l = s ++ bytesOf (hex l) := by
  induction l with
  | nil => intro k s; simp [foldi, hex, bytesOf]
  | cons b l ih =>
    intro k s
    rw [foldi, ih]
    simp only [hex, List.flatMap_cons, bytesOf_app, List.append_assoc]
theorem hex_eq (a : List UInt8) (h : a.length ≤ 900000) : f34_F (a, ()) = some (hex a, ()) := by
  rw [f34_eq]
  have := go_foldi (step := f34_p0_st) (l := a) (fun i s => f34_p0_y a (a.length : Int) (i : Int) s) (fun _ s b => s ++ bytesOf (hexB b)) (fun i s => s.length = 2 * i) (s0 := []) (fin := fun s => some (f34_p0_o0_y s)) rfl
    (fun i s hi hs => ⟨by rw [List.length_append, hs, bytesOf_len]; rfl, fun rec => by
      have hb := a[i].toNat_lt
      rw [f34_p0_eq, lt_true hi, cond_true, nth_at hi, Option.bind_some, byte_hi, nthD _ (by omega), Option.bind_some, wb _ _ (by omega), Option.bind_some, Option.bind_some, byte_lo, nthD _ (by omega), Option.bind_some]
      simp only [h52a_o_l0_y]
      rw [wb _ _ (by simp; omega), Option.bind_some, inc i (by omega)]
      simp only [h52a_o_l0_y]
      rw [List.append_assoc]; rfl⟩) (fun s hs rec => by rw [f34_p0_eq, lt_false, cond_false])
    (by rw [fuel_def]; omega)
  obtain ⟨h1, h2⟩ := this
  rw [show ((0 : Nat) : Int) = 0 from rfl] at h1
  rw [h1, Option.bind_some, foldi_hex]
  simp only [f34_p0_o0_l0_y, List.nil_append]
  have e : h53_F (h53_y (bytesOf (hex a))) = some ((strOf (bytesOf (hex a)), ()), (), ()) := by
    show (if bytesOf (strOf (bytesOf (hex a))) = bytesOf (hex a) ∧ (bytesOf (hex a)).length ≤ 4294967296 then some ((strOf (bytesOf (hex a)), ()), (), ()) else none) = _
    rw [if_pos ⟨by rw [strOf_bytesOf], by rw [bytesOf_len, hex_length]; omega⟩]
  rw [e, Option.bind_some]
  show some (strOf (bytesOf (hex a)), ()) = _
  rw [strOf_bytesOf]
theorem index_eq (c : UInt8) : indexF (([48, 49, 50, 51, 52, 53, 54, 55, 56, 57, 97, 98, 99, 100, 101, 102] : List UInt8), ((c.toNat : Int), ())) = some (Lib.indexByte D16 c, ()) := by
  show some (Lib.indexByte D16 ((c.toNat : Int).toNat.toUInt8), ()) = _
  simp
theorem unhex_loop : ∀ (n : Nat) (x : List UInt8) (l : List Int) (k : Nat), x.length ≤ n → x.length + 1 ≤ k → l.length + x.length ≤ 4294967296 →
    (unhex x = none → (∃ r, iter f57_p1_st k (f57_p1_y x l) = some r ∧ (r = .inr (f57_p1_o1_y [] 4) ∨ ∃ c l', r = .inl (f57_p1_o0_y [c] l')))) ∧ (∀ t, unhex x = some t → iter f57_p1_st k (f57_p1_y x l) = some (.inl (f57_p1_o0_y [] (l ++ bytesOf t)))) := by
  intro n
  induction n with
  | zero =>
    intro x l k hx hk hl
    obtain rfl := List.eq_nil_of_length_eq_zero (by omega : x.length = 0)
    obtain ⟨k, rfl⟩ : ∃ j, k = j + 1 := ⟨k - 1, by simp at hk; omega⟩
    refine ⟨fun h => by simp [unhex] at h, fun t ht => ?_⟩
    simp only [unhex, Option.some.injEq] at ht; subst ht
    rw [iter, f57_p1_eq, show decide ((([] : List UInt8).length : Int) ≥ 2) = false from by decide, cond_false]
    simp [bytesOf]
  | succ n ih =>
    intro x l k hx hk hl
    obtain ⟨k, rfl⟩ : ∃ j, k = j + 1 := ⟨k - 1, by omega⟩
    match x, hx, hk, hl with
    | [], hx, hk, hl =>
      refine ⟨fun h => by simp [unhex] at h, fun t ht => ?_⟩
      simp only [unhex, Option.some.injEq] at ht; subst ht
      rw [iter, f57_p1_eq, show decide ((([] : List UInt8).length : Int) ≥ 2) = false from by decide, cond_false]
      simp [bytesOf]
    | [c], hx, hk, hl =>
      refine ⟨fun _ => ⟨_, ?_, .inr ⟨c, l, rfl⟩⟩, fun t ht => by simp [unhex] at ht⟩
      rw [iter, f57_p1_eq, show decide ((([c] : List UInt8).length : Int) ≥ 2) = false from rfl, cond_false]
    | a :: b :: x, hx, hk, hl =>
      have hge : decide (((a :: b :: x).length : Int) ≥ 2) = true := by simp; omega
      have n0 : nth (a :: b :: x) (0 : Int) = some a := rfl
      have n1 : nth (a :: b :: x) (1 : Int) = some b := rfl
      rw [iter, f57_p1_eq, hge, cond_true, n0, Option.bind_some, index_eq, Option.bind_some, n1, Option.bind_some, index_eq, Option.bind_some, f57_p0_eq]
      have hal := indexD_lt a
      have hbl := indexD_lt b
      dsimp only
      by_cases ha : Lib.indexByte D16 a < 0
      · rw [show decide (Lib.indexByte D16 a < 0) = true from by simpa using ha, cond_true, Option.bind_some]
        simp only [f57_p0_o0_x0_y, f57_p0_o0_x5_y, f57_p0_o0_x6_y, f57_p0_o0_x23_y, f57_p0_o0_l0_y, cond_true]
        exact ⟨fun _ => ⟨_, rfl, .inl rfl⟩, fun t ht => by simp [unhex, ha] at ht⟩
      · rw [show decide (Lib.indexByte D16 a < 0) = false from by simpa using ha, cond_false, Option.bind_some]
        simp only [f57_p0_o0_x0_y, f57_p0_o0_x5_y, f57_p0_o0_x6_y, f57_p0_o0_x23_y, f57_p0_o0_l0_y]
        by_cases hb : Lib.indexByte D16 b < 0
        · rw [show decide (Lib.indexByte D16 b < 0) = true from by simpa using hb, cond_true]
          exact ⟨fun _ => ⟨_, rfl, .inl rfl⟩, fun t ht => by simp [unhex, hb] at ht⟩
        · rw [show decide (Lib.indexByte D16 b < 0) = false from by simpa using hb, cond_false, appOk, if_pos (by simp at hl ⊢; omega)]
          have hcut : cutLo (a :: b :: x) (2 : Int) (fun s => iter f57_p1_st k (f57_p1_y s (l ++ [IntKind.u8.wrap (IntKind.i64.wrap (((BitVec.ofInt 64 (IntKind.i64.wrap (Lib.indexByte D16 a * 2 ^ (min (Int.toNat (4 : Int)) 64))) ||| BitVec.ofInt 64 (Lib.indexByte D16 b)).toNat : Int)))]))) = iter f57_p1_st k (f57_p1_y x (l ++ [((UInt8.ofNat ((Lib.indexByte D16 a).toNat * 16 + (Lib.indexByte D16 b).toNat)).toNat : Int)])) := by
            unfold cutLo
            rw [if_pos (by simp; omega)]
            have e1 : Lib.indexByte D16 a = ((Lib.indexByte D16 a).toNat : Int) := by omega
            have e2 : Lib.indexByte D16 b = ((Lib.indexByte D16 b).toNat : Int) := by omega
            have := nib (Lib.indexByte D16 a).toNat (Lib.indexByte D16 b).toNat (by omega) (by omega)
            rw [← e1, ← e2] at this
            rw [this]; rfl
          rw [hcut]
          obtain ⟨h1, h2⟩ := ih x (l ++ [((UInt8.ofNat ((Lib.indexByte D16 a).toNat * 16 + (Lib.indexByte D16 b).toNat)).toNat : Int)]) k (by simp at hx; omega) (by simp at hk; omega) (by simp at hl ⊢; omega)
          have hor : ¬ (Lib.indexByte D16 a < 0 ∨ Lib.indexByte D16 b < 0) := by omega
          refine ⟨fun h => h1 ?_, fun t ht => ?_⟩
          · rw [unhex, if_neg hor] at h
            cases hu : unhex x with
            | none => rfl
            | some t => rw [hu] at h; cases h
          · rw [unhex, if_neg hor, Option.map_eq_some_iff] at ht
            obtain ⟨t', ht', rfl⟩ := ht
            rw [h2 t' ht']
            simp [bytesOf]
theorem text_eq (a : List UInt8) (h : a.length ≤ 900000) : f38_F (a, ()) = some ((unhex a).getD [], ()) := by
  rw [f38_eq, f57_eq]
  have hm : a.length + 1 ≤ fuelOf f57_p1_sh (f57_p1_y a []) := by rw [fuel_def]; omega
  obtain ⟨h1, h2⟩ := unhex_loop a.length a [] (fuelOf f57_p1_sh (f57_p1_y a [])) (Nat.le_refl _) hm (by simp; omega)
  cases hu : unhex a with
  | none =>
    obtain ⟨r, hr, hor⟩ := h1 hu
    rw [show go f57_p1_st (f57_p1_y a ([] : List Int)) = some r from hr, Option.bind_some]
    rcases hor with rfl | ⟨c, l', rfl⟩
    · rfl
    · rfl
  | some t =>
    rw [show go f57_p1_st (f57_p1_y a ([] : List Int)) = _ from h2 t hu, Option.bind_some]
    dsimp only
    simp only [f57_p1_o0_x0_y, f57_p1_o0_l0_y, List.nil_append, strOf_bytesOf]
    rfl
end Go.Pe.Tryd
end
section
namespace Go.Pe.Tryd
open Go.Proofs Go.RowKit
set_option maxRecDepth 100000
set_option linter.unusedSimpArgs false
set_option linter.unusedVariables false
abbrev Deed := Int × (List (List UInt8) × List Int)
abbrev Shp := List UInt8 × (Int × Int)
def shp : List (Int × Shp) := [(1, ([112, 117, 98, 108, 105, 115, 104], (3, 1))), (2, ([100, 101, 108, 101, 103], (3, 2))), (3, ([114, 111, 116, 97, 116, 101], (1, 2))), (4, ([115, 116, 97, 109, 112], (0, 1))), (5, ([117, 112, 100, 97, 116, 101], (1, 1))), (6, ([99, 114, 97, 115, 104], (1, 2))), (7, ([119, 97, 116, 99, 104], (0, 1))), (8, ([109, 105, 114, 114, 111, 114], (2, 1)))]
def shpM : List (Ty.mapT (.int .i64) (.prod .str (.prod (.int .i64) (.int .i64))) true).den := shp.map fun x => (((), ()), x)
theorem shapes_eq : h36_F h36_y = some (h36_o_y shpM) := by rw [h36_eq]; kernel_rfl
def look (k : Int) : Option Shp := mget (.int .i64) (.prod .str (.prod (.int .i64) (.int .i64))) true shpM k
theorem look_cases (k : Int) : (look k = none ∧ (k < 1 ∨ 8 < k)) ∨ (1 ≤ k ∧ k ≤ 8 ∧ ∃ x, look k = some x ∧ (k, x) ∈ shp) := by
  by_cases h : 1 ≤ k ∧ k ≤ 8
  · right
    refine ⟨h.1, h.2, ?_⟩
    have : k = 1 ∨ k = 2 ∨ k = 3 ∨ k = 4 ∨ k = 5 ∨ k = 6 ∨ k = 7 ∨ k = 8 := by omega
    rcases this with rfl | rfl | rfl | rfl | rfl | rfl | rfl | rfl <;> exact ⟨_, rfl, by decide⟩
  · left
    refine ⟨?_, by omega⟩
    have e : ∀ j : Int, 1 ≤ j ∧ j ≤ 8 → (j == k) = false := fun j hj => by simp; omega
    show mapGet (fun a b : Int => a == b) k shp = none
    have e' : ∀ j : Int, 1 ≤ j ∧ j ≤ 8 → (k == j) = false := fun j hj => by simp; omega
    simp only [shp, mapGet, e' 1 (by omega), e' 2 (by omega), e' 3 (by omega), e' 4 (by omega), e' 5 (by omega), e' 6 (by omega), e' 7 (by omega), e' 8 (by omega)]
theorem mget_look (k : Int) : mget (.int .i64) (.prod .str (.prod (.int .i64) (.int .i64))) true (h36_o_l0 (h36_o_y shpM)) k = look k := by rw [h36_o_l0_y]; rfl
def special (d : Deed) : Bool :=
  if d.1 = 2 then decide (d.2.2.getD 1 0 ≤ 1) else if d.1 = 8 then decide (d.2.2.getD 0 0 ≤ 1) else if d.1 = 6 then (d.2.1.getD 0 []).all (fun c => c == 48 || c == 49) else true
def isDeed (d : Deed) : Bool := match look d.1 with
  | none => false
  | some x => (d.2.1.length : Int) == x.2.1 && ((d.2.2.length : Int) == x.2.2 && (d.2.1.all (fun s => decide (s.length ≤ 3000)) && (d.2.2.all (fun n => decide (0 ≤ n ∧ n ≤ 1099511627776)) && special d)))
theorem isome_any {α : Type} (l : List α) (p : α → Bool) : (l.findIdx? p).isSome = l.any p := by rw [List.findIdx?_isSome]
theorem any_not {α : Type} (l : List α) (p q : α → Bool) (h : ∀ x, p x = !q x) : l.any p = !l.all q := by
  induction l with
  | nil => rfl
  | cons x l ih => simp only [List.any_cons, List.all_cons, ih, h x, Bool.not_and]
theorem any43 (l : List (List UInt8)) (h : l.length ≤ 900000) : h43_F (h43_y l) = some (h43_o_y (l.any fun s => (s.length : Int) != 32)) := by
  have hl := go_scan (step := h60_p0_st) (l := l) (fun i => h60_p0_y l (l.length : Int) (i : Int)) (fun s => (s.length : Int) != 32) (fun k => some (.inr (h60_p0_o1_y (k : Int)))) (some (.inl h60_p0_o0_y))
    (fun i hi rec => by rw [h60_p0_eq, lt_true hi, cond_true, nth_at hi, Option.bind_some, f42_eq, Option.bind_some, inc i (by omega)]) (fun rec => by rw [h60_p0_eq, lt_false, cond_false]) (by rw [fuel_def]; omega)
  rw [show ((0 : Nat) : Int) = 0 from rfl] at hl
  rw [h43_eq, h60_eq, hl, ← isome_any]
  cases l.findIdx? fun s => (s.length : Int) != 32 with
  | none => rfl
  | some k =>
    dsimp only
    rw [Option.bind_some, Option.bind_some]
    simp only [h60_p0_o1_x4_y, h60_o_x0_y]
    rw [show decide ((k : Int) ≥ 0) = true from by simp]; rfl
theorem any43a (l : List (List UInt8)) (h : l.length ≤ 900000) : h43a_F (h43a_y l) = some (h43a_o_y (l.any fun s => decide ((s.length : Int) > 3000))) := by
  have hl := go_scan (step := h60a_p0_st) (l := l) (fun i => h60a_p0_y l (l.length : Int) (i : Int)) (fun s => decide ((s.length : Int) > 3000)) (fun k => some (.inr (h60a_p0_o1_y (k : Int)))) (some (.inl h60a_p0_o0_y))
    (fun i hi rec => by rw [h60a_p0_eq, lt_true hi, cond_true, nth_at hi, Option.bind_some, f45_eq, Option.bind_some, inc i (by omega)]) (fun rec => by rw [h60a_p0_eq, lt_false, cond_false]) (by rw [fuel_def]; omega)
  rw [show ((0 : Nat) : Int) = 0 from rfl] at hl
  rw [h43a_eq, h60a_eq, hl, ← isome_any]
  cases l.findIdx? fun s => decide ((s.length : Int) > 3000) with
  | none => rfl
  | some k =>
    dsimp only
    rw [Option.bind_some, Option.bind_some]
    simp only [h60a_p0_o1_x4_y, h60a_o_x0_y]
    rw [show decide ((k : Int) ≥ 0) = true from by simp]; rfl
def badN (n : Int) : Bool := !decide (0 ≤ n ∧ n ≤ 1099511627776)
theorem f47_bad (n : Int) : f47_F (n, ()) = some (badN n, ()) := by
  rw [f47_eq]
  unfold badN
  by_cases h : n < 0
  · rw [show decide (n < 0) = true from by simpa using h, cond_true]
    rw [show decide (0 ≤ n ∧ n ≤ 1099511627776) = false from by simp; omega]; rfl
  · rw [show decide (n < 0) = false from by simpa using h, cond_false]
    by_cases h2 : n > 1099511627776
    · rw [show decide (n > 1099511627776) = true from by simpa using h2, show decide (0 ≤ n ∧ n ≤ 1099511627776) = false from by simp; omega]; rfl
    · rw [show decide (n > 1099511627776) = false from by simpa using h2, show decide (0 ≤ n ∧ n ≤ 1099511627776) = true from by simp; omega]; rfl
theorem any46 (l : List Int) (h : l.length ≤ 900000) : h46_F (h46_y l) = some (h46_o_y (l.any badN)) := by
  have hl := go_scan (step := h61_p0_st) (l := l) (fun i => h61_p0_y l (l.length : Int) (i : Int)) badN (fun k => some (.inr (h61_p0_o1_y (k : Int)))) (some (.inl h61_p0_o0_y))
    (fun i hi rec => by rw [h61_p0_eq, lt_true hi, cond_true, nth_at hi, Option.bind_some, f47_bad, Option.bind_some, inc i (by omega)]) (fun rec => by rw [h61_p0_eq, lt_false, cond_false]) (by rw [fuel_def]; omega)
  rw [show ((0 : Nat) : Int) = 0 from rfl] at hl
  rw [h46_eq, h61_eq, hl, ← isome_any]
  cases l.findIdx? badN with
  | none => rfl
  | some k =>
    dsimp only
    rw [Option.bind_some, Option.bind_some]
    simp only [h61_p0_o1_x4_y, h61_o_x0_y]
    rw [show decide ((k : Int) ≥ 0) = true from by simp]; rfl
def badC (c : Int) : Bool := c != 48 && c != 49
theorem f49_bad (c : Int) : f49_F (c, ()) = some (badC c, ()) := by
  rw [f49_eq]; unfold badC
  cases c != 48 <;> rfl
theorem any48 (l : List Int) (h : l.length ≤ 900000) : h48_F (h48_y l) = some (h48_o_y (l.any badC)) := by
  have hl := go_scan (step := h62_p0_st) (l := l) (fun i => h62_p0_y l (l.length : Int) (i : Int)) badC (fun k => some (.inr (h62_p0_o1_y (k : Int)))) (some (.inl h62_p0_o0_y))
    (fun i hi rec => by rw [h62_p0_eq, lt_true hi, cond_true, nth_at hi, Option.bind_some, f49_bad, Option.bind_some, inc i (by omega)]) (fun rec => by rw [h62_p0_eq, lt_false, cond_false]) (by rw [fuel_def]; omega)
  rw [show ((0 : Nat) : Int) = 0 from rfl] at hl
  rw [h48_eq, h62_eq, hl, ← isome_any]
  cases l.findIdx? badC with
  | none => rfl
  | some k =>
    dsimp only
    rw [Option.bind_some, Option.bind_some]
    simp only [h62_p0_o1_x4_y, h62_o_x0_y]
    rw [show decide ((k : Int) ≥ 0) = true from by simp]; rfl
theorem bytes_bad (s : List UInt8) : (bytesOf s).any badC = !s.all (fun c => c == 48 || c == 49) := by
  have h : ∀ c : UInt8, badC (c.toNat : Int) = !(c == 48 || c == 49) := by
    intro c
    have : ∀ n : Fin 256, badC (n.val : Int) = !(UInt8.ofNat n.val == 48 || UInt8.ofNat n.val == 49) := by decide +kernel
    simpa using this ⟨c.toNat, c.toNat_lt⟩
  rw [bytesOf, List.any_map]
  exact any_not s _ _ (fun c => h c)
theorem shp_len {k : Int} {x : Shp} (h : (k, x) ∈ shp) : (k = 2 → x.2.2 = 2) ∧ (k = 8 → x.2.2 = 1) ∧ (k = 6 → x.2.1 = 1) ∧ 0 ≤ x.2.1 ∧ x.2.1 ≤ 3 ∧ 1 ≤ x.2.2 ∧ x.2.2 ≤ 2 := by
  simp only [shp, List.mem_cons, Prod.mk.injEq, List.not_mem_nil, or_false] at h
  rcases h with ⟨rfl, rfl⟩ | ⟨rfl, rfl⟩ | ⟨rfl, rfl⟩ | ⟨rfl, rfl⟩ | ⟨rfl, rfl⟩ | ⟨rfl, rfl⟩ | ⟨rfl, rfl⟩ | ⟨rfl, rfl⟩ <;> simp
theorem right_eq (k : Int) (ts : List (List UInt8)) (ns : List Int) (h1 : ts.length ≤ 900000) (h2 : ns.length ≤ 900000) : f24_F ((k, (ts, (ns, ()))), ()) = some (isDeed (k, (ts, ns)), ()) := by
  rw [f24_eq, shapes_eq, Option.bind_some, mget_look, f24_p1_eq]
  rcases look_cases k with ⟨hn, _⟩ | ⟨hk1, hk2, x, hx, hm⟩
  · rw [hn, show (!(none : Option Shp).isSome) = true from rfl, cond_true, Option.bind_some]
    simp only [f24_p1_o0_x29_y, f24_p1_o0_r0_0_y, f24_p1_o0_r0_1_y, f24_p1_o0_r0_2_y, cond_true]
    simp [isDeed, hn]
  · obtain ⟨q2, q8, q6, _⟩ := shp_len hm
    simp only [hx, Option.isSome_some, Bool.not_true, cond_false, Option.getD_some]
    have hI : isDeed (k, (ts, ns)) = ((ts.length : Int) == x.2.1 && ((ns.length : Int) == x.2.2 && (ts.all (fun s => decide (s.length ≤ 3000)) && (ns.all (fun n => decide (0 ≤ n ∧ n ≤ 1099511627776)) && special (k, (ts, ns)))))) := by simp [isDeed, hx]
    rw [hI]
    by_cases e1 : (ts.length : Int) = x.2.1
    · rw [show ((ts.length : Int) != x.2.1) = false from by simpa using e1, cond_false, Option.bind_some]
      simp only [f24_p1_o0_x29_y, f24_p1_o0_r0_0_y, f24_p1_o0_r0_1_y, f24_p1_o0_r0_2_y]
      rw [show ((ts.length : Int) == x.2.1) = true from by simpa using e1, Bool.true_and]
      by_cases e2 : (ns.length : Int) = x.2.2
      · rw [show ((ns.length : Int) != x.2.2) = false from by simpa using e2, cond_false, f24_p0_eq, any43a ts h1, Option.bind_some]
        rw [show ((ns.length : Int) == x.2.2) = true from by simpa using e2, Bool.true_and]
        simp only [h43a_o_x0_y]
        rw [any_not ts _ (fun s => decide (s.length ≤ 3000)) (fun s => by by_cases h : s.length ≤ 3000 <;> simp [h] <;> omega)]
        cases ha : ts.all (fun s => decide (s.length ≤ 3000)) with
        | false =>
          rw [Bool.not_false, cond_true, Option.bind_some]
          simp only [f24_p0_o0_x37_y, f24_p0_o0_r0_0_y, f24_p0_o0_r0_1_y, f24_p0_o0_r0_2_y, cond_true]; rfl
        | true =>
          rw [Bool.not_true, cond_false, any46 ns h2, Option.bind_some, Option.bind_some]
          simp only [h46_o_x0_y, f24_p0_o0_x37_y, f24_p0_o0_r0_0_y, f24_p0_o0_r0_1_y, f24_p0_o0_r0_2_y]
          rw [any_not ns badN (fun n => decide (0 ≤ n ∧ n ≤ 1099511627776)) (fun _ => rfl)]
          cases hb : ns.all (fun n => decide (0 ≤ n ∧ n ≤ 1099511627776)) with
          | false => rw [Bool.not_false, cond_true]; rfl
          | true =>
            rw [Bool.not_true, cond_false, Bool.true_and, Bool.true_and]
            unfold special
            dsimp only
            by_cases k2 : k = 2
            · rw [if_pos k2, show (k == 2) = true from by simpa using k2, cond_true]
              have : ns.length = 2 := by have := q2 k2; omega
              match ns, this with
              | [a, b], _ => rfl
            · rw [if_neg k2, show (k == 2) = false from by simpa using k2, cond_false]
              by_cases k8 : k = 8
              · rw [if_pos k8, show (k == 8) = true from by simpa using k8, cond_true]
                have : ns.length = 1 := by have := q8 k8; omega
                match ns, this with
                | [a], _ => rfl
              · rw [if_neg k8, show (k == 8) = false from by simpa using k8, cond_false]
                by_cases k6 : k = 6
                · rw [if_pos k6, show (k == 6) = true from by simpa using k6, cond_true]
                  have : ts.length = 1 := by have := q6 k6; omega
                  match ts, this, ha with
                  | [s], _, ha =>
                    have hs : s.length ≤ 3000 := by simpa using ha
                    rw [show nth [s] (0 : Int) = some s from rfl, Option.bind_some, any48 _ (by rw [bytesOf_len]; omega), Option.bind_some]
                    simp only [h48_o_x0_y]
                    rw [bytes_bad, Bool.not_not]; rfl
                · rw [if_neg k6, show (k == 6) = false from by simpa using k6, cond_false]
      · rw [show ((ns.length : Int) != x.2.2) = true from by simpa using e2, cond_true]
        rw [show ((ns.length : Int) == x.2.2) = false from by simpa using e2]; rfl
    · rw [show ((ts.length : Int) != x.2.1) = true from by simpa using e1, cond_true, Option.bind_some]
      simp only [f24_p1_o0_x29_y, f24_p1_o0_r0_0_y, f24_p1_o0_r0_1_y, f24_p1_o0_r0_2_y, cond_true]
      rw [show ((ts.length : Int) == x.2.1) = false from by simpa using e1]; rfl
end Go.Pe.Tryd
end
section
namespace Go.Pe.Tryd
open Go.Proofs Go.RowKit
set_option maxRecDepth 100000
set_option linter.unusedSimpArgs false
set_option linter.unusedVariables false
def begins (S : List (List UInt8)) (L : List UInt8) (li cl : Int) : Bool :=
  (S.length : Int) == 4 && (S.all (fun s => (s.length : Int) == 32) && ((L.length : Int) == 32 && (decide (li ≥ 1) && (decide (li ≤ 1000000) && (decide (cl ≥ 1) && decide (cl ≤ 4))))))
theorem begins_eq (S : List (List UInt8)) (L : List UInt8) (li cl : Int) (D : List Deed) (h : S.length ≤ 900000) : f21_F ((S, (L, (li, (cl, (D, ()))))), ()) = some (begins S L li cl, ()) := by
  rw [f21_eq]
  unfold begins
  cases e1 : ((S.length : Int) == 4) with
  | false => rw [cond_false]; rfl
  | true =>
    rw [cond_true, any43 S h, Option.bind_some, Bool.true_and]
    simp only [h43_o_x0_y]
    rw [any_not S (fun s => (s.length : Int) != 32) (fun s => (s.length : Int) == 32) (fun s => rfl), Bool.not_not]
    cases S.all (fun s => (s.length : Int) == 32) with
    | false => rw [cond_false]; rfl
    | true =>
      rw [cond_true, f42_eq, Option.bind_some, Bool.true_and]
      dsimp only
      rw [show ((L.length : Int) != 32) = !((L.length : Int) == 32) from rfl, Bool.not_not]
      cases ((L.length : Int) == 32) with
      | false => rw [cond_false]; rfl
      | true =>
        rw [cond_true, Bool.true_and]
        cases decide (li ≥ 1) with
        | false => rw [cond_false]; rfl
        | true =>
          rw [cond_true, Bool.true_and]
          cases decide (li ≤ 1000000) with
          | false => rw [cond_false]; rfl
          | true =>
            rw [cond_true, Bool.true_and]
            cases decide (cl ≥ 1) with
            | false => rw [cond_false]; rfl
            | true => rw [cond_true, Bool.true_and]
def Small (D : List Deed) : Prop := D.length ≤ 900000 ∧ ∀ d ∈ D, d.2.1.length ≤ 900000 ∧ d.2.2.length ≤ 900000
theorem any22 (D : List Deed) (h : Small D) : h22_F (h22_y D) = some (h22_o_y (D.any fun d => !isDeed d)) := by
  have hl := go_scan (step := h44_p0_st) (l := D) (fun i => h44_p0_y D (D.length : Int) (i : Int)) (fun d => !isDeed d) (fun k => some (.inr (h44_p0_o1_y (k : Int)))) (some (.inl h44_p0_o0_y))
    (fun i hi rec => by
      obtain ⟨g1, g2⟩ := h.2 _ (List.getElem_mem hi)
      rw [h44_p0_eq, lt_true hi, cond_true, nth_at hi, Option.bind_some, f23_eq, right_eq _ _ _ g1 g2, Option.bind_some, Option.bind_some, inc i (by have := h.1; omega)]) (fun rec => by rw [h44_p0_eq, lt_false, cond_false]) (by rw [fuel_def]; have := h.1; omega)
  rw [show ((0 : Nat) : Int) = 0 from rfl] at hl
  rw [h22_eq, h44_eq, hl, ← isome_any]
  cases D.findIdx? fun d => !isDeed d with
  | none => rfl
  | some k =>
    dsimp only
    rw [Option.bind_some, Option.bind_some]
    simp only [h44_p0_o1_x4_y, h44_o_x0_y]
    rw [show decide ((k : Int) ≥ 0) = true from by simp]; rfl
def right (S : List (List UInt8)) (L : List UInt8) (li cl : Int) (D : List Deed) : Bool := begins S L li cl && (decide ((D.length : Int) ≤ 200) && D.all isDeed)
theorem rightP_eq (S : List (List UInt8)) (L : List UInt8) (li cl : Int) (D : List Deed) (h : S.length ≤ 900000) (hD : Small D) : f10_F ((S, (L, (li, (cl, (D, ()))))), ()) = some (right S L li cl D, ()) := by
  rw [f10_eq, begins_eq S L li cl D h, Option.bind_some]
  unfold right
  dsimp only
  cases begins S L li cl with
  | false => rw [cond_false]; rfl
  | true =>
    rw [cond_true, Bool.true_and]
    cases decide ((D.length : Int) ≤ 200) with
    | false => rw [cond_false]; rfl
    | true =>
      rw [cond_true, any22 D hD, Option.bind_some, Bool.true_and]
      simp only [h22_o_x0_y]
      rw [any_not D _ isDeed (fun _ => rfl), Bool.not_not]
theorem min_take {α : Type} (l : List α) (n : Nat) {S : Type} (K : List α → Option S) : cutHi l (minI (l.length : Int) (n : Int)) K = K (l.take n) := by
  unfold cutHi
  rw [minI_eq]
  split
  · rw [if_pos (by omega), Int.toNat_natCast]
  · rename_i h
    rw [if_pos (by omega), Int.toNat_natCast, List.take_of_length_le (Nat.le_refl _), List.take_of_length_le (by omega)]
def OkT (n : Nat) (s : List (List UInt8)) (i : Nat) : Prop := s.length = n ∧ ∀ j, j < i → (s.getD j []).length ≤ 3100
theorem getD_set_ne {α : Type} (l : List α) (i j : Nat) (a d : α) (h : i ≠ j) : (l.set i a).getD j d = l.getD j d := by
  rw [List.getD_eq_getElem?_getD, List.getD_eq_getElem?_getD, List.getElem?_set_ne h]
theorem few_in (x5 x30 x31 : Int) (r0_0 : List (List UInt8)) (r0_1 : List UInt8) (r0_2 r0_3 : Int) (r1_1 : List UInt8) (r1_2 r1_3 r2_0 : Int) (r2_2 : List Int) (l0 : List Deed) (T : List (List UInt8)) (hT : T.length ≤ 5) :
    ∃ T', go f5_p0_st (f5_p0_y x5 x30 x31 (T.length : Int) 0 r0_0 r0_1 r0_2 r0_3 r1_1 r1_2 r1_3 r2_0 r2_2 l0 T) = some (f5_p0_o0_y x5 x30 x31 r0_0 r0_1 r0_2 r0_3 r1_1 r1_2 r1_3 r2_0 r2_2 l0 T') ∧ OkT T.length T' T.length := by
  have := go_foldi (step := f5_p0_st) (l := T) (fun i s => f5_p0_y x5 x30 x31 (T.length : Int) (i : Int) r0_0 r0_1 r0_2 r0_3 r1_1 r1_2 r1_3 r2_0 r2_2 l0 s) (fun i s _ => s.set i ((s.getD i []).take 3100)) (fun i s => OkT T.length s i) (s0 := T) (fin := fun s => some (f5_p0_o0_y x5 x30 x31 r0_0 r0_1 r0_2 r0_3 r1_1 r1_2 r1_3 r2_0 r2_2 l0 s)) ⟨rfl, fun j hj => by omega⟩
    (fun i s hi hs => ⟨⟨by simpa using hs.1, fun j hj => by
      by_cases e : i = j
      · subst e
        rw [List.getD_eq_getElem?_getD, List.getElem?_set_self (by rw [hs.1]; exact hi)]
        simp only [Option.getD_some, List.length_take]; omega
      · rw [getD_set_ne _ _ _ _ _ e]; exact hs.2 j (by omega)⟩, fun rec => by
      have hi' : i < s.length := by rw [hs.1]; exact hi
      rw [f5_p0_eq, lt_true hi, cond_true, within, if_pos (by omega), Int.toNat_natCast, List.getElem?_eq_getElem hi', Option.bind_some, show (3100 : Int) = ((3100 : Nat) : Int) from rfl, min_take, within, if_pos (by omega), Option.bind_some, inc i (by omega)]
      rw [List.getD_eq_getElem?_getD, List.getElem?_eq_getElem hi', Option.getD_some]⟩) (fun s hs rec => by rw [f5_p0_eq, lt_false, cond_false])
    (by rw [fuel_def]; omega)
  exact ⟨_, this.1, this.2⟩
def OkD (d : Deed) : Prop := d.2.1.length ≤ 5 ∧ d.2.2.length ≤ 5 ∧ ∀ s ∈ d.2.1, s.length ≤ 3100
def OkI (n : Nat) (D : List Deed) (i : Nat) : Prop := D.length = n ∧ ∀ j (h : j < D.length), j < i → OkD D[j]
theorem okT_all {T : List (List UInt8)} {n : Nat} (h : OkT n T n) : ∀ s ∈ T, s.length ≤ 3100 := fun s hs => by
  obtain ⟨j, hj, rfl⟩ := List.mem_iff_getElem.1 hs
  have := h.2 j (by have := h.1; omega)
  rwa [List.getD_eq_getElem?_getD, List.getElem?_eq_getElem hj] at this
theorem few_loop (r0_0 : List (List UInt8)) (r0_1 : List UInt8) (r0_2 r0_3 : Int) (r1_1 : List UInt8) (r1_2 r1_3 : Int) (D0 : List Deed) (hD0 : D0.length ≤ 900000) : ∀ (m i : Nat) (D : List Deed) (k : Nat), i + m = D0.length → m + 1 ≤ k → OkI D0.length D i →
    ∃ D', iter f5_p1_st k (f5_p1_y (D0.length : Int) (i : Int) r0_0 r0_1 r0_2 r0_3 r1_1 r1_2 r1_3 D) = some (f5_p1_o0_y r0_0 r0_1 r0_2 r0_3 r1_1 r1_2 r1_3 D') ∧ OkI D0.length D' D0.length := by
  intro m
  induction m with
  | zero =>
    intro i D k hi hk hD
    obtain ⟨k, rfl⟩ : ∃ j, k = j + 1 := ⟨k - 1, by omega⟩
    obtain rfl : i = D0.length := by omega
    exact ⟨D, by rw [iter, f5_p1_eq, lt_false, cond_false], hD⟩
  | succ m ih =>
    intro i D k hi hk hD
    obtain ⟨k, rfl⟩ : ∃ j, k = j + 1 := ⟨k - 1, by omega⟩
    have hi0 : i < D0.length := by omega
    have hi' : i < D.length := by rw [hD.1]; exact hi0
    rw [iter, f5_p1_eq, lt_true hi0, cond_true, within, if_pos (by omega), Int.toNat_natCast, List.getElem?_eq_getElem hi', Option.bind_some, show (5 : Int) = ((5 : Nat) : Int) from rfl, min_take, appOk, if_pos (by simp; omega), min_take]
    simp only [List.nil_append]
    obtain ⟨T', h1, h2⟩ := few_in (i : Int) (D0.length : Int) (i : Int) r0_0 r0_1 r0_2 r0_3 r1_1 r1_2 r1_3 D[i].1 (D[i].2.2.take 5) D (D[i].2.1.take 5) (by simp; omega)
    rw [h1, Option.bind_some]
    simp only [f5_p0_o0_x5_y, f5_p0_o0_x30_y, f5_p0_o0_x31_y, f5_p0_o0_r0_0_y, f5_p0_o0_r0_1_y, f5_p0_o0_r0_2_y, f5_p0_o0_r0_3_y, f5_p0_o0_r1_1_y, f5_p0_o0_r1_2_y, f5_p0_o0_r1_3_y, f5_p0_o0_r2_0_y, f5_p0_o0_r2_2_y, f5_p0_o0_l0_y, f5_p0_o0_l1_y]
    rw [within, if_pos (by omega), Int.toNat_natCast, List.getElem?_eq_getElem hi', Option.bind_some, inc i (by omega)]
    refine ih (i + 1) _ k (by omega) (by omega) ⟨by simpa using hD.1, fun j hj hlt => ?_⟩
    by_cases e : i = j
    · subst e
      rw [List.getElem_set_self]
      refine ⟨by rw [h2.1]; simp; omega, by simp; omega, okT_all h2⟩
    · rw [List.getElem_set_ne e]
      exact hD.2 j (by simpa using hj) (by omega)
theorem few_eq (S : List (List UInt8)) (L : List UInt8) (li cl : Int) (D : List Deed) (n : Nat) (hn : n ≤ 900000) :
    ∃ D', f5_F ((S, (L, (li, (cl, (D, ()))))), ((n : Int), ())) = some ((S.take 6, (L, (li, (cl, (D', ()))))), ()) ∧ D'.length = min n D.length ∧ ∀ d ∈ D', OkD d := by
  have hlen : (D.take n).length = min n D.length := List.length_take ..
  obtain ⟨D', h1, h2⟩ := few_loop (S.take 6) L li cl [] 0 0 (D.take n) (by omega) (D.take n).length 0 (D.take n) (fuelOf f5_p1_sh (f5_p1_y ((D.take n).length : Int) ((0 : Nat) : Int) (S.take 6) L li cl [] 0 0 (D.take n))) (by omega) (by rw [fuel_def]; omega) ⟨rfl, fun j _ h => by omega⟩
  refine ⟨D', ?_, by rw [h2.1, hlen], fun d hd => ?_⟩
  · rw [f5_eq, show (6 : Int) = ((6 : Nat) : Int) from rfl, min_take, min_take, appOk, if_pos (by simp; omega)]
    simp only [List.nil_append]
    rw [show go f5_p1_st (f5_p1_y ((D.take n).length : Int) (0 : Int) (S.take 6) L li cl ([] : List UInt8) (0 : Int) (0 : Int) (D.take n)) = _ from h1, Option.bind_some]
    simp only [f5_p1_o0_r0_0_y, f5_p1_o0_r0_1_y, f5_p1_o0_r0_2_y, f5_p1_o0_r0_3_y, f5_p1_o0_r1_1_y, f5_p1_o0_r1_2_y, f5_p1_o0_r1_3_y, f5_p1_o0_l0_y]
  · obtain ⟨j, hj, rfl⟩ := List.mem_iff_getElem.1 hd
    exact h2.2 j hj (by have := h2.1; omega)
theorem same_refl (a : List (List UInt8)) (h : a.length ≤ 900000) : f19_F (a, (a, ())) = some (true, ()) := by
  rw [f19_eq, show ((a.length : Int) != (a.length : Int)) = false from by simp, cond_false]
  have hl := go_scan (step := f19_p0_st) (l := a) (fun i => f19_p0_y a a (a.length : Int) (i : Int)) (fun _ => false) (fun k => some (.inr (f19_p0_o1_y false))) (some (.inl f19_p0_o0_y))
    (fun i hi rec => by rw [f19_p0_eq, lt_true hi, cond_true, nth_at hi, Option.bind_some, Option.bind_some, show (a[i] != a[i]) = false from by simp, cond_false, cond_false, inc i (by omega)]) (fun rec => by rw [f19_p0_eq, lt_false, cond_false]) (by rw [fuel_def]; omega)
  rw [show ((0 : Nat) : Int) = 0 from rfl] at hl
  rw [hl]
  have : a.findIdx? (fun _ => false) = none := by rw [List.findIdx?_eq_none_iff]; intros; rfl
  rw [this]; rfl
theorem like_refl (S : List (List UInt8)) (L : List UInt8) (li cl : Int) (D : List Deed) (hS : S.length ≤ 900000) (hD : Small D) : f8_F ((S, (L, (li, (cl, (D, ()))))), ((S, (L, (li, (cl, (D, ()))))), ())) = some (true, ()) := by
  rw [f8_eq, f8_p3_eq, same_refl S hS, Option.bind_some]
  simp only [Bool.not_true, cond_false, bne_self_eq_false, Option.bind_some, f8_p3_o0_x44_y, f8_p3_o0_r0_0_y, f8_p3_o0_r0_1_y, f8_p3_o0_r0_2_y, f8_p3_o0_r0_3_y, f8_p3_o0_r0_4_y, f8_p3_o0_r1_0_y, f8_p3_o0_r1_1_y, f8_p3_o0_r1_2_y, f8_p3_o0_r1_3_y, f8_p3_o0_r1_4_y]
  have hl := go_scan (step := f8_p2_st) (l := D) (fun i => f8_p2_y (D.length : Int) (i : Int) S L li cl D S L li cl D) (fun _ => false) (fun k => some (.inr (f8_p2_o1_y false))) (some (.inl f8_p2_o0_y))
    (fun i hi rec => by
      obtain ⟨g1, g2⟩ := hD.2 _ (List.getElem_mem hi)
      rw [f8_p2_eq, lt_true hi, cond_true, nth_at hi, Option.bind_some, Option.bind_some, f8_p1_eq, same_refl _ g1]
      simp only [bne_self_eq_false, cond_false, Option.bind_some, Bool.not_true, f8_p1_o0_x47_y, f8_p1_o0_x48_y, f8_p1_o0_x82_y, f8_p1_o0_r0_0_y, f8_p1_o0_r0_1_y, f8_p1_o0_r0_2_y, f8_p1_o0_r0_3_y, f8_p1_o0_r0_4_y, f8_p1_o0_r1_0_y, f8_p1_o0_r1_1_y, f8_p1_o0_r1_2_y, f8_p1_o0_r1_3_y, f8_p1_o0_r1_4_y, f8_p1_o0_r2_0_y, f8_p1_o0_r2_1_y, f8_p1_o0_r2_2_y, f8_p1_o0_r3_0_y, f8_p1_o0_r3_1_y, f8_p1_o0_r3_2_y]
      have hl2 := go_scan (step := f8_p0_st) (l := D[i].2.2) (fun j => f8_p0_y (D.length : Int) (i : Int) (D[i].2.2.length : Int) (j : Int) S L li cl D S L li cl D D[i].1 D[i].2.1 D[i].2.2 D[i].1 D[i].2.1 D[i].2.2) (fun _ => false) (fun k => some (.inr (f8_p0_o1_y false))) (some (.inl (f8_p0_o0_y (D.length : Int) (i : Int) S L li cl D S L li cl D)))
        (fun j hj rec => by rw [f8_p0_eq, lt_true hj, cond_true, nth_at hj, Option.bind_some, Option.bind_some, bne_self_eq_false, cond_false, cond_false, inc j (by omega)]) (fun rec => by rw [f8_p0_eq, lt_false, cond_false]) (by rw [fuel_def]; omega)
      have hn : D[i].2.2.findIdx? (fun _ => false) = none := by rw [List.findIdx?_eq_none_iff]; intros; rfl
      rw [show ((0 : Nat) : Int) = 0 from rfl, hn] at hl2
      rw [hl2, Option.bind_some]
      dsimp only
      simp only [f8_p0_o0_x47_y, f8_p0_o0_x48_y, f8_p0_o0_r0_0_y, f8_p0_o0_r0_1_y, f8_p0_o0_r0_2_y, f8_p0_o0_r0_3_y, f8_p0_o0_r0_4_y, f8_p0_o0_r1_0_y, f8_p0_o0_r1_1_y, f8_p0_o0_r1_2_y, f8_p0_o0_r1_3_y, f8_p0_o0_r1_4_y]
      rw [inc i (by have := hD.1; omega)]) (fun rec => by rw [f8_p2_eq, lt_false, cond_false]) (by rw [fuel_def]; have := hD.1; omega)
  have hn : D.findIdx? (fun _ => false) = none := by rw [List.findIdx?_eq_none_iff]; intros; rfl
  rw [show ((0 : Nat) : Int) = 0 from rfl, hn] at hl
  rw [hl]; rfl
end Go.Pe.Tryd
end
section
namespace Go.Pe.Tryd
open Go.Proofs Go.RowKit
open Go.Lib (join itoa joinTail)
set_option maxRecDepth 100000
set_option linter.unusedSimpArgs false
set_option linter.unusedVariables false
theorem joinTail_len (r : List (List UInt8)) (M : Nat) (h : ∀ w ∈ r, w.length ≤ M) : (joinTail [32] r).length ≤ r.length * (M + 1) := by
  induction r with
  | nil => simp [joinTail]
  | cons w r ih =>
    have h1 := ih fun x hx => h x (by simp [hx])
    have h2 := h w (by simp)
    simp only [joinTail, List.map_cons, List.flatten_cons, List.length_append, List.length_cons, List.length_nil] at h1 ⊢
    rw [Nat.add_mul]; omega
theorem join_len (r : List (List UInt8)) (M : Nat) (h : ∀ w ∈ r, w.length ≤ M) : (join r [32]).length ≤ r.length * (M + 1) := by
  cases r with
  | nil => simp [Lib.join_nil]
  | cons w r =>
    rw [Lib.join_cons, List.length_append]
    have h1 := joinTail_len r M fun x hx => h x (by simp [hx])
    have h2 := h w (by simp)
    rw [List.length_cons, Nat.add_mul]; omega
def wordsOf (d : Deed) (x : Shp) : List (List UInt8) := x.1 :: (d.2.1.map (fun s => 120 :: hex s) ++ d.2.2.map itoa)
def line (d : Deed) : List UInt8 := join (wordsOf d ((look d.1).getD ([], (0, 0)))) [32]
theorem isDeed_iff {d : Deed} (h : isDeed d = true) : ∃ x, look d.1 = some x ∧ (d.1, x) ∈ shp ∧ (d.2.1.length : Int) = x.2.1 ∧ (d.2.2.length : Int) = x.2.2 ∧ (∀ s ∈ d.2.1, s.length ≤ 3000) ∧ (∀ n ∈ d.2.2, 0 ≤ n ∧ n ≤ 1099511627776) := by
  unfold isDeed at h
  rcases look_cases d.1 with ⟨hn, _⟩ | ⟨_, _, x, hx, hm⟩
  · rw [hn] at h; cases h
  · rw [hx] at h
    simp only [Bool.and_eq_true, beq_iff_eq, List.all_eq_true, decide_eq_true_eq] at h
    exact ⟨x, hx, hm, h.1, h.2.1, h.2.2.1, h.2.2.2.1⟩
theorem shp_word {k : Int} {x : Shp} (h : (k, x) ∈ shp) : x.1.length ≤ 7 ∧ ∀ c ∈ x.1, 97 ≤ c.toNat := by
  simp only [shp, List.mem_cons, Prod.mk.injEq, List.not_mem_nil, or_false] at h
  rcases h with ⟨rfl, rfl⟩ | ⟨rfl, rfl⟩ | ⟨rfl, rfl⟩ | ⟨rfl, rfl⟩ | ⟨rfl, rfl⟩ | ⟨rfl, rfl⟩ | ⟨rfl, rfl⟩ | ⟨rfl, rfl⟩ <;> exact ⟨by decide, by decide⟩
theorem itoa_le {n : Int} (h : 0 ≤ n ∧ n ≤ 1099511627776) : (itoa n).length ≤ 21 := Lib.itoa_length_le n (by omega) (by omega)
theorem words_len {d : Deed} {x : Shp} (hx : (d.1, x) ∈ shp) (h1 : (d.2.1.length : Int) = x.2.1) (h2 : (d.2.2.length : Int) = x.2.2) (h3 : ∀ s ∈ d.2.1, s.length ≤ 3000) (h4 : ∀ n ∈ d.2.2, 0 ≤ n ∧ n ≤ 1099511627776) : (wordsOf d x).length ≤ 6 ∧ ∀ w ∈ wordsOf d x, w.length ≤ 6001 := by
  have hl := shp_len hx
  refine ⟨by simp only [wordsOf, List.length_cons, List.length_append, List.length_map]; omega, fun w hw => ?_⟩
  simp only [wordsOf, List.mem_cons, List.mem_append, List.mem_map] at hw
  rcases hw with rfl | ⟨s, hs, rfl⟩ | ⟨n, hn, rfl⟩
  · have := (shp_word hx).1; omega
  · have := h3 s hs; simp only [List.length_cons, hex_length]; omega
  · have := itoa_le (h4 n hn); omega
theorem line_len {d : Deed} (h : isDeed d = true) : (line d).length ≤ 36012 := by
  obtain ⟨x, hx, hm, h1, h2, h3, h4⟩ := isDeed_iff h
  obtain ⟨g1, g2⟩ := words_len hm h1 h2 h3 h4
  unfold line
  rw [hx]
  have := join_len (wordsOf d x) 6001 g2
  have e : ((some x).getD (([] : List UInt8), ((0 : Int), (0 : Int)))) = x := rfl
  rw [e]
  have : (wordsOf d x).length * (6001 + 1) ≤ 6 * 6002 := Nat.mul_le_mul_right _ g1
  omega
theorem foldi_map {α β : Type} (g : α → β) (l : List α) : ∀ (k : Nat) (s : List β), foldi (fun _ (s : List β) (x : α) => s ++ [g x]) k s l = s ++ l.map g := by
  induction l with
  | nil => intro k s; simp [foldi]
  | cons x l ih => intro k s; rw [foldi, ih]; simp
theorem itoaF_eq {n : Int} (h : 0 ≤ n ∧ n ≤ 1099511627776) : itoaF (n, ()) = some (itoa n, ()) := by
  show (if -9223372036854775808 ≤ n ∧ n ≤ 9223372036854775807 then some (itoa n, ()) else none) = _
  rw [if_pos ⟨by omega, by omega⟩]
theorem joinF_eq {ws : List (List UInt8)} (h1 : ws.length ≤ 900000) (M : Nat) (hM : M ≤ 900000) (h2 : ∀ w ∈ ws, w.length ≤ M) : joinF (ws, (([32] : List UInt8), ())) = some (join ws [32], ()) := by
  show (if ws.length ≤ 140737488355328 ∧ (join ws [32]).length ≤ 140737488355328 then some (join ws [32], ()) else none) = _
  have h3 := join_len ws M h2
  have h4 : ws.length * (M + 1) ≤ 900000 * 900001 := Nat.mul_le_mul h1 (by omega)
  rw [if_pos ⟨by omega, by omega⟩]
theorem line_eq (k : Int) (ts : List (List UInt8)) (ns : List Int) (h : isDeed (k, (ts, ns)) = true) : f16_F ((k, (ts, (ns, ()))), ()) = some (line (k, (ts, ns)), ()) := by
  obtain ⟨x, hx, hm, h1, h2, h3, h4⟩ := isDeed_iff h
  obtain ⟨g1, g2⟩ := words_len hm h1 h2 h3 h4
  have hl := shp_len hm
  dsimp only at hx h1 h2 h3 h4
  rw [f16_eq, shapes_eq, Option.bind_some, mget_look, hx, Option.getD_some]
  have a1 := go_foldi (step := f16_p1_st) (l := ts) (fun i s => f16_p1_y ts (ts.length : Int) (i : Int) k ts ns s) (fun _ s t => s ++ [120 :: hex t]) (fun i s => s.length = i + 1) (s0 := [x.1]) (fin := fun s => some (f16_p1_o0_y k ts ns s)) rfl
    (fun i s hi hs => ⟨by simp [hs], fun rec => by
      have hle := h3 _ (List.getElem_mem hi)
      rw [f16_p1_eq, lt_true hi, cond_true, nth_at hi, Option.bind_some, hex_eq _ (by omega), Option.bind_some]
      dsimp only
      rw [if_pos (by rw [hex_length]; simp; omega), appOk, if_pos (by simp; omega), inc i (by omega)]; rfl⟩) (fun s hs rec => by rw [f16_p1_eq, lt_false, cond_false]) (by rw [fuel_def]; omega)
  obtain ⟨a1, b1⟩ := a1
  rw [show ((0 : Nat) : Int) = 0 from rfl] at a1
  rw [a1, Option.bind_some, foldi_map]
  simp only [f16_p1_o0_r0_0_y, f16_p1_o0_r0_1_y, f16_p1_o0_r0_2_y, f16_p1_o0_l1_y]
  have a2 := go_foldi (step := f16_p0_st) (l := ns) (fun i s => f16_p0_y ns (ns.length : Int) (i : Int) s) (fun _ s n => s ++ [itoa n]) (fun i s => s.length = i + (ts.length + 1)) (s0 := [x.1] ++ ts.map fun t => 120 :: hex t) (fin := fun s => some (f16_p0_o0_y s)) (by simp)
    (fun i s hi hs => ⟨by simp [hs]; omega, fun rec => by
      rw [f16_p0_eq, lt_true hi, cond_true, nth_at hi, Option.bind_some, itoaF_eq (h4 _ (List.getElem_mem hi)), Option.bind_some, appOk, if_pos (by simp; omega), inc i (by omega)]⟩) (fun s hs rec => by rw [f16_p0_eq, lt_false, cond_false]) (by rw [fuel_def]; omega)
  obtain ⟨a2, b2⟩ := a2
  rw [show ((0 : Nat) : Int) = 0 from rfl] at a2
  rw [a2, Option.bind_some, foldi_map]
  simp only [f16_p0_o0_l1_y]
  have e : [x.1] ++ ts.map (fun t => 120 :: hex t) ++ ns.map itoa = wordsOf (k, (ts, ns)) x := by simp [wordsOf]
  rw [e, joinF_eq (by omega) 6001 (by omega) g2, Option.bind_some]
  unfold line
  rw [hx]; rfl
def sysW : List UInt8 := [115, 121, 115, 116, 101, 109]
def firstW (S : List (List UInt8)) (L : List UInt8) (li cl : Int) : List (List UInt8) := sysW :: (S.map hex ++ [hex L, itoa li, itoa cl])
def first (S : List (List UInt8)) (L : List UInt8) (li cl : Int) : List UInt8 := join (firstW S L li cl) [32]
theorem begins_iff {S : List (List UInt8)} {L : List UInt8} {li cl : Int} (h : begins S L li cl = true) : S.length = 4 ∧ (∀ s ∈ S, s.length = 32) ∧ L.length = 32 ∧ 1 ≤ li ∧ li ≤ 1000000 ∧ 1 ≤ cl ∧ cl ≤ 4 := by
  unfold begins at h
  simp only [Bool.and_eq_true, beq_iff_eq, List.all_eq_true, decide_eq_true_eq] at h
  obtain ⟨h1, h2, h3, h4, h5, h6, h7⟩ := h
  exact ⟨by omega, fun s hs => by have := h2 s hs; omega, by omega, h4, h5, h6, h7⟩
theorem firstW_len {S : List (List UInt8)} {L : List UInt8} {li cl : Int} (h : begins S L li cl = true) : (firstW S L li cl).length = 8 ∧ ∀ w ∈ firstW S L li cl, w.length ≤ 64 := by
  obtain ⟨h1, h2, h3, h4, h5, h6, h7⟩ := begins_iff h
  refine ⟨by simp [firstW, h1], fun w hw => ?_⟩
  simp only [firstW, List.mem_cons, List.mem_append, List.mem_map, List.not_mem_nil, or_false] at hw
  rcases hw with rfl | ⟨s, hs, rfl⟩ | rfl | rfl | rfl
  · decide
  · rw [hex_length, h2 s hs]; omega
  · rw [hex_length, h3]; omega
  · have := itoa_le (n := li) ⟨by omega, by omega⟩; omega
  · have := itoa_le (n := cl) ⟨by omega, by omega⟩; omega
theorem first_len {S : List (List UInt8)} {L : List UInt8} {li cl : Int} (h : begins S L li cl = true) : (first S L li cl).length ≤ 520 := by
  obtain ⟨g1, g2⟩ := firstW_len h
  have := join_len _ 64 g2
  rw [g1] at this
  unfold first; omega
theorem first_eq (S : List (List UInt8)) (L : List UInt8) (li cl : Int) (D : List Deed) (h : begins S L li cl = true) : f15_F ((S, (L, (li, (cl, (D, ()))))), ()) = some (first S L li cl, ()) := by
  obtain ⟨h1, h2, h3, h4, h5, h6, h7⟩ := begins_iff h
  obtain ⟨g1, g2⟩ := firstW_len h
  rw [f15_eq]
  have a1 := go_foldi (step := f15_p0_st) (l := S) (fun i s => f15_p0_y S (S.length : Int) (i : Int) S L li cl D s) (fun _ s t => s ++ [hex t]) (fun i s => s.length = i + 1) (s0 := [sysW]) (fin := fun s => some (f15_p0_o0_y S L li cl D s)) rfl
    (fun i s hi hs => ⟨by simp [hs], fun rec => by
      have hle := h2 _ (List.getElem_mem hi)
      rw [f15_p0_eq, lt_true hi, cond_true, nth_at hi, Option.bind_some, hex_eq _ (by omega), Option.bind_some]
      dsimp only
      rw [appOk, if_pos (by simp; omega), inc i (by omega)]⟩) (fun s hs rec => by rw [f15_p0_eq, lt_false, cond_false]) (by rw [fuel_def]; omega)
  obtain ⟨a1, b1⟩ := a1
  rw [show ((0 : Nat) : Int) = 0 from rfl] at a1
  have e0 : go f15_p0_st (f15_p0_y S (S.length : Int) (0 : Int) S L li cl D ([([115, 121, 115, 116, 101, 109] : List UInt8)] : List (List UInt8))) = _ := a1
  rw [e0, Option.bind_some, foldi_map]
  simp only [f15_p0_o0_r0_0_y, f15_p0_o0_r0_1_y, f15_p0_o0_r0_2_y, f15_p0_o0_r0_3_y, f15_p0_o0_r0_4_y, f15_p0_o0_l0_y]
  rw [hex_eq L (by omega), Option.bind_some, itoaF_eq ⟨by omega, by omega⟩, Option.bind_some, itoaF_eq ⟨by omega, by omega⟩, Option.bind_some, appOk, if_pos (by simp; omega)]
  have e : [sysW] ++ S.map hex ++ [hex L, itoa li, itoa cl] = firstW S L li cl := by simp [firstW]
  dsimp only
  rw [e, joinF_eq (by omega) 64 (by omega) g2, Option.bind_some]; rfl
def linesOf (D : List Deed) : List UInt8 := D.flatMap fun d => line d ++ [10]
def textOf (S : List (List UInt8)) (L : List UInt8) (li cl : Int) (D : List Deed) : List UInt8 := first S L li cl ++ 10 :: linesOf D
theorem right_iff {S : List (List UInt8)} {L : List UInt8} {li cl : Int} {D : List Deed} (h : right S L li cl D = true) : begins S L li cl = true ∧ D.length ≤ 200 ∧ ∀ d ∈ D, isDeed d = true := by
  unfold right at h
  simp only [Bool.and_eq_true, List.all_eq_true, decide_eq_true_eq] at h
  exact ⟨h.1, by omega, h.2.2⟩
theorem foldi_lines (D : List Deed) : ∀ (k : Nat) (s : List UInt8), foldi (fun _ (s : List UInt8) (d : Deed) => s ++ (line d ++ [10])) k s D = s ++ linesOf D := by
  induction D with
  | nil => intro k s; simp [foldi, linesOf]
  | cons d D ih => intro k s; rw [foldi, ih]; simp [linesOf]
theorem lines_len {D : List Deed} (h : ∀ d ∈ D, isDeed d = true) : (linesOf D).length ≤ D.length * 36013 := by
  induction D with
  | nil => simp [linesOf]
  | cons d D ih =>
    have h1 := ih fun x hx => h x (by simp [hx])
    have h2 := line_len (h d (by simp))
    simp only [linesOf, List.flatMap_cons, List.length_append, List.length_cons, List.length_nil] at h1 ⊢
    omega
theorem text_len {S : List (List UInt8)} {L : List UInt8} {li cl : Int} {D : List Deed} (h : right S L li cl D = true) : (textOf S L li cl D).length ≤ 8000000 := by
  obtain ⟨h1, h2, h3⟩ := right_iff h
  have := first_len h1
  have := lines_len h3
  have : D.length * 36013 ≤ 200 * 36013 := Nat.mul_le_mul_right _ h2
  simp only [textOf, List.length_append, List.length_cons]; omega
theorem print_eq (S : List (List UInt8)) (L : List UInt8) (li cl : Int) (D : List Deed) (hS : S.length ≤ 900000) (hD : Small D) : f6_F ((S, (L, (li, (cl, (D, ()))))), ()) = some (if right S L li cl D = true then (textOf S L li cl D, (0, ())) else ([], (1, ()))) := by
  rw [f6_eq, rightP_eq S L li cl D hS hD, Option.bind_some]
  dsimp only
  cases hr : right S L li cl D with
  | false => rfl
  | true =>
    obtain ⟨h1, h2, h3⟩ := right_iff hr
    rw [Bool.not_true, cond_false, first_eq S L li cl D h1, Option.bind_some]
    dsimp only
    have hf := first_len h1
    rw [if_pos (by simp; omega)]
    have a1 := go_foldi (step := f6_p0_st) (l := D) (fun i s => f6_p0_y s D (D.length : Int) (i : Int)) (fun _ s d => s ++ (line d ++ [10])) (fun i s => s.length ≤ 521 + i * 36013) (s0 := first S L li cl ++ [10]) (fin := fun s => some (f6_p0_o0_y s)) (by simp; omega)
      (fun i s hi hs => ⟨by
        have := line_len (h3 _ (List.getElem_mem hi))
        rw [List.length_append, List.length_append, List.length_cons, List.length_nil, Nat.add_mul]; omega, fun rec => by
        have hd := h3 _ (List.getElem_mem hi)
        have hle := line_len hd
        rw [f6_p0_eq, lt_true hi, cond_true, nth_at hi, Option.bind_some, line_eq D[i].1 D[i].2.1 D[i].2.2 hd, Option.bind_some]
        dsimp only
        have : i * 36013 ≤ 200 * 36013 := Nat.mul_le_mul_right _ (by omega)
        have e : (D[i].1, D[i].2.1, D[i].2.2) = D[i] := rfl
        rw [if_pos (by rw [e]; simp; omega), if_pos (by rw [e]; simp; omega), inc i (by omega)]⟩) (fun s hs rec => by rw [f6_p0_eq, lt_false, cond_false]) (by rw [fuel_def]; omega)
    obtain ⟨a1, b1⟩ := a1
    rw [show ((0 : Nat) : Int) = 0 from rfl] at a1
    rw [a1, Option.bind_some, foldi_lines]
    simp only [f6_p0_o0_x4_y]
    rw [if_pos trivial]
    simp [textOf]
end Go.Pe.Tryd
end
section
namespace Go.Pe.Tryd
open Go.Proofs Go.RowKit
open Go.Lib (join itoa joinTail)
set_option maxRecDepth 100000
set_option linter.unusedSimpArgs false
set_option linter.unusedVariables false
def tx (w : List UInt8) : List UInt8 := (unhex w).getD []
theorem tx_hex (s : List UInt8) : tx (hex s) = s := by rw [tx, unhex_hex]; rfl
theorem no_of_ge {c : UInt8} {w : List UInt8} (m : Nat) (h : ∀ x ∈ w, m ≤ x.toNat) (hc : c.toNat < m) : c ∉ w := fun hm => by have := h c hm; omega
theorem hex_no (s : List UInt8) {c : UInt8} (hc : c.toNat < 48) : c ∉ hex s := no_of_ge 48 (hex_digit s) hc
theorem itoa_no {n : Int} (h : 0 ≤ n) {c : UInt8} (hc : c.toNat < 48) : c ∉ itoa n := no_of_ge 48 (fun x hx => (itoa_digit n h x hx).1) hc
theorem firstW_no {S : List (List UInt8)} {L : List UInt8} {li cl : Int} (h : begins S L li cl = true) {c : UInt8} (hc : c.toNat < 48) : ∀ w ∈ firstW S L li cl, c ∉ w := by
  obtain ⟨h1, h2, h3, h4, h5, h6, h7⟩ := begins_iff h
  intro w hw
  simp only [firstW, List.mem_cons, List.mem_append, List.mem_map, List.not_mem_nil, or_false] at hw
  rcases hw with rfl | ⟨s, hs, rfl⟩ | rfl | rfl | rfl
  · exact no_of_ge 97 (by decide) (by omega)
  · exact hex_no _ hc
  · exact hex_no _ hc
  · exact itoa_no (by omega) hc
  · exact itoa_no (by omega) hc
theorem split_first {S : List (List UInt8)} {L : List UInt8} {li cl : Int} (h : begins S L li cl = true) : splitC 32 (first S L li cl) = firstW S L li cl := splitC_join (by simp [firstW]) (firstW_no h (by decide))
theorem words_no {d : Deed} {x : Shp} (hx : (d.1, x) ∈ shp) (h4 : ∀ n ∈ d.2.2, 0 ≤ n ∧ n ≤ 1099511627776) {c : UInt8} (hc : c.toNat < 48) : ∀ w ∈ wordsOf d x, c ∉ w := by
  intro w hw
  simp only [wordsOf, List.mem_cons, List.mem_append, List.mem_map] at hw
  rcases hw with rfl | ⟨s, hs, rfl⟩ | ⟨n, hn, rfl⟩
  · exact no_of_ge 97 (shp_word hx).2 (by omega)
  · intro hm
    rcases List.mem_cons.1 hm with rfl | hm
    · simp at hc
    · exact hex_no _ hc hm
  · exact itoa_no (h4 n hn).1 hc
theorem splitF_eq (s : List UInt8) (h : s.length ≤ 900000) : splitF (s, (([32] : List UInt8), ())) = some (splitC 32 s, ()) := by
  show (if s.length < 4294967281 ∧ 1 ≤ ([32] : List UInt8).length then some (((Lib.splitB ⟨#[32]⟩ 0 (Lib.countB ⟨s.toArray⟩ ⟨#[32]⟩) ⟨s.toArray⟩).map (·.data.toList)), ()) else none) = _
  rw [if_pos ⟨by omega, by decide⟩, split_words]
theorem splitC_le {c : UInt8} : ∀ (s : List UInt8), ∀ w ∈ splitC c s, w.length ≤ s.length
  | [], w, h => by simp [splitC] at h; subst h; simp
  | b :: s, w, h => by
    have ih := splitC_le (c := c) s
    unfold splitC at h
    split at h
    · rcases List.mem_cons.1 h with rfl | h
      · simp
      · have := ih w h; simp; omega
    · split at h
      · rename_i w0 ws hs
        rcases List.mem_cons.1 h with rfl | h
        · have := ih w0 (by rw [hs]; simp); simp; omega
        · have := ih w (by rw [hs]; simp [h]); simp; omega
      · simp only [List.mem_singleton] at h; subst h; simp
theorem splitC_ne {c : UInt8} : ∀ (s : List UInt8), splitC c s ≠ []
  | [] => by simp [splitC]
  | b :: s => by
    unfold splitC
    split
    · simp
    · split <;> simp
theorem numberF_eq (s : List UInt8) (h : s.length ≤ 900000) : numberF (s, ()) = some (numOf s, ()) := by
  show (if s.length ≤ 4294967296 then some (numOf s, ()) else none) = _
  rw [if_pos (by omega)]
theorem list8 {α : Type} : ∀ {l : List α}, l.length = 8 → ∃ a b c d e f g h, l = [a, b, c, d, e, f, g, h]
  | [a, b, c, d, e, f, g, h], _ => ⟨a, b, c, d, e, f, g, h, rfl⟩
theorem list4 {α : Type} : ∀ {l : List α}, l.length = 4 → ∃ a b c d, l = [a, b, c, d]
  | [a, b, c, d], _ => ⟨a, b, c, d, rfl⟩
theorem begin_eq (s : List UInt8) (h : s.length ≤ 900000) : ∃ S L li cl ok, h17_F (h17_y s) = some (h17_o_y L li cl ok S) ∧ (ok = true → begins S L li cl = true ∧ first S L li cl = s) ∧
    (∀ S0 L0 li0 cl0, begins S0 L0 li0 cl0 = true → s = first S0 L0 li0 cl0 → ok = true ∧ S = S0 ∧ L = L0 ∧ li = li0 ∧ cl = cl0) := by
  rw [h17_eq, splitF_eq s h, Option.bind_some]
  dsimp only
  by_cases h8 : (splitC 32 s).length = 8
  · rw [show (((splitC 32 s).length : Int) != 8) = false from by rw [h8]; rfl, cond_false]
    have hle := splitC_le (c := 32) s
    obtain ⟨w0, w1, w2, w3, w4, w5, w6, w7, hw⟩ := list8 h8
    have hws : ∀ w ∈ [w0, w1, w2, w3, w4, w5, w6, w7], w.length ≤ 900000 := fun w hm => by have := hle w (by rw [hw]; exact hm); omega
    rw [hw]
    rw [show nth [w0, w1, w2, w3, w4, w5, w6, w7] (5 : Int) = some w5 from rfl, Option.bind_some, text_eq w5 (hws w5 (by simp)), Option.bind_some, show nth [w0, w1, w2, w3, w4, w5, w6, w7] (6 : Int) = some w6 from rfl, Option.bind_some, numberF_eq w6 (hws w6 (by simp)), Option.bind_some, show nth [w0, w1, w2, w3, w4, w5, w6, w7] (7 : Int) = some w7 from rfl, Option.bind_some, numberF_eq w7 (hws w7 (by simp)), Option.bind_some]
    have hcm : ∀ {S : Type} (K : List (List UInt8) → Option S), cutMid [w0, w1, w2, w3, w4, w5, w6, w7] (1 : Int) (5 : Int) K = K [w1, w2, w3, w4] := fun K => by unfold cutMid; rw [if_pos (by simp)]; rfl
    rw [hcm]
    have a1 := go_foldi (step := h17_p0_st) (l := [w1, w2, w3, w4]) (fun i t => h17_p0_y s [w1, w2, w3, w4] (([w1, w2, w3, w4] : List (List UInt8)).length : Int) (i : Int) [] 0 0 (tx w5) (numOf w6) (numOf w7) t) (fun _ t w => t ++ [tx w]) (fun i t => t.length = i) (s0 := []) (fin := fun t => some (h17_p0_o0_y s [] 0 0 (tx w5) (numOf w6) (numOf w7) t)) rfl
      (fun i t hi ht => ⟨by simp [ht], fun rec => by
        have hm : ([w1, w2, w3, w4] : List (List UInt8))[i].length ≤ 900000 := hws _ (show _ ∈ w0 :: ([w1, w2, w3, w4] ++ [w5, w6, w7]) from List.mem_cons_of_mem _ (List.mem_append_left _ (List.getElem_mem hi)))
        have hi4 : i < 4 := hi
        rw [h17_p0_eq, lt_true hi, cond_true, nth_at hi, Option.bind_some, text_eq _ hm, Option.bind_some, appOk, if_pos (by simp; omega), inc i (by omega)]; rfl⟩) (fun t ht rec => by rw [h17_p0_eq, lt_false, cond_false]) (by rw [fuel_def]; simp only [List.length_cons, List.length_nil]; omega)
    obtain ⟨a1, b1⟩ := a1
    rw [show ((0 : Nat) : Int) = 0 from rfl] at a1
    have e0 : go h17_p0_st (h17_p0_y s [w1, w2, w3, w4] (([w1, w2, w3, w4] : List (List UInt8)).length : Int) (0 : Int) ([] : List UInt8) (0 : Int) (0 : Int) ((unhex w5).getD []) (numOf w6) (numOf w7) ([] : List (List UInt8))) = _ := a1
    rw [e0, Option.bind_some, foldi_map]
    simp only [h17_p0_o0_x0_y, h17_p0_o0_r0_1_y, h17_p0_o0_r0_2_y, h17_p0_o0_r0_3_y, h17_p0_o0_r1_1_y, h17_p0_o0_r1_2_y, h17_p0_o0_r1_3_y, h17_p0_o0_l0_y, List.nil_append]
    rw [begins_eq _ _ _ _ _ (by simp), Option.bind_some]
    cases hb : begins ([w1, w2, w3, w4].map tx) (tx w5) (numOf w6) (numOf w7) with
    | false =>
      refine ⟨_, _, _, _, false, by rw [cond_false], fun h => (by cases h), fun S0 L0 li0 cl0 hb0 hs0 => ?_⟩
      exfalso
      rw [hs0, split_first hb0] at hw
      obtain ⟨g1, g2, g3, g4, g5, g6, g7⟩ := begins_iff hb0
      obtain ⟨a, b, c, d, rfl⟩ := list4 g1
      simp only [firstW, List.map_cons, List.map_nil, List.cons_append, List.nil_append, List.cons.injEq, and_true] at hw
      obtain ⟨_, rfl, rfl, rfl, rfl, rfl, rfl, rfl⟩ := hw
      rw [List.map_cons, List.map_cons, List.map_cons, List.map_cons, List.map_nil, tx_hex, tx_hex, tx_hex, tx_hex, tx_hex, numOf_itoa _ (by omega) (by omega), numOf_itoa _ (by omega) (by omega), hb0] at hb
      cases hb
    | true =>
      refine ⟨_, _, _, _, first ([w1, w2, w3, w4].map tx) (tx w5) (numOf w6) (numOf w7) == s, by rw [cond_true, first_eq _ _ _ _ _ hb, Option.bind_some], fun h => ⟨hb, by simpa using h⟩, fun S0 L0 li0 cl0 hb0 hs0 => ?_⟩
      have hw' := hw
      rw [hs0, split_first hb0] at hw'
      obtain ⟨g1, g2, g3, g4, g5, g6, g7⟩ := begins_iff hb0
      obtain ⟨a, b, c, d, rfl⟩ := list4 g1
      simp only [firstW, List.map_cons, List.map_nil, List.cons_append, List.nil_append, List.cons.injEq, and_true] at hw'
      obtain ⟨_, rfl, rfl, rfl, rfl, rfl, rfl, rfl⟩ := hw'
      rw [List.map_cons, List.map_cons, List.map_cons, List.map_cons, List.map_nil, tx_hex, tx_hex, tx_hex, tx_hex, tx_hex, numOf_itoa _ (by omega) (by omega), numOf_itoa _ (by omega) (by omega)]
      exact ⟨by rw [hs0]; simp, rfl, rfl, rfl, rfl⟩
  · rw [show (((splitC 32 s).length : Int) != 8) = true from by simp; omega, cond_true]
    refine ⟨_, _, _, _, _, rfl, fun h => (by cases h), fun S0 L0 li0 cl0 hb0 hs0 => ?_⟩
    exfalso
    rw [hs0, split_first hb0] at h8
    exact h8 (firstW_len hb0).1
theorem shp_one : ∀ a ∈ shp, ∀ b ∈ shp, a.2.1 = b.2.1 → a = b := by decide
def rd (t : Int) (i : Nat) (s : List (List UInt8) × List Int) (w : List UInt8) : List (List UInt8) × List Int :=
  if (i : Int) < t then (s.1 ++ [tx (Lib.trimPrefix w [120])], s.2) else (s.1, s.2 ++ [numOf w])
theorem rd_nums (t : Int) (B : List Int) (hB : ∀ n ∈ B, 0 ≤ n ∧ n ≤ 1099511627776) : ∀ (k : Nat) (s : List (List UInt8) × List Int), t ≤ k → foldi (rd t) k s (B.map itoa) = (s.1, s.2 ++ B) := by
  induction B with
  | nil => intro k s _; simp [foldi]
  | cons n B ih =>
    intro k s hk
    have hn := hB n (by simp)
    rw [List.map_cons, foldi, ih (fun m hm => hB m (by simp [hm])) _ _ (by omega)]
    rw [rd, if_neg (by omega), numOf_itoa n (by omega) (by omega)]
    simp
theorem rd_words (t : Int) (A : List (List UInt8)) (B : List Int) (hB : ∀ n ∈ B, 0 ≤ n ∧ n ≤ 1099511627776) : ∀ (k : Nat) (s : List (List UInt8) × List Int), (k : Int) + A.length = t → foldi (rd t) k s (A.map (fun s => 120 :: hex s) ++ B.map itoa) = (s.1 ++ A, s.2 ++ B) := by
  induction A with
  | nil => intro k s hk; simp only [List.map_nil, List.nil_append, List.append_nil]; exact rd_nums t B hB k s (by simp at hk; omega)
  | cons a A ih =>
    intro k s hk
    simp only [List.length_cons] at hk
    rw [List.map_cons, List.cons_append, foldi, ih _ _ (by omega)]
    rw [rd, if_pos (by omega), trim_x, tx_hex]
    simp
theorem trim_le (w : List UInt8) : (Lib.trimPrefix w [120]).length ≤ w.length := by
  unfold Lib.trimPrefix
  split
  · simp
  · exact Nat.le_refl _
theorem deed_round (s : List UInt8) (hs : s.length ≤ 900000) (k : Int) (x : Shp) (hm : (k, x) ∈ shp) (w : List UInt8) (ws : List (List UInt8)) (hW : splitC 32 s = w :: ws) (hn : ((w :: ws).length : Int) = 1 + x.2.1 + x.2.2) (hw : x.1 = w) :
    ∃ ok, f18_p2_st (f18_p2_h_y s (splitC 32 s) 0) (k, x) = some (.inr (.inr (f18_p2_o1_y ok k (foldi (rd x.2.1) 0 ([], []) ws).1 (foldi (rd x.2.1) 0 ([], []) ws).2))) ∧
      (ok = true ↔ (isDeed (k, foldi (rd x.2.1) 0 ([], []) ws) = true ∧ line (k, foldi (rd x.2.1) 0 ([], []) ws) = s)) := by
  have hl := shp_len hm
  have hle := splitC_le (c := 32) s
  rw [hW] at hle
  rw [f18_p2_st_eq, hW, show nth (w :: ws) (0 : Int) = some w from rfl, Option.bind_some]
  dsimp only
  rw [show (x.1 != w) = false from by simpa using hw, cond_false]
  rw [show IntKind.i64.wrap (IntKind.i64.wrap (1 + x.2.1) + x.2.2) = 1 + x.2.1 + x.2.2 from by rw [wrap64 (x := 1 + x.2.1) (by omega) (by omega), wrap64 (by omega) (by omega)]]
  rw [show (((w :: ws).length : Int) != 1 + x.2.1 + x.2.2) = false from by rw [hn]; simp, cond_false]
  have hcl : ∀ {S : Type} (K : List (List UInt8) → Option S), cutLo (w :: ws) (1 : Int) K = K ws := fun K => by unfold cutLo; rw [if_pos (by simp; omega)]; rfl
  rw [hcl]
  have hwl : ws.length ≤ 5 := by simp only [List.length_cons] at hn; omega
  have a1 := go_foldi (step := f18_p1_st) (l := ws) (fun i t => f18_p1_y s ws (ws.length : Int) (i : Int) 0 x.1 x.2.1 x.2.2 k t.1 t.2) (rd x.2.1) (fun i t => t.1.length + t.2.length = i) (s0 := ([], [])) (fin := fun t => some (f18_p1_o0_y s 0 k t.1 t.2)) rfl
    (fun i t hi ht => ⟨by unfold rd; split <;> simp <;> omega, fun rec => by
      have hwi : ws[i].length ≤ 900000 := by have := hle ws[i] (by simp); omega
      rw [f18_p1_eq, lt_true hi, cond_true, f18_p0_eq, nth_at hi, Option.bind_some]
      unfold rd
      by_cases hlt : (i : Int) < x.2.1
      · rw [show decide ((i : Int) < x.2.1) = true from by simpa using hlt, cond_true, if_pos hlt]
        rw [show trimF (ws[i], (([120] : List UInt8), ())) = some (Lib.trimPrefix ws[i] [120], ()) from rfl, Option.bind_some, text_eq _ (by have := trim_le ws[i]; dsimp only; omega), Option.bind_some, appOk, if_pos (by simp; omega), Option.bind_some]
        simp only [f18_p0_o0_x0_y, f18_p0_o0_x39_y, f18_p0_o0_x40_y, f18_p0_o0_x41_y, f18_p0_o0_r0_0_y, f18_p0_o0_r1_0_y, f18_p0_o0_r1_1_y, f18_p0_o0_r1_2_y, f18_p0_o0_r2_0_y, f18_p0_o0_l0_y, f18_p0_o0_l1_y]
        rw [inc i (by omega)]; rfl
      · rw [show decide ((i : Int) < x.2.1) = false from by simpa using hlt, cond_false, if_neg hlt, numberF_eq _ hwi, Option.bind_some, appOk, if_pos (by simp; omega), Option.bind_some]
        simp only [f18_p0_o0_x0_y, f18_p0_o0_x39_y, f18_p0_o0_x40_y, f18_p0_o0_x41_y, f18_p0_o0_r0_0_y, f18_p0_o0_r1_0_y, f18_p0_o0_r1_1_y, f18_p0_o0_r1_2_y, f18_p0_o0_r2_0_y, f18_p0_o0_l0_y, f18_p0_o0_l1_y]
        rw [inc i (by omega)]⟩) (fun t ht rec => by rw [f18_p1_eq, lt_false, cond_false]) (by rw [fuel_def]; omega)
  obtain ⟨a1, b1⟩ := a1
  rw [show ((0 : Nat) : Int) = 0 from rfl] at a1
  have e0 : go f18_p1_st (f18_p1_y s ws (ws.length : Int) (0 : Int) 0 x.1 x.2.1 x.2.2 k ([] : List (List UInt8)) ([] : List Int)) = _ := a1
  rw [e0, Option.bind_some]
  generalize foldi (rd x.2.1) 0 ([], []) ws = t at b1 ⊢
  obtain ⟨ts, ns⟩ := t
  simp only [f18_p1_o0_x0_y, f18_p1_o0_r0_0_y, f18_p1_o0_r2_0_y, f18_p1_o0_l0_y, f18_p1_o0_l1_y]
  rw [right_eq k ts ns (by dsimp only at b1; omega) (by dsimp only at b1; omega), Option.bind_some]
  dsimp only
  cases hd : isDeed (k, (ts, ns)) with
  | false => exact ⟨false, by rw [cond_false], by simp⟩
  | true =>
    refine ⟨line (k, (ts, ns)) == s, by rw [cond_true, line_eq k ts ns hd, Option.bind_some], by simp⟩
theorem deed_other (s : List UInt8) (k : Int) (x : Shp) (hm : (k, x) ∈ shp) (w : List UInt8) (ws : List (List UInt8)) (hW : splitC 32 s = w :: ws) (h : ¬ (x.1 = w ∧ ((w :: ws).length : Int) = 1 + x.2.1 + x.2.2)) :
    f18_p2_st (f18_p2_h_y s (splitC 32 s) 0) (k, x) = some (.inl (f18_p2_h_y s (splitC 32 s) 0)) := by
  have hl := shp_len hm
  rw [f18_p2_st_eq, hW, show nth (w :: ws) (0 : Int) = some w from rfl, Option.bind_some]
  dsimp only
  by_cases hw : x.1 = w
  · rw [show (x.1 != w) = false from by simpa using hw, cond_false]
    rw [show IntKind.i64.wrap (IntKind.i64.wrap (1 + x.2.1) + x.2.2) = 1 + x.2.1 + x.2.2 from by rw [wrap64 (x := 1 + x.2.1) (by omega) (by omega), wrap64 (by omega) (by omega)]]
    rw [show (((w :: ws).length : Int) != 1 + x.2.1 + x.2.2) = true from by simp only [bne_iff_ne, ne_eq]; exact fun e => h ⟨hw, e⟩, cond_true]
  · rw [show (x.1 != w) = true from by simpa using hw, cond_true]
theorem split_line {d : Deed} (h : isDeed d = true) : ∃ x, (d.1, x) ∈ shp ∧ splitC 32 (line d) = x.1 :: (d.2.1.map (fun s => 120 :: hex s) ++ d.2.2.map itoa) ∧ (d.2.1.length : Int) = x.2.1 ∧ (d.2.2.length : Int) = x.2.2 ∧ ∀ n ∈ d.2.2, 0 ≤ n ∧ n ≤ 1099511627776 := by
  obtain ⟨x, hx, hm, h1, h2, h3, h4⟩ := isDeed_iff h
  refine ⟨x, hm, ?_, h1, h2, h4⟩
  unfold line
  rw [hx]
  exact splitC_join (by simp [wordsOf]) (words_no hm h4 (by decide))
theorem deed_eq (s : List UInt8) (hs : s.length ≤ 900000) : ∃ d ok, f18_F (s, ()) = some ((d.1, (d.2.1, (d.2.2, ()))), (ok, ())) ∧ (ok = true → isDeed d = true ∧ line d = s) ∧ (∀ d0 : Deed, isDeed d0 = true → s = line d0 → ok = true ∧ d = d0) := by
  obtain ⟨w, ws, hW⟩ : ∃ w ws, splitC 32 s = w :: ws := by
    cases h : splitC 32 s with
    | nil => exact absurd h (splitC_ne s)
    | cons w ws => exact ⟨w, ws, rfl⟩
  rw [f18_eq, splitF_eq s hs, Option.bind_some, f18_p2_eq, shapes_eq, Option.bind_some]
  dsimp only
  rw [show mpairs (.int .i64) (.prod .str (.prod (.int .i64) (.int .i64))) true (h36_o_l0 (h36_o_y shpM)) = shp from by rw [h36_o_l0_y]; rfl]
  by_cases hex : ∃ q ∈ shp, q.2.1 = w ∧ ((w :: ws).length : Int) = 1 + q.2.2.1 + q.2.2.2
  · obtain ⟨⟨k, x⟩, hm, hw, hn⟩ := hex
    dsimp only at hw hn
    obtain ⟨ok, h1, h2⟩ := deed_round s hs k x hm w ws hW hn hw
    have hmr : MrOk (f18_p2_st (f18_p2_h_y s (splitC 32 s) 0)) (f18_p2_fin (f18_p2_h_y s (splitC 32 s) 0)) shp (f18_p2_h_y s (splitC 32 s) 0) (.inr (f18_p2_o1_y ok k (foldi (rd x.2.1) 0 ([], []) ws).1 (foldi (rd x.2.1) 0 ([], []) ws).2)) := by
      refine ⟨fun q hq => ?_, .inl ⟨(k, x), hm, h1⟩⟩
      by_cases he : q.2.1 = w ∧ ((w :: ws).length : Int) = 1 + q.2.2.1 + q.2.2.2
      · have := shp_one q hq (k, x) hm (by rw [he.1, hw])
        subst this
        exact .inr h1
      · exact .inl (deed_other s q.1 q.2 hq w ws hW he)
    rw [mr_eq hmr, Option.bind_some]
    dsimp only
    simp only [f18_p2_o1_x3_y, f18_p2_o1_r0_0_y, f18_p2_o1_l0_y, f18_p2_o1_l1_y]
    refine ⟨(k, foldi (rd x.2.1) 0 ([], []) ws), ok, rfl, fun h => h2.1 h, fun d0 hd0 hs0 => ?_⟩
    obtain ⟨x0, hm0, hsp, g1, g2, g4⟩ := split_line hd0
    rw [← hs0, hW] at hsp
    simp only [List.cons.injEq] at hsp
    have := shp_one (k, x) hm (d0.1, x0) hm0 (by dsimp only; rw [hw, hsp.1])
    simp only [Prod.mk.injEq] at this
    obtain ⟨rfl, rfl⟩ := this
    have e : foldi (rd x.2.1) 0 ([], []) ws = (d0.2.1, d0.2.2) := by
      rw [hsp.2, rd_words x.2.1 d0.2.1 d0.2.2 g4 0 ([], []) (by simp [g1])]; simp
    rw [e] at h2 ⊢
    exact ⟨h2.2 ⟨hd0, hs0.symm⟩, rfl⟩
  · have hmr : MrOk (f18_p2_st (f18_p2_h_y s (splitC 32 s) 0)) (f18_p2_fin (f18_p2_h_y s (splitC 32 s) 0)) shp (f18_p2_h_y s (splitC 32 s) 0) (.inl (f18_p2_o0_y 0)) :=
      ⟨fun q hq => .inl (deed_other s q.1 q.2 hq w ws hW fun he => hex ⟨q, hq, he⟩), .inr (by rw [f18_p2_fin_eq])⟩
    rw [mr_eq hmr, Option.bind_some]
    refine ⟨(0, ([], [])), false, rfl, fun h => (by cases h), fun d0 hd0 hs0 => ?_⟩
    exfalso
    obtain ⟨x0, hm0, hsp, g1, g2, g4⟩ := split_line hd0
    rw [← hs0, hW] at hsp
    simp only [List.cons.injEq] at hsp
    refine hex ⟨(d0.1, x0), hm0, hsp.1.symm, ?_⟩
    dsimp only
    rw [hsp.2]
    simp only [List.length_cons, List.length_append, List.length_map]
    omega
end Go.Pe.Tryd
end
section
namespace Go.Pe.Tryd
open Go.Proofs Go.RowKit
open Go.Lib (join itoa joinTail)
set_option maxRecDepth 100000
set_option linter.unusedSimpArgs false
set_option linter.unusedVariables false
theorem part_one {c : UInt8} {a a' b b' : List UInt8} (h : a ++ c :: b = a' ++ c :: b') (ha : c ∉ a) (ha' : c ∉ a') : a = a' ∧ b = b' := by
  have h1 := cut_at (b := b) ha
  rw [h, cut_at ha'] at h1
  simp only [Prod.mk.injEq, and_true] at h1
  exact ⟨h1.1.symm, h1.2.symm⟩
theorem join_no {c : UInt8} (hc : c ≠ 32) : ∀ {ws : List (List UInt8)}, (∀ w ∈ ws, c ∉ w) → c ∉ join ws [32]
  | [], _ => by simp [Lib.join_nil]
  | [w], h => by rw [Lib.join_one]; exact h w (by simp)
  | w :: y :: r, h => by
    rw [join_two]
    simp only [List.mem_append, List.mem_cons, not_or]
    exact ⟨h w (by simp), hc, join_no hc (ws := y :: r) fun x hx => h x (by simp [hx])⟩
theorem line_no {d : Deed} (h : isDeed d = true) : (10 : UInt8) ∉ line d := by
  obtain ⟨x, hx, hm, h1, h2, h3, h4⟩ := isDeed_iff h
  unfold line
  rw [hx]
  exact join_no (by decide) (words_no hm h4 (by decide))
theorem first_no {S : List (List UInt8)} {L : List UInt8} {li cl : Int} (h : begins S L li cl = true) : (10 : UInt8) ∉ first S L li cl := join_no (by decide) (firstW_no h (by decide))
theorem linesOf_cons (d : Deed) (D : List Deed) : linesOf (d :: D) = line d ++ 10 :: linesOf D := by simp [linesOf]
def Seg (s : List UInt8) : Prop := ∀ w ∈ splitC 10 s, w.length ≤ 900000
theorem seg_small {s : List UInt8} (h : s.length ≤ 900000) : Seg s := fun w hw => by have := splitC_le s w hw; omega
theorem seg_at {a b : List UInt8} (ha : (10 : UInt8) ∉ a) : Seg (a ++ 10 :: b) ↔ (a.length ≤ 900000 ∧ Seg b) := by
  unfold Seg
  rw [splitC_at ha]
  simp
theorem seg_none {a : List UInt8} (ha : (10 : UInt8) ∉ a) : Seg a ↔ a.length ≤ 900000 := by
  unfold Seg
  rw [splitC_none ha]
  simp
theorem seg_lines {D : List Deed} (h : ∀ d ∈ D, isDeed d = true) : Seg (linesOf D) := by
  induction D with
  | nil => exact seg_small (by simp [linesOf])
  | cons d D ih =>
    have hd := h d (by simp)
    rw [linesOf_cons, seg_at (line_no hd)]
    exact ⟨by have := line_len hd; omega, ih fun x hx => h x (by simp [hx])⟩
theorem seg_text {S : List (List UInt8)} {L : List UInt8} {li cl : Int} {D : List Deed} (h : right S L li cl D = true) : Seg (textOf S L li cl D) := by
  obtain ⟨h1, h2, h3⟩ := right_iff h
  rw [textOf, seg_at (first_no h1)]
  exact ⟨by have := first_len h1; omega, seg_lines h3⟩
theorem cutF_eq (s : List UInt8) (h : s.length ≤ 8000000) : cutF (s, (([10] : List UInt8), ())) = some ((Lib.cut s [10]).1, (Lib.cut s [10]).2.1, (Lib.cut s [10]).2.2, ()) := by
  show (if s.length < 4294967281 then some ((Lib.cut s [10]).1, (Lib.cut s [10]).2.1, (Lib.cut s [10]).2.2, ()) else none) = _
  rw [if_pos (by omega)]
theorem lines_loop (L : List UInt8) (li cl : Int) (S : List (List UInt8)) : ∀ (m : Nat) (rest : List UInt8) (D : List Deed) (no k : Nat), D.length + m = 201 → m + 1 ≤ k → rest.length ≤ 8000000 → Seg rest → D.length ≤ 200 → no + m ≤ 1000 →
    (∃ no' : Nat, no ≤ no' ∧ iter f7_p1_st k (f7_p1_y rest (no : Int) [] 0 0 L li cl S D) = some (.inr (f7_p1_o1_y 250 (no' : Int) [] 0 0)) ∧ ∀ D', (∀ d ∈ D', isDeed d = true) → D.length + D'.length ≤ 200 → rest ≠ linesOf D') ∨
    (∃ D', iter f7_p1_st k (f7_p1_y rest (no : Int) [] 0 0 L li cl S D) = some (.inl (f7_p1_o0_y [] 0 0 L li cl S (D ++ D'))) ∧ rest = linesOf D' ∧ (∀ d ∈ D', isDeed d = true) ∧ D.length + D'.length ≤ 200) := by
  intro m
  induction m with
  | zero => intro rest D no k h1 h2 h3 h4 h5 h6; omega
  | succ m ih =>
    intro rest D no k h1 h2 h3 h4 h5 h6
    obtain ⟨k, rfl⟩ : ∃ j, k = j + 1 := ⟨k - 1, by omega⟩
    rw [iter, f7_p1_eq]
    by_cases hr : rest = []
    · subst hr
      rw [show (([] : List UInt8) != []) = false from rfl, cond_false]
      exact .inr ⟨[], by rw [List.append_nil], rfl, by simp, by simpa using h5⟩
    · rw [show (rest != []) = true from by simpa using hr, cond_true, cutF_eq rest h3, Option.bind_some]
      by_cases hc : (10 : UInt8) ∈ rest
      · obtain ⟨a, b, rfl, ha⟩ := mem_part hc
        rw [cut_at ha]
        dsimp only
        rw [seg_at ha] at h4
        obtain ⟨d, ok, e1, e2, e3⟩ := deed_eq a h4.1
        rw [e1, Option.bind_some, f7_p0_eq]
        dsimp only
        rw [Bool.not_true, cond_false]
        have hd0 : ∀ (d0 : Deed) (D' : List Deed), isDeed d0 = true → a ++ 10 :: b = linesOf (d0 :: D') → a = line d0 ∧ b = linesOf D' := fun d0 D' hd e => by
          rw [linesOf_cons] at e
          exact part_one e ha (line_no hd)
        cases ok with
        | false =>
          rw [Bool.not_false, cond_true, Option.bind_some]
          simp only [f7_p0_o0_x6_y, f7_p0_o0_x10_y, f7_p0_o0_x57_y, f7_p0_o0_r0_1_y, f7_p0_o0_r0_2_y, f7_p0_o0_r0_3_y, f7_p0_o0_r1_1_y, f7_p0_o0_r1_2_y, f7_p0_o0_r1_3_y, f7_p0_o0_r2_0_y, f7_p0_o0_r2_1_y, f7_p0_o0_r2_2_y, f7_p0_o0_l0_y, f7_p0_o0_l1_y, cond_true]
          refine .inl ⟨no, Nat.le_refl _, rfl, fun D' hD' hlen e => ?_⟩
          cases D' with
          | nil => simp [linesOf] at e
          | cons d0 D' =>
            obtain ⟨q1, _⟩ := hd0 d0 D' (hD' d0 (by simp)) e
            have := (e3 d0 (hD' d0 (by simp)) q1).1
            cases this
        | true =>
          obtain ⟨g1, g2⟩ := e2 rfl
          rw [Bool.not_true, cond_false, Option.bind_some]
          simp only [f7_p0_o0_x6_y, f7_p0_o0_x10_y, f7_p0_o0_x57_y, f7_p0_o0_r0_1_y, f7_p0_o0_r0_2_y, f7_p0_o0_r0_3_y, f7_p0_o0_r1_1_y, f7_p0_o0_r1_2_y, f7_p0_o0_r1_3_y, f7_p0_o0_r2_0_y, f7_p0_o0_r2_1_y, f7_p0_o0_r2_2_y, f7_p0_o0_l0_y, f7_p0_o0_l1_y]
          by_cases h200 : D.length = 200
          · rw [show ((D.length : Int) == 200) = true from by rw [h200]; rfl, cond_true]
            refine .inl ⟨no, Nat.le_refl _, rfl, fun D' hD' hlen e => ?_⟩
            have : D' = [] := List.eq_nil_of_length_eq_zero (by omega)
            subst this
            simp [linesOf] at e
          · rw [show ((D.length : Int) == 200) = false from by simp; omega, cond_false, appOk, if_pos (by simp; omega), inc no (by omega)]
            have := ih b (D ++ [(d.1, (d.2.1, d.2.2))]) (no + 1) k (by simp; omega) (by omega) (by simp at h3; omega) h4.2 (by simp; omega) (by omega)
            rcases this with ⟨no', q1, q2, q3⟩ | ⟨D', q1, q2, q3, q4⟩
            · refine .inl ⟨no', by omega, q2, fun D' hD' hlen e => ?_⟩
              cases D' with
              | nil => simp [linesOf] at e
              | cons d0 D' =>
                obtain ⟨p1, p2⟩ := hd0 d0 D' (hD' d0 (by simp)) e
                exact q3 D' (fun x hx => hD' x (by simp [hx])) (by simp at hlen ⊢; omega) p2
            · refine .inr ⟨d :: D', by rw [q1]; simp, ?_, fun x hx => ?_, by simp at q4 ⊢; omega⟩
              · rw [linesOf_cons, g2, q2]
              · rcases List.mem_cons.1 hx with rfl | hx
                · exact g1
                · exact q3 x hx
      · rw [cut_none hc]
        dsimp only
        rw [seg_none hc] at h4
        obtain ⟨d, ok, e1, e2, e3⟩ := deed_eq rest h4
        rw [e1, Option.bind_some, f7_p0_eq]
        dsimp only
        rw [Bool.not_false, cond_true, Option.bind_some]
        simp only [f7_p0_o0_x6_y, f7_p0_o0_x10_y, f7_p0_o0_x57_y, f7_p0_o0_r0_1_y, f7_p0_o0_r0_2_y, f7_p0_o0_r0_3_y, f7_p0_o0_r1_1_y, f7_p0_o0_r1_2_y, f7_p0_o0_r1_3_y, f7_p0_o0_r2_0_y, f7_p0_o0_r2_1_y, f7_p0_o0_r2_2_y, f7_p0_o0_l0_y, f7_p0_o0_l1_y, cond_true]
        refine .inl ⟨no, Nat.le_refl _, rfl, fun D' hD' hlen e => ?_⟩
        cases D' with
        | nil => exact hr (by simpa [linesOf] using e)
        | cons d0 D' => exact hc (by rw [e, linesOf_cons]; simp)
theorem parse_eq (s : List UInt8) (hl : s.length ≤ 8000000) (hS : Seg s) :
    (∃ no : Nat, 1 ≤ no ∧ f7_F (s, ()) = some (([], ([], (0, (0, ([], ()))))), (250, ((no : Int), ()))) ∧ ((∀ S L li cl rest, begins S L li cl = true → s ≠ first S L li cl ++ 10 :: rest) → no = 1) ∧ ∀ S L li cl D, right S L li cl D = true → s ≠ textOf S L li cl D) ∨
    (∃ S L li cl D, f7_F (s, ()) = some ((S, (L, (li, (cl, (D, ()))))), (0, (0, ()))) ∧ right S L li cl D = true ∧ s = textOf S L li cl D) := by
  rw [f7_eq, cutF_eq s hl, Option.bind_some]
  by_cases hc : (10 : UInt8) ∈ s
  · obtain ⟨a, b, rfl, ha⟩ := mem_part hc
    rw [cut_at ha]
    dsimp only
    rw [seg_at ha] at hS
    obtain ⟨S, L, li, cl, ok, e1, e2, e3⟩ := begin_eq a hS.1
    rw [e1, Option.bind_some, f7_p2_eq, Bool.not_true, cond_false, Option.bind_some]
    simp only [h17_o_x0_1_y, h17_o_x0_2_y, h17_o_x0_3_y, h17_o_x1_y, h17_o_l0_y, f7_p2_o0_x6_y, f7_p2_o0_x29_y, f7_p2_o0_r0_1_y, f7_p2_o0_r0_2_y, f7_p2_o0_r0_3_y, f7_p2_o0_r1_1_y, f7_p2_o0_r1_2_y, f7_p2_o0_r1_3_y, f7_p2_o0_l0_y]
    cases ok with
    | false =>
      rw [Bool.not_false, cond_true]
      refine .inl ⟨1, Nat.le_refl _, rfl, fun _ => rfl, fun S0 L0 li0 cl0 D0 h0 e => ?_⟩
      obtain ⟨g1, g2, g3⟩ := right_iff h0
      obtain ⟨p1, p2⟩ := part_one e ha (first_no g1)
      have := (e3 S0 L0 li0 cl0 g1 p1).1
      cases this
    | true =>
      rw [Bool.not_true, cond_false]
      obtain ⟨g1, g2⟩ := e2 rfl
      have := lines_loop L li cl S 201 b [] 2 (fuelOf f7_p1_sh (f7_p1_y b ((2 : Nat) : Int) [] 0 0 L li cl S [])) (by simp) (by rw [fuel_def]; omega) (by simp at hl; omega) hS.2 (by simp) (by omega)
      rcases this with ⟨no', q1, q2, q3⟩ | ⟨D', q1, q2, q3, q4⟩
      · have e0 : go f7_p1_st (f7_p1_y b (2 : Int) ([] : List UInt8) (0 : Int) (0 : Int) L li cl S ([] : List Deed)) = _ := q2
        rw [e0, Option.bind_some]
        dsimp only
        simp only [f7_p1_o1_x3_y, f7_p1_o1_x4_y, f7_p1_o1_r0_1_y, f7_p1_o1_r0_2_y, f7_p1_o1_r0_3_y]
        refine .inl ⟨no', by omega, rfl, fun h => absurd (by rw [g2]) (h S L li cl b g1), fun S0 L0 li0 cl0 D0 h0 e => ?_⟩
        obtain ⟨k1, k2, k3⟩ := right_iff h0
        obtain ⟨p1, p2⟩ := part_one e ha (first_no k1)
        exact q3 D0 k3 (by simpa using k2) p2
      · have e0 : go f7_p1_st (f7_p1_y b (2 : Int) ([] : List UInt8) (0 : Int) (0 : Int) L li cl S ([] : List Deed)) = _ := q1
        rw [e0, Option.bind_some]
        dsimp only
        simp only [f7_p1_o0_r0_1_y, f7_p1_o0_r0_2_y, f7_p1_o0_r0_3_y, f7_p1_o0_r1_1_y, f7_p1_o0_r1_2_y, f7_p1_o0_r1_3_y, f7_p1_o0_l0_y, f7_p1_o0_l1_y, List.nil_append]
        refine .inr ⟨S, L, li, cl, D', rfl, ?_, by rw [textOf, g2, q2]⟩
        unfold right
        rw [g1]
        simp only [Bool.true_and, Bool.and_eq_true, decide_eq_true_eq, List.all_eq_true]
        exact ⟨by simp at q4; omega, q3⟩
  · rw [cut_none hc]
    dsimp only
    rw [seg_none hc] at hS
    obtain ⟨S, L, li, cl, ok, e1, e2, e3⟩ := begin_eq s hS
    rw [e1, Option.bind_some, f7_p2_eq, Bool.not_false, cond_true, Option.bind_some]
    simp only [h17_o_x0_1_y, h17_o_x0_2_y, h17_o_x0_3_y, h17_o_x1_y, h17_o_l0_y, f7_p2_o0_x6_y, f7_p2_o0_x29_y, f7_p2_o0_r0_1_y, f7_p2_o0_r0_2_y, f7_p2_o0_r0_3_y, f7_p2_o0_r1_1_y, f7_p2_o0_r1_2_y, f7_p2_o0_r1_3_y, f7_p2_o0_l0_y, cond_true]
    refine .inl ⟨1, Nat.le_refl _, rfl, fun _ => rfl, fun S0 L0 li0 cl0 D0 h0 e => hc (by rw [e, textOf]; simp)⟩
theorem first_inj {S S' : List (List UInt8)} {L L' : List UInt8} {li cl li' cl' : Int} (h : begins S L li cl = true) (h' : begins S' L' li' cl' = true) (e : first S L li cl = first S' L' li' cl') : S = S' ∧ L = L' ∧ li = li' ∧ cl = cl' := by
  obtain ⟨S0, L0, li0, cl0, ok, _, _, h3⟩ := begin_eq (first S L li cl) (by have := first_len h; omega)
  obtain ⟨_, a1, a2, a3, a4⟩ := h3 S L li cl h rfl
  obtain ⟨_, b1, b2, b3, b4⟩ := h3 S' L' li' cl' h' e
  exact ⟨a1.symm.trans b1, a2.symm.trans b2, a3.symm.trans b3, a4.symm.trans b4⟩
theorem lines_inj : ∀ {D D' : List Deed}, (∀ d ∈ D, isDeed d = true) → (∀ d ∈ D', isDeed d = true) → linesOf D = linesOf D' → D = D'
  | [], [], _, _, _ => rfl
  | [], d :: D', _, _, e => by rw [linesOf_cons] at e; simp [linesOf] at e
  | d :: D, [], _, _, e => by rw [linesOf_cons] at e; simp [linesOf] at e
  | d :: D, d' :: D', h, h', e => by
    rw [linesOf_cons, linesOf_cons] at e
    have hd := h d (by simp)
    have hd' := h' d' (by simp)
    obtain ⟨e1, e2⟩ := part_one e (line_no hd) (line_no hd')
    obtain ⟨d0, ok, _, _, h3⟩ := deed_eq (line d) (by have := line_len hd; omega)
    have q1 := (h3 d hd rfl).2
    have q2 := (h3 d' hd' e1).2
    rw [← q1, ← q2, lines_inj (fun x hx => h x (by simp [hx])) (fun x hx => h' x (by simp [hx])) e2]
theorem text_inj {S S' : List (List UInt8)} {L L' : List UInt8} {li cl li' cl' : Int} {D D' : List Deed} (h : right S L li cl D = true) (h' : right S' L' li' cl' D' = true) (e : textOf S L li cl D = textOf S' L' li' cl' D') : S = S' ∧ L = L' ∧ li = li' ∧ cl = cl' ∧ D = D' := by
  obtain ⟨h1, h2, h3⟩ := right_iff h
  obtain ⟨k1, k2, k3⟩ := right_iff h'
  obtain ⟨e1, e2⟩ := part_one e (first_no h1) (first_no k1)
  obtain ⟨a1, a2, a3, a4⟩ := first_inj h1 k1 e1
  exact ⟨a1, a2, a3, a4, lines_inj h3 k3 e2⟩
theorem parse_text {S : List (List UInt8)} {L : List UInt8} {li cl : Int} {D : List Deed} (h : right S L li cl D = true) : f7_F (textOf S L li cl D, ()) = some ((S, (L, (li, (cl, (D, ()))))), (0, (0, ()))) := by
  rcases parse_eq (textOf S L li cl D) (text_len h) (seg_text h) with ⟨no, _, _, _, h4⟩ | ⟨S', L', li', cl', D', h1, h2, h3⟩
  · exact absurd rfl (h4 S L li cl D h)
  · obtain ⟨rfl, rfl, rfl, rfl, rfl⟩ := text_inj h h2 h3
    exact h1
end Go.Pe.Tryd
end
section
namespace Go.Pe.Tryd
open Go.Proofs Go.RowKit
open Go.Lib (join itoa joinTail)
set_option maxRecDepth 100000
set_option linter.unusedSimpArgs false
set_option linter.unusedVariables false
def seedOf (n : UInt8) : List UInt8 := n :: [48, 49, 50, 51, 52, 53, 54, 55, 56, 57, 97, 98, 99, 100, 101, 102, 48, 49, 50, 51, 52, 53, 54, 55, 56, 57, 97, 98, 99, 100, 101]
theorem seed_eq (n : UInt8) (h : IntKind.u8.wrap (n.toNat : Int) = (n.toNat : Int)) : f41_F ((n.toNat : Int), ()) = some (seedOf n, ()) := by
  rw [f41_eq, h]
  rw [if_pos (by simp [strOf])]
  simp [strOf, seedOf]
def planS : List (List UInt8) := [seedOf 1, seedOf 2, seedOf 3, seedOf 4]
theorem plan_right : right planS (seedOf 5) 30 2 [] = true := by decide
theorem alive_eq : f9_F () = some (true, ()) := by
  have e1 : f41_F ((1 : Int), ()) = some (seedOf 1, ()) := seed_eq 1 (by decide)
  have e2 : f41_F ((2 : Int), ()) = some (seedOf 2, ()) := seed_eq 2 (by decide)
  have e3 : f41_F ((3 : Int), ()) = some (seedOf 3, ()) := seed_eq 3 (by decide)
  have e4 : f41_F ((4 : Int), ()) = some (seedOf 4, ()) := seed_eq 4 (by decide)
  have e5 : f41_F ((5 : Int), ()) = some (seedOf 5, ()) := seed_eq 5 (by decide)
  rw [f9_eq, f20_eq, f41_Le, e1, Option.bind_some, e2, Option.bind_some, e3, Option.bind_some, e4, Option.bind_some, e5, Option.bind_some, Option.bind_some, f6_Le]
  have hp := print_eq planS (seedOf 5) 30 2 [] (by decide) ⟨by decide, by simp⟩
  rw [if_pos plan_right] at hp
  rw [show f6_F (([seedOf 1, seedOf 2, seedOf 3, seedOf 4], (seedOf 5, ((30 : Int), ((2 : Int), (([] : List Deed), ()))))), ()) = _ from hp, Option.bind_some, f7_Le]
  rw [show f7_F (textOf planS (seedOf 5) 30 2 [], ()) = _ from parse_text plan_right, Option.bind_some]
  dsimp only
  rw [show ((0 : Int) == 0) = true from rfl, cond_true, cond_true, show ((planS.length : Int) == 4) = true from rfl, cond_true, show ((2 : Int) == 2) = true from rfl, cond_true, f10_Le, rightP_eq planS (seedOf 5) 30 2 [] (by decide) ⟨by decide, by simp⟩, Option.bind_some, plan_right]
theorem okD_small {D : List Deed} {n : Nat} (hn : n ≤ 900000) (h : D.length ≤ n) (hD : ∀ d ∈ D, OkD d) : Small D := ⟨by omega, fun d hd => by obtain ⟨h1, h2, _⟩ := hD d hd; exact ⟨by omega, by omega⟩⟩
theorem right_small {S : List (List UInt8)} {L : List UInt8} {li cl : Int} {D : List Deed} (h : right S L li cl D = true) : S.length ≤ 900000 ∧ Small D := by
  obtain ⟨h1, h2, h3⟩ := right_iff h
  refine ⟨by have := (begins_iff h1).1; omega, by omega, fun d hd => ?_⟩
  obtain ⟨x, hx, hm, g1, g2, _⟩ := isDeed_iff (h3 d hd)
  have := shp_len hm
  exact ⟨by omega, by omega⟩
theorem lawBack (S : List (List UInt8)) (L : List UInt8) (li cl : Int) (D : List Deed) (s0 : List UInt8) : f3_F ((S, (L, (li, (cl, (D, ()))))), (s0, ())) = some (true, ()) := by
  rw [f3_eq]
  obtain ⟨D', h1, h2, h3⟩ := few_eq S L li cl D 205 (by decide)
  rw [show (205 : Int) = ((205 : Nat) : Int) from rfl, h1, Option.bind_some, show (12000 : Int) = ((12000 : Nat) : Int) from rfl, min_take]
  dsimp only
  have hD' : Small D' := okD_small (n := 205) (by decide) (by omega) h3
  have hS' : (S.take 6).length ≤ 900000 := by simp; omega
  have hs : (s0.take 12000).length ≤ 900000 := by simp; omega
  generalize s0.take 12000 = s at hs ⊢
  generalize S.take 6 = S' at hS' ⊢
  have e1 : f3_p1_F (f3_p1_y s S' L li cl D') = some (.inr (f3_p1_o1_y s)) := by
    rw [f3_p1_eq, print_eq S' L li cl D' hS' hD', Option.bind_some]
    by_cases hr : right S' L li cl D' = true
    · rw [if_pos hr]
      dsimp only
      rw [show ((0 : Int) == 0) = true from rfl, cond_true, parse_text hr, Option.bind_some, f3_p0_eq]
      dsimp only
      rw [show ((0 : Int) != 0) = false from rfl, cond_false, cond_false, like_refl S' L li cl D' hS' hD', Option.bind_some, Option.bind_some]
      simp only [f3_p0_o0_x1_y, f3_p0_o0_x46_y, Bool.not_true, cond_false]
    · rw [if_neg hr]
      dsimp only
      rw [show ((1 : Int) == 0) = false from rfl, cond_false]
  rw [e1, Option.bind_some]
  dsimp only
  simp only [f3_p1_o1_x1_y]
  rcases parse_eq s (by omega) (seg_small hs) with ⟨no, _, q1, _, _⟩ | ⟨S2, L2, li2, cl2, D2, q1, q2, q3⟩
  · rw [q1, Option.bind_some]
    dsimp only
    rw [show ((250 : Int) != 0) = true from rfl, cond_true, alive_eq, Option.bind_some, cond_true]
    have := like_refl [] [] 0 0 [] (by decide) ⟨by decide, by simp⟩
    rw [this, Option.bind_some]
  · rw [q1, Option.bind_some]
    dsimp only
    obtain ⟨k1, k2⟩ := right_small q2
    rw [show ((0 : Int) != 0) = false from rfl, cond_false, print_eq S2 L2 li2 cl2 D2 k1 k2, if_pos q2, Option.bind_some, alive_eq, Option.bind_some]
    dsimp only
    rw [cond_true, show ((0 : Int) == 0) = true from rfl, cond_true, ← q3, show (s == s) = true from by simp, cond_true, rightP_eq S2 L2 li2 cl2 D2 k1 k2, Option.bind_some, q2]
theorem lawBackR (p : List (List UInt8) × (List UInt8 × (Int × (Int × List Deed)))) (s : List UInt8) : f3_F ((p.1, (p.2.1, (p.2.2.1, (p.2.2.2.1, (p.2.2.2.2, ()))))), (s, ())) = some (true, ()) := lawBack _ _ _ _ _ _
end Go.Pe.Tryd
end
section
set_option linter.unusedSectionVars false
set_option linter.unusedVariables false
set_option linter.unusedSimpArgs false
namespace Go.Pe.Tryd
open Go.Proofs Go.RowKit
variable {H : Type} {enc : TypeId × Value → H}
theorem returns_both {a : Assume} {C : Checked} {os : Os} {f : FuncId} {fn : Func} {s : ChangeSpec} {conds : List PathCond} {apart fresh handsOn again : Bool} {X : World → Array Value → Prop}
    (hX : ∀ (w w' : World) (args : Array Value), w.heap = w'.heap → X w args → X w' args)
    (own : ownKnob C.prog.godebug = none) (started : os.Started) (noInit : C.prog.inits.idxOf? f = none) (hfn : C.prog.funcs[f]? = some fn)
    (witness : ∃ (w : World) (tape : Tape) (i : Input), w.os = os ∧ (w.forCall tape i).Shaped C.prog ∧ i.vars = [] ∧ Input.okWide C.prog (w.forCall tape i) .any w.heap.size f i ∧
      ((s.pre enc C.prog fn conds apart (w.forCall tape i).memory i.args ∧ X (w.forCall tape i).memory i.args) ∧ sizedMet enc C.prog fn (OpenSpec.ofChange s) apart (w.forCall tape i).memory i.args) ∧ a.holds C.prog (lone (Frame.enter C.prog f i.args .normal) [] (w.forCall tape i)))
    (contract : ∀ (W : World) (base : Nat) (args : Array Value) (ds gs : List (DataW H)) (before : List MemPlace),
      (∀ (j : Nat) t v, fn.params[j]? = some t → args[j]? = some v → Value.okWide C.prog W .any base t v) →
      DataW.Whole enc C.prog fn.params.toList s.vars apart W args.toList ds gs before →
      conds.all (PathCond.test C.prog ⟨fn.params.toList, ds, s.plain.varTypes C.prog, gs⟩) = true →
      (DataW.weightsEach C.prog (fn.params.toList ++ s.plain.varTypes C.prog) (ds ++ gs)).all (· ≤ reachBytes) = true → X W args → W.ShapedOpen C.prog →
      a.holds C.prog (lone (Frame.enter C.prog f args .normal) [] W) →
      Calls C.prog f args W fun e W' => ∃ v, e = .returned v ∧ s.post enc C.prog fn apart fresh handsOn again W args v W') :
    ReturnsInHanded a C os f .any (fun w args => (s.pre enc C.prog fn conds apart w args ∧ X w args) ∧ sizedMet enc C.prog fn (OpenSpec.ofChange s) apart w args) (s.post enc C.prog fn apart fresh handsOn again) := by
  refine returnsInHanded_of_calls own started noInit witness ?_
  intro w tape i _ hsh _ hok hpre hholds
  obtain ⟨_, _, _, fn', hfn', _, _, _, _, hval⟩ := hok
  have e : fn' = fn := Option.some.inj (hfn'.symm.trans hfn)
  subst e
  obtain ⟨⟨⟨ds, gs, before, hw, hc⟩, hx⟩, hz⟩ := hpre
  have hw' := DataW.Whole.of_heap (w' := w.forCall tape i) (by rfl) hw
  refine (contract (w.forCall tape i) w.heap.size i.args ds gs before hval hw' hc (hz.weights hw) (hX _ _ _ (by rfl) hx) hsh hholds).mono fun e W' ⟨v, he, hp⟩ => ?_
  subst he
  exact ChangeSpec.post_blind hp
theorem tab_of_reads {w : World} (h : Lib.VarReads Tryd.prog w "internal/strconv.uint64pow10" (Lib.tabData .u64 Lib.pow10Tab)) : Lib.TabIs Tryd.prog w "internal/strconv.uint64pow10" .u64 Lib.pow10Tab := by
  obtain ⟨g', t', cs, fuel, p, hg', ht', hvar, hd⟩ := h
  obtain rfl := Option.some.inj ((show Tryd.prog.globalNamed "internal/strconv.uint64pow10" = some 1 by kernel_rfl).symm.trans hg')
  obtain rfl := Option.some.inj ((show (Tryd.prog.globals[1]?).map (·.type) = some 116 by kernel_rfl).symm.trans ht')
  unfold Lib.TabIs
  rw [hvar, ← Lib.cells_of_tab (n := 20) (e := 99) (show Tryd.prog.underlying 116 = some (.array 20 99) by kernel_rfl) (show Tryd.prog.underlying 99 = some (.int .u64) by kernel_rfl) (by kernel_rfl) (by kernel_rfl) hd]
theorem trod_ifc {P : Program} {w : World} {enc : TypeId × Value → Unit} {sp : Nat → Bool} {t : TypeId} {ms : Array (String × TypeId)} (hi : P.underlying t = some (.interface ms)) {d : DataW Unit} {p : List MemPlace} : ∀ {fuel : Nat} {cs : List Value}, DataW.trod enc P w 0 sp false fuel t cs = some (d, p) → ∃ v, cs = [v] ∧ (v = .nilIface ∨ ∃ te pe, v = .iface te pe)
  | 0, _, h => by simp [DataW.trod] at h
  | fuel + 1, [], h => by simp [DataW.trod, hi] at h
  | fuel + 1, [v], h => by cases v <;> simp [DataW.trod, hi] at h ⊢
  | fuel + 1, v :: v' :: r, h => by simp [DataW.trod, hi] at h
theorem ifc_of_reads {w : World} {n : String} {g : Nat} {d : DataW Unit} (hg : Tryd.prog.globalNamed n = some g) (ht : (Tryd.prog.globals[g]?).map (·.type) = some 78) (h : Lib.VarReads Tryd.prog w n d) : IfcAt w g := by
  obtain ⟨g', t', cs, fuel, p, hg', ht', hvar, hd⟩ := h
  obtain rfl := Option.some.inj (hg.symm.trans hg')
  obtain rfl := Option.some.inj (ht.symm.trans ht')
  obtain ⟨v, hv, hk⟩ := trod_ifc Tryd.underlying78 hd
  have h0 := World.var?_cell hg hvar 0
  have e : cs = #[v] := Array.ext' (by simpa using hv)
  subst e
  exact ⟨v, by simpa using h0, hk⟩
theorem inv_of {w : World} {l : List (String × DataW Unit)} {d1 d2 : DataW Unit} (hn : (l.all fun x => x.2.handleName?.isNone) = true) (hL : laidMetH Tryd.prog l w) (hm : ("internal/strconv.uint64pow10", (Lib.tabData .u64 Lib.pow10Tab : DataW Unit)) ∈ l)
    (h1 : ("strconv.ErrSyntax", d1) ∈ l) (h2 : ("strconv.ErrRange", d2) ∈ l) (hs : w.ShapedOpen Tryd.prog) : Inv w := by
  rw [MakeChecks.laidMetH_plain _ _ _ hn] at hL
  exact ⟨cell_of_shapedOpen_int (P := Tryd.prog) (g := 0) (t := 3) (zero := #[.int .i64 0]) hs (of_decide_eq_true (by kernel_rfl)) (by kernel_rfl) rfl (by kernel_rfl) (by kernel_rfl) (by kernel_rfl), tab_of_reads (Lib.laidMet.reads hL hm),
    ifc_of_reads (by kernel_rfl) (by kernel_rfl) (Lib.laidMet.reads hL h1), ifc_of_reads (by kernel_rfl) (by kernel_rfl) (Lib.laidMet.reads hL h2)⟩
end Go.Pe.Tryd
end
section
namespace Go.Pe
open Go.RowKit Go.ChangeShapes
def All (w : World) (b : Nat) : Prop := b < w.heap.size
theorem cell_lt {w : World} {a : Addr} {v : Value} (h : w.cell? a = some v) : a.block < w.heap.size ∧ a.spot = none := by
  unfold World.cell? at h
  split at h
  · rename_i c el t hb
    refine ⟨(Array.getElem?_eq_some_iff.1 hb).1, ?_⟩
    split at h
    · cases h
    · rename_i hs; simpa using hs
  · cases h
theorem add_spot {a : Addr} (h : a.spot = none) (n : Nat) : a.add n = ⟨a.block, a.off + n, none⟩ := by
  unfold Addr.add
  split
  · rename_i e; subst e; cases a; simp_all
  · rfl
theorem decTys_enc : ∀ (ts : List Ty) (x : tysDen ts), decTys ts (encTys ts x) = some x
  | [], _ => rfl
  | t :: ts, x => by simp only [encTys, decTys, asTy, dite_true, Option.bind_some, decTys_enc ts x.2]
theorem KD.dec_enc : ∀ (k : KD) (x : k.den), k.dec (k.enc x) = some x
  | .one t, x => by simp only [KD.enc, KD.dec, asTy, dite_true]
  | .agg ts, x => by simp only [KD.enc, KD.dec, decTys_enc]
theorem decArgs_enc : ∀ (ks : List KD) (x : argsDen ks), decArgs ks (encArgs ks x) = some x
  | [], _ => rfl
  | k :: ks, x => by simp only [encArgs, decArgs, KD.dec_enc, Option.bind_some, decArgs_enc ks x.2]
theorem law_walk [GI] {P : Program} {f : Nat} {ps : List KD} {F : argsDen ps → Option (argsDen [.one .bool])} (h : Sound P f (pfun F)) (y : argsDen ps) (hF : F y = some (true, ())) {w : World} {vs : List Value} (hgi : GI.inv w)
    (hrep : RepAVs (c0 (All w) w) (encArgs ps y) vs) : Calls P f vs.toArray w fun e w' => e = .returned (.bool true) ∧ Below w.heap.size w w' := by
  obtain ⟨av, hK, _, hc⟩ := h.2 AV (encArgs ps y) some (.d .bool true) (by simp only [pfun, decArgs_enc, Option.bind_some, hF]; rfl) (All w) w vs (fun b hb => hb) hgi (encArgs_closed ps y) hrep
  cases hK
  refine hc.mono fun e w' ⟨v, he, hb, hr⟩ => ?_
  simp only [RepAV, Rep, List.cons.injEq, and_true] at hr
  subst hr
  exact ⟨he, hb⟩
end Go.Pe
end
section
namespace Go.Pe
open Go.RowKit Go.ChangeShapes Go.WideShapes
set_option linter.unusedSectionVars false
variable [GI]

inductive WfV (N : Nat) : V → Prop
  | mk (kind n : Int) (s : List UInt8) (items : List V) (keys : List (List UInt8)) (hk : (Lit.int .i64 kind).wf = true) (hn : (Lit.int .i64 n).wf = true) (hs : s.length ≤ N) (hi : items.length ≤ N) (hks : keys.length ≤ N)
      (hit : ∀ i (h : i < items.length), WfV N items[i]) (hkl : ∀ k ∈ keys, k.length ≤ N) : WfV N (.mk kind n s items keys)
def Wf (N : Nat) : (t : Ty) → t.den → Prop
  | .bool, _ => True
  | .int k, n => (Lit.int k n).wf = true
  | .str, s => s.length ≤ N
  | .list e, xs => xs.length ≤ N ∧ ∀ x ∈ xs, Wf N e x
  | .unit, _ => True
  | .prod a b, x => Wf N a x.1 ∧ Wf N b x.2
  | .value, x => WfV N x

def layTys (P : Program) (f : Nat → Option Ty) (total : Nat) : Nat → List (Nat × Nat) → Option Ty
  | off, [] => if off = total then some .unit else none
  | off, [(t, o)] => if o = off ∧ off + P.cellsOf t = total then (f t).bind fun a => if a.size = P.cellsOf t then some a else none else none
  | off, (t, o) :: r => if o = off then (f t).bind fun a => if a.size = P.cellsOf t then (layTys P f total (off + P.cellsOf t) r).bind fun b => some (.prod a b) else none else none
def isInt64 (P : Program) (t : Nat) : Bool := match P.underlying t with | some (.int .i64) => true | _ => false
def isString (P : Program) (t : Nat) : Bool := match P.underlying t with | some .string => true | _ => false
def sliceEl (P : Program) (t : Nat) : Option Nat := match P.underlying t with | some (.slice e) => some e | _ => none
def vtOk (P : Program) (vt : Nat) : Bool :=
  match P.underlying vt with
  | some (.struct fs) => (match fs.toList.map fun f => (f.type, f.offset) with
    | [(t1, 0), (t2, 1), (t3, 2), (t4, 3), (t5, 4)] => isInt64 P t1 && isInt64 P t2 && isString P t3 && (match sliceEl P t4 with | some e => Nat.beq e vt | none => false) && (match sliceEl P t5 with | some e => isString P e && Nat.beq (P.cellsOf e) 1 && Nat.ble 1 (P.bytesOf e) | none => false) &&
      Nat.beq (P.cellsOf t1) 1 && Nat.beq (P.cellsOf t2) 1 && Nat.beq (P.cellsOf t3) 1 && Nat.beq (P.cellsOf t4) 1 && Nat.beq (P.cellsOf t5) 1 && Nat.beq (P.cellsOf vt) 5 && Nat.ble 1 (P.bytesOf vt)
    | _ => false)
  | _ => false
def lay (P : Program) (vt : Nat) : Nat → Nat → Option Ty
  | 0, _ => none
  | n + 1, t => if t = vt then (if vtOk P vt = true then some .value else none) else match P.underlying t with
    | some .bool => some .bool
    | some (.int k) => some (.int k)
    | some .string => some .str
    | some (.slice e) => if 1 ≤ P.bytesOf e ∧ 1 ≤ P.cellsOf e then (lay P vt n e).bind fun ty => if ty.size = P.cellsOf e then some (.list ty) else none else none
    | some (.struct fs) => layTys P (lay P vt n) (P.cellsOf t) 0 (fs.toList.map fun f => (f.type, f.offset))
    | _ => none

section
variable {H : Type} {enc : TypeId × Value → H} {P : Program} {w : World} {base : Nat} {spare : Nat → Bool} {held : Bool} {N vt : Nat}

theorem rows_of {α : Type} {R : α → List Value → Prop} {W : α → Prop} {sz blk : Nat} : ∀ (len off : Nat), (∀ i, i < len → ∃ x c, R x c ∧ W x ∧ c.length = sz ∧ ∀ j, j < sz → w.cell? ⟨blk, off + i * sz + j, none⟩ = c[j]?) →
    ∃ (xs : List α) (us : List Value), xs.length = len ∧ (∀ x ∈ xs, W x) ∧ us.length = len * sz ∧ CellsAt w ⟨blk, off, none⟩ us ∧ RepAll R xs us
  | 0, off, _ => ⟨[], [], rfl, by simp, by simp, fun j hj => by simp at hj, rfl⟩
  | len + 1, off, h => by
    obtain ⟨x, c, h1, h2, h3, h4⟩ := h 0 (by omega)
    obtain ⟨xs, us, g1, g2, g3, g4, g5⟩ := rows_of len (off + sz) fun i hi => by
      obtain ⟨x, c, h1, h2, h3, h4⟩ := h (i + 1) (by omega)
      refine ⟨x, c, h1, h2, h3, fun j hj => ?_⟩
      rw [← h4 j hj, show off + sz + i * sz + j = off + (i + 1) * sz + j by rw [Nat.succ_mul]; omega]
    refine ⟨x :: xs, c ++ us, by simp [g1], by simpa using ⟨h2, g2⟩, by simp [g3, h3, Nat.succ_mul]; omega, fun j hj => ?_, c, us, rfl, h1, g5⟩
    simp only [List.length_append] at hj
    rcases Nat.lt_or_ge j sz with hl | hl
    · rw [List.getElem?_append_left (by omega), ← h4 j hl]; simp
    · rw [List.getElem?_append_right (by omega)]
      have := g4 (j - c.length) (by omega)
      simp only at this
      rw [← this, show off + sz + (j - c.length) = off + j by omega]

theorem slice_rep {ty : Ty} {e t fuel : Nat} {cs : List Value} {d : DataW H} {ps : List MemPlace} (ht : P.underlying t = some (.slice e)) (hb : 1 ≤ P.bytesOf e) (hc : 1 ≤ P.cellsOf e) (hsz : ty.size = P.cellsOf e)
    (ih : ∀ m, m < fuel → ∀ (cs : List Value) (d : DataW H) (ps : List MemPlace), DataW.trod enc P w base spare held m e cs = some (d, ps) → (∀ m ∈ d.weights P e, m ≤ N) → ∃ x, Rep (All w) w ty x cs ∧ Wf N ty x)
    (h : DataW.trod enc P w base spare held fuel t cs = some (d, ps)) (hw : ∀ m ∈ d.weights P t, m ≤ N) : ∃ x, Rep (All w) w (.list ty) x cs ∧ Wf N (.list ty) x := by
  rcases DataW.trod_slice ht h with ⟨rfl, hx⟩ | ⟨a, len, cap, elems, rest, n, hf, rfl, hx, _, hlc, _, hel, hat, _, _⟩
  · exact ⟨[], ⟨_, rfl, none, 0, rfl, Nat.le_refl _, .inl rfl⟩, by simp [Wf]⟩
  · have hd : d = .slice (elems.map (·.1)) (rest.map (·.1)) := congrArg Prod.fst hx
    subst hd
    simp only [DataW.weights, ht, List.mem_cons, List.mem_append] at hw
    have hlen : len ≤ N := by
      have := hw _ (.inl rfl)
      have h2 : len * 1 ≤ (elems.length + rest.length) * P.bytesOf e := Nat.mul_le_mul (by omega) hb
      simp only [List.length_map] at this
      omega
    have key : ∀ i, i < len → ∃ x c, Rep (All w) w ty x c ∧ Wf N ty x ∧ c.length = P.cellsOf e ∧ ∀ j, j < P.cellsOf e → w.cell? ((a.add (i * P.cellsOf e)).add j) = c[j]? := by
      intro i hi
      have h1 := hat i hi
      rw [List.getElem?_eq_getElem (by omega), Option.bind_eq_some_iff] at h1
      obtain ⟨c, hc1, hc2⟩ := h1
      obtain ⟨_, hc3, hc4⟩ := World.cells?_some hc1
      obtain ⟨x, hx1, hx2⟩ := ih n (by omega) c (elems[i]).1 (elems[i]).2 hc2 fun m hm => hw m (.inr (.inl (by
        have : ∀ (l : List (DataW H)) (d : DataW H), d ∈ l → m ∈ d.weights P e → m ∈ DataW.weightsAll P e l := by
          intro l; induction l with
          | nil => intro d hd; simp at hd
          | cons y l ih => intro d hd hm; simp only [DataW.weightsAll, List.mem_append]; exact (List.mem_cons.1 hd).elim (fun e => .inl (e ▸ hm)) (fun hd => .inr (ih d hd hm))
        exact this _ _ (List.mem_map_of_mem (List.getElem_mem (l := elems) (by omega))) hm)))
      exact ⟨x, c, hx1, hx2, hc3, hc4⟩
    rcases Nat.eq_zero_or_pos len with h0 | h0
    · subst h0
      exact ⟨[], ⟨_, rfl, some a, cap, rfl, by simp, .inl rfl⟩, by simp [Wf]⟩
    · obtain ⟨x, c, _, _, hcl, hcc⟩ := key 0 h0
      have h00 := hcc 0 (by omega)
      rw [List.getElem?_eq_getElem (by omega)] at h00
      have ha : a.block < w.heap.size ∧ a.spot = none := by
        have h1 : (a.add (0 * P.cellsOf e)).add 0 = a := by simp [Addr.add]
        rw [h1] at h00
        exact cell_lt h00
      obtain ⟨xs, us, g1, g2, g3, g4, g5⟩ := rows_of (w := w) (R := Rep (All w) w ty) (W := Wf N ty) (sz := P.cellsOf e) (blk := a.block) len a.off fun i hi => by
        obtain ⟨x, c, h1, h2, h3, h4⟩ := key i hi
        refine ⟨x, c, h1, h2, h3, fun j hj => ?_⟩
        rw [← h4 j hj, add_spot ha.2, add_spot rfl]
      refine ⟨xs, ⟨_, rfl, some a, cap, by rw [g1], by omega, .inr ⟨a, us, rfl, ha.2, ha.1, ?_, g5⟩⟩, ?_⟩
      · intro j hj
        exact g4 j hj
      · simp only [Wf]; exact ⟨by omega, g2⟩

theorem mem_each : ∀ {ts : List TypeId} {ds : List (DataW H)} {t d} {m : Nat}, m ∈ DataW.weights P t d → m ∈ DataW.weightsEach P (t :: ts) (d :: ds) := by
  intro ts ds t d m h
  simp only [DataW.weightsEach, List.mem_append]; exact .inl h
theorem mem_each' : ∀ {ts : List TypeId} {ds : List (DataW H)} {t d} {m : Nat}, m ∈ DataW.weightsEach P ts ds → m ∈ DataW.weightsEach P (t :: ts) (d :: ds) := by
  intro ts ds t d m h
  simp only [DataW.weightsEach, List.mem_append]; exact .inr h

theorem fields_rep {f : Nat → Option Ty} {fuel total : Nat} {cs : List Value} (hlen : cs.length = total)
    (ih : ∀ t ty (cs : List Value) (d : DataW H) (ps : List MemPlace), f t = some ty → DataW.trod enc P w base spare held fuel t cs = some (d, ps) → (∀ m ∈ d.weights P t, m ≤ N) → ∃ x, Rep (All w) w ty x cs ∧ Wf N ty x) :
    ∀ (fs : List Field) (off : Nat) (ty : Ty) (xs : List (DataW H × List MemPlace)), layTys P f total off (fs.map fun f => (f.type, f.offset)) = some ty →
      (fs.mapM fun f => DataW.trod enc P w base spare held fuel f.type ((cs.drop f.offset).take (P.cellsOf f.type))) = some xs →
      (∀ m ∈ DataW.weightsEach P (fs.map (·.type)) (xs.map (·.1)), m ≤ N) → ∃ x, Rep (All w) w ty x (cs.drop off) ∧ Wf N ty x
  | [], off, ty, xs, hl, hm, hw => by
    simp only [List.map_nil, layTys] at hl
    split at hl
    · rename_i ho; cases hl
      exact ⟨(), by simp only [Rep]; exact List.drop_of_length_le (by omega), trivial⟩
    · cases hl
  | [fd], off, ty, xs, hl, hm, hw => by
    simp only [List.map_cons, List.map_nil, layTys] at hl
    split at hl
    · rename_i ho
      simp only [Option.bind_eq_some_iff] at hl
      obtain ⟨a, ha, hl⟩ := hl
      split at hl
      · rename_i hs; cases hl
        simp only [List.mapM_cons, List.mapM_nil, Option.pure_def, Option.bind_eq_bind, Option.bind_eq_some_iff, Option.some.injEq] at hm
        obtain ⟨y, hy, ys, rfl, rfl⟩ := hm
        obtain ⟨x, h1, h2⟩ := ih fd.type _ _ y.1 y.2 ha hy fun m hm => hw m (by simpa [DataW.weightsEach] using hm)
        refine ⟨x, ?_, h2⟩
        rw [ho.1] at h1
        rwa [List.take_of_length_le (by rw [List.length_drop]; omega)] at h1
      · cases hl
    · cases hl
  | fd :: fd2 :: fs, off, ty, xs, hl, hm, hw => by
    simp only [List.map_cons, layTys] at hl
    split at hl
    · rename_i ho
      simp only [Option.bind_eq_some_iff] at hl
      obtain ⟨a, ha, hl⟩ := hl
      split at hl
      · rename_i hs
        simp only [Option.bind_eq_some_iff, Option.some.injEq] at hl
        obtain ⟨b, hb, rfl⟩ := hl
        rw [List.mapM_cons] at hm
        simp only [Option.pure_def, Option.bind_eq_bind, Option.bind_eq_some_iff, Option.some.injEq] at hm
        obtain ⟨y, hy, ys, hys, rfl⟩ := hm
        obtain ⟨x, h1, h2⟩ := ih fd.type _ _ y.1 y.2 ha hy fun m hm => hw m (by simp only [List.map_cons]; exact mem_each hm)
        obtain ⟨x', h3, h4⟩ := fields_rep hlen ih (fd2 :: fs) (off + P.cellsOf fd.type) b ys (by simpa only [List.map_cons] using hb) hys fun m hm => hw m (by simp only [List.map_cons] at hm ⊢; exact mem_each' hm)
        refine ⟨(x, x'), ⟨_, _, ?_, h1, h3⟩, h2, h4⟩
        rw [ho, ← List.drop_drop, List.take_append_drop]
      · cases hl
    · cases hl

theorem trod_bool {t fuel : Nat} {cs : List Value} {d : DataW H} {ps} (ht : P.underlying t = some .bool) (h : DataW.trod enc P w base spare held fuel t cs = some (d, ps)) : ∃ b, cs = [.bool b] := by
  cases fuel with
  | zero => simp [DataW.trod] at h
  | succ n => unfold DataW.trod at h; rw [ht] at h; split at h <;> simp_all
theorem trod_int {t fuel : Nat} {cs : List Value} {d : DataW H} {ps} {k} (ht : P.underlying t = some (.int k)) (h : DataW.trod enc P w base spare held fuel t cs = some (d, ps)) : ∃ n, cs = [.int k n] ∧ (Lit.int k n).wf = true := by
  cases fuel with
  | zero => simp [DataW.trod] at h
  | succ n => unfold DataW.trod at h; rw [ht] at h; split at h <;> simp_all
theorem trod_str {t fuel : Nat} {cs : List Value} {d : DataW H} {ps} (ht : P.underlying t = some .string) (h : DataW.trod enc P w base spare held fuel t cs = some (d, ps)) : ∃ s : ByteArray, cs = [.string s] ∧ d = .lit (.string s.data.toList) := by
  cases fuel with
  | zero => simp [DataW.trod] at h
  | succ n => unfold DataW.trod at h; rw [ht] at h; split at h <;> simp_all
theorem trod_struct {t fuel : Nat} {cs : List Value} {d : DataW H} {ps} {fs : Array Field} (ht : P.underlying t = some (.struct fs)) (h : DataW.trod enc P w base spare held fuel t cs = some (d, ps)) :
    ∃ n xs, fuel = n + 1 ∧ cs.length = P.cellsOf t ∧ (fs.toList.mapM fun f => DataW.trod enc P w base spare held n f.type ((cs.drop f.offset).take (P.cellsOf f.type))) = some xs ∧ d = .agg (xs.map (·.1)) := by
  cases fuel with
  | zero => simp [DataW.trod] at h
  | succ n =>
    unfold DataW.trod at h
    rw [ht] at h
    simp only at h
    split at h
    · rename_i hc
      simp only [Option.map_eq_some_iff] at h
      obtain ⟨xs, hx, he⟩ := h
      exact ⟨n, xs, rfl, hc, hx, (congrArg Prod.fst he).symm⟩
    · cases h

theorem str_rep {t fuel : Nat} {cs : List Value} {d : DataW H} {ps} (ht : P.underlying t = some .string) (h : DataW.trod enc P w base spare held fuel t cs = some (d, ps)) (hw : ∀ m ∈ d.weights P t, m ≤ N) : ∃ x, Rep (All w) w .str x cs ∧ Wf N .str x := by
  obtain ⟨s, rfl, rfl⟩ := trod_str ht h
  exact ⟨s.data.toList, by simp [Rep], hw _ (by simp [DataW.weights])⟩

theorem beq_imp {a b : Nat} (h : Nat.beq a b = true) : a = b := Nat.eq_of_beq_eq_true h
theorem value_rep (hv : vtOk P vt = true) : ∀ (fuel : Nat) (cs : List Value) (d : DataW H) (ps : List MemPlace), DataW.trod enc P w base spare held fuel vt cs = some (d, ps) → (∀ m ∈ d.weights P vt, m ≤ N) →
    ∃ x, Rep (All w) w .value x cs ∧ Wf N .value x := by
  intro fuel
  induction fuel using Nat.strongRecOn with
  | _ fuel IH =>
  intro cs d ps h hw
  unfold vtOk at hv
  split at hv
  · rename_i fs hfs
    split at hv
    · rename_i t1 t2 t3 t4 t5 hl
      simp only [Bool.and_eq_true] at hv
      obtain ⟨⟨⟨⟨⟨⟨⟨⟨⟨⟨⟨v1, v2⟩, v3⟩, v4⟩, v5⟩, c1⟩, c2⟩, c3⟩, c4⟩, c5⟩, c6⟩, c7⟩ := hv
      have c1 := beq_imp c1; have c2 := beq_imp c2; have c3 := beq_imp c3; have c4 := beq_imp c4; have c5 := beq_imp c5; have c6 := beq_imp c6
      have c7 := Nat.le_of_ble_eq_true c7
      have u1 : P.underlying t1 = some (.int .i64) := by unfold isInt64 at v1; split at v1; assumption; cases v1
      have u2 : P.underlying t2 = some (.int .i64) := by unfold isInt64 at v2; split at v2; assumption; cases v2
      have u3 : P.underlying t3 = some .string := by unfold isString at v3; split at v3; assumption; cases v3
      have u4 : P.underlying t4 = some (.slice vt) := by
        unfold sliceEl at v4
        split at v4
        · rename_i e he
          split at he
          · rename_i e' hu; cases he; rw [hu, beq_imp v4]
          · cases he
        · cases v4
      obtain ⟨ts, u5, u6, c8, c9⟩ : ∃ ts, P.underlying t5 = some (.slice ts) ∧ P.underlying ts = some .string ∧ P.cellsOf ts = 1 ∧ 1 ≤ P.bytesOf ts := by
        unfold sliceEl at v5
        split at v5
        · rename_i e he
          split at he
          · rename_i e' hu; cases he
            simp only [Bool.and_eq_true] at v5
            refine ⟨e, hu, ?_, beq_imp v5.1.2, Nat.le_of_ble_eq_true v5.2⟩
            have v6 := v5.1.1
            unfold isString at v6; split at v6
            · assumption
            · cases v6
          · cases he
        · cases v5
      obtain ⟨n, xs, rfl, hlen, hm, rfl⟩ := trod_struct hfs h
      rcases fs with ⟨fl⟩
      have hl' : fl.map (fun f => (f.type, f.offset)) = [(t1, 0), (t2, 1), (t3, 2), (t4, 3), (t5, 4)] := hl
      rcases fl with _ | ⟨f1, _ | ⟨f2, _ | ⟨f3, _ | ⟨f4, _ | ⟨f5, _ | ⟨f6, fl⟩⟩⟩⟩⟩⟩ <;> simp only [List.map_cons, List.map_nil, List.cons.injEq, Prod.mk.injEq, reduceCtorEq, and_false, List.nil_eq, and_true] at hl'
      obtain ⟨⟨e1, o1⟩, ⟨e2, o2⟩, ⟨e3, o3⟩, ⟨e4, o4⟩, e5, o5⟩ := hl'
      simp only [List.mapM_cons, List.mapM_nil, Option.pure_def, Option.bind_eq_bind, Option.bind_eq_some_iff, Option.some.injEq, e1, e2, e3, e4, e5, o1, o2, o3, o4, o5, c1, c2, c3, c4, c5] at hm
      obtain ⟨y1, h1, z1, ⟨y2, h2, z2, ⟨y3, h3, z3, ⟨y4, h4, z4, ⟨y5, h5, z5, rfl, rfl⟩, rfl⟩, rfl⟩, rfl⟩, rfl⟩ := hm
      have hw' : ∀ m ∈ DataW.weightsEach P [t1, t2, t3, t4, t5] [y1.1, y2.1, y3.1, y4.1, y5.1], m ≤ N := by
        intro m hm
        apply hw
        simp only [DataW.weights, hfs]
        simpa [e1, e2, e3, e4, e5] using hm
      rw [c6] at hlen
      rcases cs with _ | ⟨a1, _ | ⟨a2, _ | ⟨a3, _ | ⟨a4, _ | ⟨a5, _ | ⟨a6, cs⟩⟩⟩⟩⟩⟩ <;> simp only [List.length_cons, List.length_nil] at hlen <;> try omega
      simp only [List.drop_succ_cons, List.drop_zero, List.take_succ_cons, List.take_zero] at h1 h2 h3 h4 h5
      obtain ⟨n1, q1, w1⟩ := trod_int u1 h1
      obtain ⟨n2, q2, w2⟩ := trod_int u2 h2
      obtain ⟨x3, r3, w3⟩ := str_rep (N := N) u3 h3 fun m hm => hw' m (by simp only [DataW.weightsEach, List.mem_append]; exact .inr (.inr (.inl hm)))
      obtain ⟨x4, r4, w4⟩ := slice_rep (N := N) (ty := .value) u4 c7 (by omega) (by rw [c6]; rfl) (fun m hm cs d ps h hw => IH m (by omega) cs d ps h hw) h4 fun m hm => hw' m (by simp only [DataW.weightsEach, List.mem_append]; exact .inr (.inr (.inr (.inl hm))))
      obtain ⟨x5, r5, w5⟩ := slice_rep (N := N) (ty := .str) u5 c9 (by omega) (by rw [c8]; rfl) (fun m hm cs d ps h hw => str_rep u6 h hw) h5 fun m hm => hw' m (by simp only [DataW.weightsEach, List.mem_append]; exact .inr (.inr (.inr (.inr (.inl hm)))))
      simp only [List.cons.injEq, and_true] at q1 q2
      subst q1; subst q2
      simp only [Rep, List.cons.injEq, and_true] at r3
      subst r3
      obtain ⟨v4', e4', a, cap, rfl, hcap, hmem⟩ := r4
      simp only [List.cons.injEq, and_true] at e4'
      subst e4'
      obtain ⟨v5', e5', hs5⟩ := r5
      simp only [List.cons.injEq, and_true] at e5'
      subst e5'
      have w4' : x4.length ≤ N ∧ ∀ x ∈ x4, WfV N x := by simpa only [Wf] using w4
      have w5' : x5.length ≤ N ∧ ∀ x ∈ x5, x.length ≤ N := by simpa only [Wf] using w5
      refine ⟨.mk n1 n2 x3 x4 x5, ?_, ?_⟩
      · simp only [Rep]
        have hs5' : SliceRep (All w) w (fun k vs => vs = [Value.string ⟨k.toArray⟩]) x5 a5 := by
          refine hs5.imp (fun _ h => h) (fun _ _ => rfl) fun x u h => by simpa only [Rep] using h
        rcases hmem with rfl | ⟨ad, us, rfl, hsp, hA, hcells, hall⟩
        · exact .mk n1 n2 x3 [] x5 a cap a5 (fun _ => []) hcap (.inl rfl) (fun i h => by simp at h) hs5'
        · have hsz : ∀ (x : V) (u : List Value), Rep (All w) w .value x u → u.length = 5 := fun x u h => RepV.length h
          have hul : us.length = x4.length * 5 := RepAll.length (sz := 5) hsz hall
          refine .mk n1 n2 x3 x4 x5 (some ad) cap a5 (fun i => (us.drop (i * 5)).take 5) hcap (.inr ⟨ad, rfl, hsp, hA, fun i hi => ⟨by simp [hul]; omega, fun j hj => ?_⟩⟩) (fun i hi => ?_) hs5'
          · rw [List.getElem?_take_of_lt hj, List.getElem?_drop]
            exact hcells (i * 5 + j) (by omega)
          · obtain ⟨p, u, q, he, hp, hr⟩ := RepAll.get (sz := 5) hsz i x4[i] hall (List.getElem?_eq_getElem hi)
            have hu := hsz _ _ hr
            rw [he, List.drop_append_of_le_length (by omega), List.drop_of_length_le (l := p) (by omega), List.nil_append, List.take_append_of_le_length (by omega), List.take_of_length_le (by omega)]
            simpa only [Rep] using hr
      · simp only [Wf]
        exact .mk _ _ _ _ _ w1 w2 w3 w4'.1 w5'.1 (fun i hi => w4'.2 _ (List.getElem_mem hi)) w5'.2
    · cases hv
  · cases hv

theorem trod_rep : ∀ (fuel n t : Nat) (ty : Ty) (cs : List Value) (d : DataW H) (ps : List MemPlace), lay P vt n t = some ty → DataW.trod enc P w base spare held fuel t cs = some (d, ps) → (∀ m ∈ d.weights P t, m ≤ N) →
    ∃ x, Rep (All w) w ty x cs ∧ Wf N ty x := by
  intro fuel
  induction fuel using Nat.strongRecOn with
  | _ fuel IH =>
  intro n t ty cs d ps hl h hw
  cases n with
  | zero => simp [lay] at hl
  | succ n =>
    unfold lay at hl
    split at hl
    · rename_i e; subst e
      split at hl
      · rename_i hv; cases hl; exact value_rep hv fuel cs d ps h hw
      · cases hl
    · split at hl
      · rename_i ht; cases hl
        obtain ⟨b, rfl⟩ := trod_bool ht h
        exact ⟨b, rfl, trivial⟩
      · rename_i k ht; cases hl
        obtain ⟨m, rfl, h1⟩ := trod_int ht h
        exact ⟨m, rfl, h1⟩
      · rename_i ht; cases hl
        exact str_rep ht h hw
      · rename_i e ht
        split at hl
        · rename_i hb
          simp only [Option.bind_eq_some_iff] at hl
          obtain ⟨ty', h1, hl⟩ := hl
          split at hl
          · rename_i hs; cases hl
            exact slice_rep ht hb.1 hb.2 hs (fun m hm cs d ps h hw => IH m hm n e ty' cs d ps h1 h hw) h hw
          · cases hl
        · cases hl
      · rename_i fs ht
        obtain ⟨m, xs, rfl, hlen, hm, rfl⟩ := trod_struct ht h
        have := fields_rep (N := N) hlen (fun t ty cs d ps h1 h2 h3 => IH m (by omega) n t ty cs d ps h1 h2 h3) fs.toList 0 ty xs hl hm fun m hm => hw m (by simpa only [DataW.weights, ht] using hm)
        simpa only [List.drop_zero] using this
      · cases hl

theorem open_one {t n : Nat} {v : Value} {ty : Ty} {d : DataW H} {ps} (hl : lay P vt n t = some ty) (h : DataW.Trod enc P w 0 spare held t v d ps) (hv : v.cells.toList = [v]) (hw : ∀ m ∈ d.weights P t, m ≤ N) :
    ∃ x, RepAV (c0 (All w) w) (.d ty x) v ∧ Wf N ty x := by
  obtain ⟨fuel, h⟩ := h
  obtain ⟨x, h1, h2⟩ := trod_rep fuel n t ty _ _ _ hl h hw
  refine ⟨x, ?_, h2⟩
  simp only [RepAV]
  rw [hv] at h1; exact h1
theorem open_agg {t n : Nat} {cs : Array Value} {ty : Ty} {d : DataW H} {ps} (hl : lay P vt n t = some ty) (h : DataW.Trod enc P w 0 spare held t (.agg cs) d ps) (hw : ∀ m ∈ d.weights P t, m ≤ N) :
    ∃ x, RepAV (c0 (All w) w) (.agg (unpack ty x)) (.agg cs) ∧ Wf N ty x := by
  obtain ⟨fuel, h⟩ := h
  obtain ⟨x, h1, h2⟩ := trod_rep fuel n t ty _ _ _ hl h hw
  refine ⟨x, ?_, h2⟩
  simp only [RepAV]
  exact ⟨cs, rfl, unpack_rep h1⟩
end
end Go.Pe
end
