/- Texts of the proof, what is used of them: S1, Sz2, Sz3, Sz4, Sz5, Sz6, Sz7, Sz9, Sz8, Sz10, Sz11, Sz12, CardTrysz, Open, Open2. -/
import Derived.Lib.ItoaLen
import Derived.Lib.ItoaMem
import Derived.Lib.Join
import Derived.Lib.LaidU8
import Derived.Lib.LaidTab
import Derived.Shelf.Vars
import Derived.HandedShaped
import Derived.Handed
import Derived.Lay
import Derived.MakeChecks
import Derived.SliceStrings
import Derived.SizedLaws
import Derived.WideShapes
import Derived.Test.YtnbjnnnmoadpcaaGreatDoorPeZSReads6
section
namespace Go.Pe
open Go.Lib
set_option linter.unusedSectionVars false
set_option linter.unusedVariables false
set_option linter.unusedSimpArgs false

theorem parse_snoc : ∀ (l : List UInt8) (acc v d : Nat), parseUint10 acc l = .ok v → v < 1844674407370955161 → d < 10 → parseUint10 acc (l ++ [UInt8.ofNat (48 + d)]) = .ok (v * 10 + d)
  | [], acc, v, d, h, hv, hd => by
    simp only [parseUint10, NumEnd.ok.injEq] at h
    subst h
    have e : (UInt8.ofNat (48 + d)).toNat = 48 + d := by simp [UInt8.toNat_ofNat']; omega
    simp only [List.nil_append, parseUint10, e]
    rw [if_pos (by omega), if_neg (by omega), if_neg (by omega)]
    simp
  | c :: l, acc, v, d, h, hv, hd => by
    simp only [parseUint10] at h
    simp only [List.cons_append, parseUint10]
    split at h
    · rename_i hc
      rw [if_pos hc]
      split at h
      · cases h
      · rename_i h1
        rw [if_neg h1]
        split at h
        · cases h
        · rename_i h2
          rw [if_neg h2]
          exact parse_snoc l _ v d h hv hd
    · cases h
theorem dec_ne (u : Nat) : decDigits u ≠ [] := by
  unfold decDigits
  split
  · simp
  · simp
theorem dec_digit (u : Nat) : ∀ c ∈ decDigits u, 48 ≤ c.toNat ∧ c.toNat ≤ 57 := by
  induction u using Nat.strongRecOn with
  | ind u ih =>
    intro c hc
    unfold decDigits at hc
    split at hc
    · rename_i h
      simp only [List.mem_singleton] at hc
      subst hc
      have : (UInt8.ofNat (48 + u)).toNat = 48 + u := by simp [UInt8.toNat_ofNat']; omega
      omega
    · rename_i h
      rcases List.mem_append.1 hc with hc | hc
      · exact ih (u / 10) (by omega) c hc
      · simp only [List.mem_singleton] at hc
        subst hc
        have : (UInt8.ofNat (48 + u % 10)).toNat = 48 + u % 10 := by simp [UInt8.toNat_ofNat']; omega
        omega
theorem parse_dec (u : Nat) : u < 18446744073709551610 → parseUint10 0 (decDigits u) = .ok u := by
  induction u using Nat.strongRecOn with
  | ind u ih =>
    intro hu
    unfold decDigits
    split
    · rename_i h
      have := parse_snoc [] 0 0 u rfl (by omega) h
      simpa using this
    · rename_i h
      have := parse_snoc _ 0 (u / 10) (u % 10) (ih (u / 10) (by omega) (by omega)) (by omega) (by omega)
      rw [this]
      congr 1; omega
theorem numOf_itoa (n : Int) (h0 : 0 ≤ n) (h1 : n < 9223372036854775808) : numOf (itoa n) = n := by
  obtain ⟨u, rfl⟩ := Int.eq_ofNat_of_zero_le h0
  rw [itoa_nonneg]
  have hp := parse_dec u (by omega)
  have hd := dec_digit u
  unfold numOf atoiAll
  cases hc : decDigits u with
  | nil => exact absurd hc (dec_ne u)
  | cons c r =>
    rw [hc] at hp
    have h1' := hd c (by rw [hc]; simp)
    have e : ¬ (c.toNat = 43 ∨ c.toNat = 45) := by omega
    have e2 : ¬ c.toNat = 45 := by omega
    have hm : parseMag (c :: r) = .ok u := by unfold parseMag; rw [if_neg (by simp)]; exact hp
    dsimp only
    rw [if_neg e, hm]
    dsimp only
    rw [if_neg (by omega), if_neg (by omega), if_neg e2]
theorem itoa_digit (n : Int) (h0 : 0 ≤ n) : ∀ c ∈ itoa n, 48 ≤ c.toNat ∧ c.toNat ≤ 57 := by
  obtain ⟨u, rfl⟩ := Int.eq_ofNat_of_zero_le h0
  rw [itoa_nonneg]; exact dec_digit u

theorem index_none {c : UInt8} : ∀ {a : List UInt8}, c ∉ a → index a [c] = -1
  | [], _ => rfl
  | b :: a, h => by
    simp only [List.mem_cons, not_or] at h
    have : (c == b) = false := by simpa using h.1
    unfold index
    simp only [List.isPrefixOf, this, Bool.false_and, Bool.false_eq_true, if_false]
    rw [index_none h.2]; rfl
theorem index_at {c : UInt8} {b : List UInt8} : ∀ {a : List UInt8}, c ∉ a → index (a ++ c :: b) [c] = (a.length : Int)
  | [], _ => by unfold index; simp [List.isPrefixOf]
  | x :: a, h => by
    simp only [List.mem_cons, not_or] at h
    have e1 : (c == x) = false := by simpa using h.1
    have ih := index_at (b := b) h.2
    simp only [List.cons_append]
    unfold index
    simp only [List.isPrefixOf, e1, Bool.false_and, Bool.false_eq_true, if_false, ih]
    rw [if_neg (by simp)]
    simp
theorem mem_part {c : UInt8} : ∀ {s : List UInt8}, c ∈ s → ∃ a b, s = a ++ c :: b ∧ c ∉ a
  | x :: s, h => by
    by_cases e : c = x
    · subst e; exact ⟨[], s, rfl, by simp⟩
    · obtain ⟨a, b, rfl, h2⟩ := mem_part (s := s) (by simpa [e] using h)
      exact ⟨x :: a, b, rfl, by simp [e, h2]⟩
theorem cut_none {c : UInt8} {a : List UInt8} (h : c ∉ a) : Lib.cut a [c] = (a, [], false) := by
  unfold Lib.cut; rw [index_none h, if_neg (by decide)]
theorem cut_at {c : UInt8} {a b : List UInt8} (h : c ∉ a) : Lib.cut (a ++ c :: b) [c] = (a, b, true) := by
  unfold Lib.cut
  rw [index_at h, if_pos (by omega)]
  simp
theorem trim_x (t : List UInt8) : trimPrefix (120 :: t) [120] = t := by simp [trimPrefix, hasPrefix, List.isPrefixOf]

def splitC (c : UInt8) : List UInt8 → List (List UInt8)
  | [] => [[]]
  | b :: l => if b = c then [] :: splitC c l else match splitC c l with
    | w :: ws => (b :: w) :: ws
    | [] => [[b]]
theorem splitC_none {c : UInt8} : ∀ {a : List UInt8}, c ∉ a → splitC c a = [a]
  | [], _ => rfl
  | b :: a, h => by
    simp only [List.mem_cons, not_or] at h
    unfold splitC
    rw [if_neg (Ne.symm h.1), splitC_none h.2]
theorem splitC_at {c : UInt8} {b : List UInt8} : ∀ {a : List UInt8}, c ∉ a → splitC c (a ++ c :: b) = a :: splitC c b
  | [], _ => by simp [splitC]
  | x :: a, h => by
    simp only [List.mem_cons, not_or] at h
    simp only [List.cons_append]
    rw [splitC, if_neg (Ne.symm h.1), splitC_at h.2]
theorem splitK_eq {c : UInt8} : ∀ (n : Nat) (s : List UInt8), s.length ≤ n → splitK [c] 0 (s.count c) s = splitC c s := by
  intro n
  induction n with
  | zero => intro s h; obtain rfl := List.eq_nil_of_length_eq_zero (by omega : s.length = 0); rfl
  | succ n ih =>
    intro s h
    by_cases hc : c ∈ s
    · obtain ⟨a, b, rfl, ha⟩ := mem_part hc
      have e : (a ++ c :: b).count c = b.count c + 1 := by rw [List.count_append, List.count_eq_zero_of_not_mem ha, List.count_cons_self]; omega
      rw [e, splitK, index_at ha, if_neg (by simp), splitC_at ha]
      have e1 : ((a.length : Int).toNat + 0) = a.length := by omega
      have e2 : ((a.length : Int).toNat + ([c] : List UInt8).length) = a.length + 1 := by simp
      rw [e1, e2, List.take_left']
      · rw [show (a ++ c :: b).drop (a.length + 1) = b from by rw [List.drop_append]; simp]
        rw [ih b (by simp at h; omega)]
      · rfl
    · rw [List.count_eq_zero_of_not_mem hc, splitK, splitC_none hc]
theorem split_words (c : UInt8) (s : List UInt8) : (splitB ⟨#[c]⟩ 0 (countB ⟨s.toArray⟩ ⟨#[c]⟩) ⟨s.toArray⟩).map (·.data.toList) = splitC c s := by
  rw [splitB_data]
  show splitK [c] 0 (count s [c]) s = _
  rw [count_one, splitK_eq s.length s (Nat.le_refl _)]
theorem join_two (x y : List UInt8) (r : List (List UInt8)) (c : UInt8) : join (x :: y :: r) [c] = x ++ c :: join (y :: r) [c] := by
  simp [join, List.intercalate]
theorem splitC_join {c : UInt8} : ∀ {ws : List (List UInt8)}, ws ≠ [] → (∀ w ∈ ws, c ∉ w) → splitC c (join ws [c]) = ws
  | [w], _, h => by rw [join_one]; exact splitC_none (h w (by simp))
  | w :: y :: r, _, h => by
    rw [join_two, splitC_at (h w (by simp)), splitC_join (ws := y :: r) (by simp) fun x hx => h x (by simp [hx])]
theorem join_splitC {c : UInt8} : ∀ (n : Nat) (s : List UInt8), s.length ≤ n → join (splitC c s) [c] = s := by
  intro n
  induction n with
  | zero => intro s h; obtain rfl := List.eq_nil_of_length_eq_zero (by omega : s.length = 0); rfl
  | succ n ih =>
    intro s h
    by_cases hc : c ∈ s
    · obtain ⟨a, b, rfl, ha⟩ := mem_part hc
      have hb := ih b (by simp at h; omega)
      rw [splitC_at ha]
      cases hs : splitC c b with
      | nil =>
        exfalso
        cases b with
        | nil => simp [splitC] at hs
        | cons y b => simp only [splitC] at hs; split at hs <;> (try split at hs) <;> cases hs
      | cons y r =>
        rw [join_two, ← hs, hb]
    · rw [splitC_none hc, join_one]

def D16 : List UInt8 := [48, 49, 50, 51, 52, 53, 54, 55, 56, 57, 97, 98, 99, 100, 101, 102]
def hexD (n : Nat) : UInt8 := if n < 10 then UInt8.ofNat (48 + n) else UInt8.ofNat (87 + n)
def hexB (b : UInt8) : List UInt8 := [hexD (b.toNat / 16), hexD (b.toNat % 16)]
def hex (s : List UInt8) : List UInt8 := s.flatMap hexB
theorem D16_at (n : Nat) (h : n < 16) : D16[n]? = some (hexD n) := by
  have : ∀ n : Fin 16, D16[n.val]? = some (hexD n.val) := by decide
  exact this ⟨n, h⟩
theorem hex_length : ∀ s : List UInt8, (hex s).length = 2 * s.length
  | [] => rfl
  | b :: s => by
    have := hex_length s
    simp only [hex, List.flatMap_cons, List.length_append, List.length_cons] at this ⊢
    simp only [hexB, List.length_cons, List.length_nil]; omega
theorem hexD_not (n : Nat) (h : n < 16) : 48 ≤ (hexD n).toNat := by
  have : ∀ n : Fin 16, 48 ≤ (hexD n.val).toNat := by decide
  exact this ⟨n, h⟩
theorem hex_digit : ∀ (s : List UInt8), ∀ c ∈ hex s, 48 ≤ c.toNat
  | [], c, h => by simp [hex] at h
  | b :: s, c, h => by
    simp only [hex, List.flatMap_cons, List.mem_append] at h
    rcases h with h | h
    · have := b.toNat_lt
      simp only [hexB, List.mem_cons, List.not_mem_nil, or_false] at h
      rcases h with rfl | rfl
      · exact hexD_not _ (by omega)
      · exact hexD_not _ (by omega)
    · exact hex_digit s c h
def unhex : List UInt8 → Option (List UInt8)
  | [] => some []
  | [_] => none
  | a :: b :: l => if indexByte D16 a < 0 ∨ indexByte D16 b < 0 then none else (unhex l).map fun t => UInt8.ofNat ((indexByte D16 a).toNat * 16 + (indexByte D16 b).toNat) :: t
theorem indexD (n : Nat) (h : n < 16) : indexByte D16 (hexD n) = (n : Int) := by
  have : ∀ n : Fin 16, indexByte D16 (hexD n.val) = (n.val : Int) := by decide
  exact this ⟨n, h⟩
theorem unhex_hex : ∀ s : List UInt8, unhex (hex s) = some s
  | [] => rfl
  | b :: s => by
    have hb := b.toNat_lt
    have ih := unhex_hex s
    show unhex (hexD (b.toNat / 16) :: hexD (b.toNat % 16) :: hex s) = _
    rw [unhex, indexD _ (by omega), indexD _ (by omega), if_neg (by omega), ih]
    simp only [Option.map_some, Int.toNat_natCast, Option.some.injEq, List.cons.injEq, and_true]
    have : b.toNat / 16 * 16 + b.toNat % 16 = b.toNat := by omega
    rw [this]; simp
theorem indexD_lt : ∀ c : UInt8, indexByte D16 c < 16 := by
  intro c
  have h : ∀ n : Fin 256, indexByte D16 (UInt8.ofNat n.val) < 16 := by decide +kernel
  have := h ⟨c.toNat, c.toNat_lt⟩
  simpa using this
theorem indexD_back : ∀ c : UInt8, 0 ≤ indexByte D16 c → hexD (indexByte D16 c).toNat = c := by
  intro c
  have h : ∀ n : Fin 256, 0 ≤ indexByte D16 (UInt8.ofNat n.val) → hexD (indexByte D16 (UInt8.ofNat n.val)).toNat = UInt8.ofNat n.val := by decide +kernel
  have := h ⟨c.toNat, c.toNat_lt⟩
  simpa using this
theorem hex_unhex : ∀ (l t : List UInt8), unhex l = some t → hex t = l
  | [], t, h => by simp [unhex] at h; subst h; rfl
  | [_], t, h => by simp [unhex] at h
  | a :: b :: l, t, h => by
    unfold unhex at h
    split at h
    · cases h
    · rename_i hn
      simp only [Option.map_eq_some_iff] at h
      obtain ⟨r, hr, rfl⟩ := h
      have ih := hex_unhex l r hr
      have ha := indexD_lt a
      have hb := indexD_lt b
      have ha' := indexD_back a (by omega)
      have hb' := indexD_back b (by omega)
      have e : (UInt8.ofNat ((indexByte D16 a).toNat * 16 + (indexByte D16 b).toNat)).toNat = (indexByte D16 a).toNat * 16 + (indexByte D16 b).toNat := by
        simp [UInt8.toNat_ofNat']; omega
      show hexB _ ++ hex r = _
      rw [ih, hexB, e]
      have e1 : ((indexByte D16 a).toNat * 16 + (indexByte D16 b).toNat) / 16 = (indexByte D16 a).toNat := by omega
      have e2 : ((indexByte D16 a).toNat * 16 + (indexByte D16 b).toNat) % 16 = (indexByte D16 b).toNat := by omega
      rw [e1, e2, ha', hb']; rfl
end Go.Pe
end
section
namespace Go.Pe.Tryz
open Go.Proofs Go.RowKit
set_option maxRecDepth 100000
set_option linter.unusedSimpArgs false
set_option linter.unusedVariables false
theorem inc (i : Nat) (h : i < 9223372036854775807) : IntKind.i64.wrap ((i : Int) + 1) = ((i + 1 : Nat) : Int) := by rw [wrap64 (by omega) (by omega)]; rfl
theorem lt_true {i n : Nat} (h : i < n) : decide ((i : Int) < (n : Int)) = true := by simp; omega
theorem lt_false (n : Nat) : decide ((n : Int) < (n : Int)) = false := by simp
theorem nth_at {α : Type} {l : List α} {i : Nat} (h : i < l.length) : nth l (i : Int) = some l[i] := by
  unfold nth
  rw [if_pos (by omega), Int.toNat_natCast, List.getElem?_eq_getElem h]
theorem nthD (n : Nat) (h : n < 16) : nth ([48, 49, 50, 51, 52, 53, 54, 55, 56, 57, 97, 98, 99, 100, 101, 102] : List UInt8) (n : Int) = some (hexD n) := by
  unfold nth
  rw [if_pos (by omega), Int.toNat_natCast]
  exact D16_at n h
theorem byte_hi (b : UInt8) : Int.fdiv (b.toNat : Int) (2 ^ (min (Int.toNat (4 : Int)) 8)) = ((b.toNat / 16 : Nat) : Int) := by
  have h : ∀ n : Fin 256, Int.fdiv (n.val : Int) (2 ^ (min (Int.toNat (4 : Int)) 8)) = ((n.val / 16 : Nat) : Int) := by decide +kernel
  exact h ⟨b.toNat, b.toNat_lt⟩
theorem byte_lo (b : UInt8) : IntKind.u8.wrap (((BitVec.ofInt 8 (b.toNat : Int) &&& BitVec.ofInt 8 (15 : Int)).toNat : Int)) = ((b.toNat % 16 : Nat) : Int) := by
  have h : ∀ n : Fin 256, IntKind.u8.wrap (((BitVec.ofInt 8 (n.val : Int) &&& BitVec.ofInt 8 (15 : Int)).toNat : Int)) = ((n.val % 16 : Nat) : Int) := by decide +kernel
  exact h ⟨b.toNat, b.toNat_lt⟩
theorem nib (a b : Nat) (ha : a < 16) (hb : b < 16) : IntKind.u8.wrap (IntKind.i64.wrap (((BitVec.ofInt 64 (IntKind.i64.wrap ((a : Int) * 2 ^ (min (Int.toNat (4 : Int)) 64))) ||| BitVec.ofInt 64 (b : Int)).toNat : Int))) = ((UInt8.ofNat (a * 16 + b)).toNat : Int) := by
  have h : ∀ (a b : Fin 16), IntKind.u8.wrap (IntKind.i64.wrap (((BitVec.ofInt 64 (IntKind.i64.wrap ((a.val : Int) * 2 ^ (min (Int.toNat (4 : Int)) 64))) ||| BitVec.ofInt 64 (b.val : Int)).toNat : Int))) = ((UInt8.ofNat (a.val * 16 + b.val)).toNat : Int) := by decide +kernel
  exact h ⟨a, ha⟩ ⟨b, hb⟩
theorem bytesOf_app (a b : List UInt8) : bytesOf (a ++ b) = bytesOf a ++ bytesOf b := by simp [bytesOf]
theorem strOf_bytesOf (a : List UInt8) : strOf (bytesOf a) = a := by
  simp only [strOf, bytesOf, List.map_map]
  have : ((fun n : Int => UInt8.ofNat n.toNat) ∘ fun b : UInt8 => (b.toNat : Int)) = id := by funext b; simp
  rw [this, List.map_id]
theorem bytesOf_len (a : List UInt8) : (bytesOf a).length = a.length := by simp [bytesOf]
theorem wb (c : Int) (l : List Int) (h : l.length < 4294967296) : h66a_F (h66a_y c l) = some (h66a_o_y (l ++ [c])) := by
  rw [h66a_eq]
  show appOk (l.length + [c].length) (some (h66a_o_y (l ++ [c]))) = _
  rw [appOk, if_pos (by simp; omega)]
theorem foldi_hex (l : List UInt8) : ∀ (k : Nat) (s : List Int), foldi (fun _ (s : List Int) (b : UInt8) => s ++ bytesOf (hexB b)) k s l = s ++ bytesOf (hex l) := by
  induction l with
  | nil => intro k s; simp [foldi, hex, bytesOf]
  | cons b l ih =>
    intro k s
    rw [foldi, ih]
    simp only [hex, List.flatMap_cons, bytesOf_app, List.append_assoc]
theorem hex_eq (a : List UInt8) (h : a.length ≤ 900000) : f44_F (a, ()) = some (hex a, ()) := by
  rw [f44_eq]
  have := go_foldi (step := f44_p0_st) (l := a) (fun i s => f44_p0_y a (a.length : Int) (i : Int) s) (fun _ s b => s ++ bytesOf (hexB b)) (fun i s => s.length = 2 * i) (s0 := []) (fin := fun s => some (f44_p0_o0_y s)) rfl
    (fun i s hi hs => ⟨by rw [List.length_append, hs, bytesOf_len]; rfl, fun rec => by
      have hb := a[i].toNat_lt
      rw [f44_p0_eq, lt_true hi, cond_true, nth_at hi, Option.bind_some, byte_hi, nthD _ (by omega), Option.bind_some, wb _ _ (by omega), Option.bind_some, Option.bind_some, byte_lo, nthD _ (by omega), Option.bind_some]
      simp only [h66a_o_l0_y]
      rw [wb _ _ (by simp; omega), Option.bind_some, inc i (by omega)]
      simp only [h66a_o_l0_y]
      rw [List.append_assoc]; rfl⟩) (fun s hs rec => by rw [f44_p0_eq, lt_false, cond_false])
    (by rw [fuel_def]; omega)
  obtain ⟨h1, h2⟩ := this
  rw [show ((0 : Nat) : Int) = 0 from rfl] at h1
  rw [h1, Option.bind_some, foldi_hex]
  simp only [f44_p0_o0_l0_y, List.nil_append]
  have e : h67_F (h67_y (bytesOf (hex a))) = some ((strOf (bytesOf (hex a)), ()), (), ()) := by
    show (if bytesOf (strOf (bytesOf (hex a))) = bytesOf (hex a) ∧ (bytesOf (hex a)).length ≤ 4294967296 then some ((strOf (bytesOf (hex a)), ()), (), ()) else none) = _
    rw [if_pos ⟨by rw [strOf_bytesOf], by rw [bytesOf_len, hex_length]; omega⟩]
  rw [e, Option.bind_some]
  show some (strOf (bytesOf (hex a)), ()) = _
  rw [strOf_bytesOf]
theorem index_eq (c : UInt8) : indexF (([48, 49, 50, 51, 52, 53, 54, 55, 56, 57, 97, 98, 99, 100, 101, 102] : List UInt8), ((c.toNat : Int), ())) = some (Lib.indexByte D16 c, ()) := by
  show some (Lib.indexByte D16 ((c.toNat : Int).toNat.toUInt8), ()) = _
  simp
theorem unhex_loop : ∀ (n : Nat) (x : List UInt8) (l : List Int) (k : Nat), x.length ≤ n → x.length + 1 ≤ k → l.length + x.length ≤ 4294967296 →
    (unhex x = none → (∃ r, iter f40_p1_st k (f40_p1_y x l) = some r ∧ (r = .inr (f40_p1_o1_y [] 4) ∨ ∃ c l', r = .inl (f40_p1_o0_y [c] l')))) ∧ (∀ t, unhex x = some t → iter f40_p1_st k (f40_p1_y x l) = some (.inl (f40_p1_o0_y [] (l ++ bytesOf t)))) := by
  intro n
  induction n with
  | zero =>
    intro x l k hx hk hl
    obtain rfl := List.eq_nil_of_length_eq_zero (by omega : x.length = 0)
    obtain ⟨k, rfl⟩ : ∃ j, k = j + 1 := ⟨k - 1, by simp at hk; omega⟩
    refine ⟨fun h => by simp [unhex] at h, fun t ht => ?_⟩
    simp only [unhex, Option.some.injEq] at ht; subst ht
    rw [iter, f40_p1_eq, show decide ((([] : List UInt8).length : Int) ≥ 2) = false from by decide, cond_false]
    simp [bytesOf]
  | succ n ih =>
    intro x l k hx hk hl
    obtain ⟨k, rfl⟩ : ∃ j, k = j + 1 := ⟨k - 1, by omega⟩
    match x, hx, hk, hl with
    | [], hx, hk, hl =>
      refine ⟨fun h => by simp [unhex] at h, fun t ht => ?_⟩
      simp only [unhex, Option.some.injEq] at ht; subst ht
      rw [iter, f40_p1_eq, show decide ((([] : List UInt8).length : Int) ≥ 2) = false from by decide, cond_false]
      simp [bytesOf]
    | [c], hx, hk, hl =>
      refine ⟨fun _ => ⟨_, ?_, .inr ⟨c, l, rfl⟩⟩, fun t ht => by simp [unhex] at ht⟩
      rw [iter, f40_p1_eq, show decide ((([c] : List UInt8).length : Int) ≥ 2) = false from rfl, cond_false]
    | a :: b :: x, hx, hk, hl =>
      have hge : decide (((a :: b :: x).length : Int) ≥ 2) = true := by simp; omega
      have n0 : nth (a :: b :: x) (0 : Int) = some a := rfl
      have n1 : nth (a :: b :: x) (1 : Int) = some b := rfl
      rw [iter, f40_p1_eq, hge, cond_true, n0, Option.bind_some, index_eq, Option.bind_some, n1, Option.bind_some, index_eq, Option.bind_some, f40_p0_eq]
      have hal := indexD_lt a
      have hbl := indexD_lt b
      dsimp only
      by_cases ha : Lib.indexByte D16 a < 0
      · rw [show decide (Lib.indexByte D16 a < 0) = true from by simpa using ha, cond_true, Option.bind_some]
        simp only [f40_p0_o0_x0_y, f40_p0_o0_x5_y, f40_p0_o0_x6_y, f40_p0_o0_x23_y, f40_p0_o0_l0_y, cond_true]
        exact ⟨fun _ => ⟨_, rfl, .inl rfl⟩, fun t ht => by simp [unhex, ha] at ht⟩
      · rw [show decide (Lib.indexByte D16 a < 0) = false from by simpa using ha, cond_false, Option.bind_some]
        simp only [f40_p0_o0_x0_y, f40_p0_o0_x5_y, f40_p0_o0_x6_y, f40_p0_o0_x23_y, f40_p0_o0_l0_y]
        by_cases hb : Lib.indexByte D16 b < 0
        · rw [show decide (Lib.indexByte D16 b < 0) = true from by simpa using hb, cond_true]
          exact ⟨fun _ => ⟨_, rfl, .inl rfl⟩, fun t ht => by simp [unhex, hb] at ht⟩
        · rw [show decide (Lib.indexByte D16 b < 0) = false from by simpa using hb, cond_false, appOk, if_pos (by simp at hl ⊢; omega)]
          have hcut : cutLo (a :: b :: x) (2 : Int) (fun s => iter f40_p1_st k (f40_p1_y s (l ++ [IntKind.u8.wrap (IntKind.i64.wrap (((BitVec.ofInt 64 (IntKind.i64.wrap (Lib.indexByte D16 a * 2 ^ (min (Int.toNat (4 : Int)) 64))) ||| BitVec.ofInt 64 (Lib.indexByte D16 b)).toNat : Int)))]))) = iter f40_p1_st k (f40_p1_y x (l ++ [((UInt8.ofNat ((Lib.indexByte D16 a).toNat * 16 + (Lib.indexByte D16 b).toNat)).toNat : Int)])) := by
            unfold cutLo
            rw [if_pos (by simp; omega)]
            have e1 : Lib.indexByte D16 a = ((Lib.indexByte D16 a).toNat : Int) := by omega
            have e2 : Lib.indexByte D16 b = ((Lib.indexByte D16 b).toNat : Int) := by omega
            have := nib (Lib.indexByte D16 a).toNat (Lib.indexByte D16 b).toNat (by omega) (by omega)
            rw [← e1, ← e2] at this
            rw [this]; rfl
          rw [hcut]
          obtain ⟨h1, h2⟩ := ih x (l ++ [((UInt8.ofNat ((Lib.indexByte D16 a).toNat * 16 + (Lib.indexByte D16 b).toNat)).toNat : Int)]) k (by simp at hx; omega) (by simp at hk; omega) (by simp at hl ⊢; omega)
          have hor : ¬ (Lib.indexByte D16 a < 0 ∨ Lib.indexByte D16 b < 0) := by omega
          refine ⟨fun h => h1 ?_, fun t ht => ?_⟩
          · rw [unhex, if_neg hor] at h
            cases hu : unhex x with
            | none => rfl
            | some t => rw [hu] at h; cases h
          · rw [unhex, if_neg hor, Option.map_eq_some_iff] at ht
            obtain ⟨t', ht', rfl⟩ := ht
            rw [h2 t' ht']
            simp [bytesOf]
theorem text_eq (a : List UInt8) (h : a.length ≤ 900000) : f21_F (a, ()) = some ((unhex a).getD [], ()) := by
  rw [f21_eq, f40_eq]
  have hm : a.length + 1 ≤ fuelOf f40_p1_sh (f40_p1_y a []) := by rw [fuel_def]; omega
  obtain ⟨h1, h2⟩ := unhex_loop a.length a [] (fuelOf f40_p1_sh (f40_p1_y a [])) (Nat.le_refl _) hm (by simp; omega)
  cases hu : unhex a with
  | none =>
    obtain ⟨r, hr, hor⟩ := h1 hu
    rw [show go f40_p1_st (f40_p1_y a ([] : List Int)) = some r from hr, Option.bind_some]
    rcases hor with rfl | ⟨c, l', rfl⟩
    · rfl
    · rfl
  | some t =>
    rw [show go f40_p1_st (f40_p1_y a ([] : List Int)) = _ from h2 t hu, Option.bind_some]
    dsimp only
    simp only [f40_p1_o0_x0_y, f40_p1_o0_l0_y, List.nil_append, strOf_bytesOf]
    rfl
end Go.Pe.Tryz
end
section
namespace Go.Pe.Tryz
open Go.Proofs Go.RowKit
set_option maxRecDepth 100000
set_option linter.unusedSimpArgs false
set_option linter.unusedVariables false
abbrev Deed := Int × (List (List UInt8) × List Int)
abbrev Shp := List UInt8 × (Int × Int)
def shp : List (Int × Shp) := [(1, ([112, 117, 98, 108, 105, 115, 104], (3, 1))), (2, ([100, 101, 108, 101, 103], (3, 2))), (3, ([114, 111, 116, 97, 116, 101], (1, 2))), (4, ([115, 116, 97, 109, 112], (0, 1))), (5, ([117, 112, 100, 97, 116, 101], (1, 1))), (6, ([99, 114, 97, 115, 104], (1, 2))), (7, ([119, 97, 116, 99, 104], (0, 1))), (8, ([109, 105, 114, 114, 111, 114], (2, 1)))]
def shpM : List (Ty.mapT (.int .i64) (.prod .str (.prod (.int .i64) (.int .i64))) true).den := shp.map fun x => (((), ()), x)
theorem shapes_eq : h25_F h25_y = some (h25_o_y shpM) := by rw [h25_eq]; kernel_rfl
def look (k : Int) : Option Shp := mget (.int .i64) (.prod .str (.prod (.int .i64) (.int .i64))) true shpM k
theorem look_cases (k : Int) : (look k = none ∧ (k < 1 ∨ 8 < k)) ∨ (1 ≤ k ∧ k ≤ 8 ∧ ∃ x, look k = some x ∧ (k, x) ∈ shp) := by
  by_cases h : 1 ≤ k ∧ k ≤ 8
  · right
    refine ⟨h.1, h.2, ?_⟩
    have : k = 1 ∨ k = 2 ∨ k = 3 ∨ k = 4 ∨ k = 5 ∨ k = 6 ∨ k = 7 ∨ k = 8 := by omega
    rcases this with rfl | rfl | rfl | rfl | rfl | rfl | rfl | rfl <;> exact ⟨_, rfl, by decide⟩
  · left
    refine ⟨?_, by omega⟩
    have e : ∀ j : Int, 1 ≤ j ∧ j ≤ 8 → (j == k) = false := fun j hj => by simp; omega
    show mapGet (fun a b : Int => a == b) k shp = none
    have e' : ∀ j : Int, 1 ≤ j ∧ j ≤ 8 → (k == j) = false := fun j hj => by simp; omega
    simp only [shp, mapGet, e' 1 (by omega), e' 2 (by omega), e' 3 (by omega), e' 4 (by omega), e' 5 (by omega), e' 6 (by omega), e' 7 (by omega), e' 8 (by omega)]
theorem mget_look (k : Int) : mget (.int .i64) (.prod .str (.prod (.int .i64) (.int .i64))) true (h25_o_l0 (h25_o_y shpM)) k = look k := by rw [h25_o_l0_y]; rfl
def special (d : Deed) : Bool :=
  if d.1 = 2 then decide (d.2.2.getD 1 0 ≤ 1) else if d.1 = 8 then decide (d.2.2.getD 0 0 ≤ 1) else if d.1 = 6 then (d.2.1.getD 0 []).all (fun c => c == 48 || c == 49) else true
def isDeed (d : Deed) : Bool := match look d.1 with
  | none => false
  | some x => (d.2.1.length : Int) == x.2.1 && ((d.2.2.length : Int) == x.2.2 && (d.2.1.all (fun s => decide (s.length ≤ 3000)) && (d.2.2.all (fun n => decide (0 ≤ n ∧ n ≤ 1099511627776)) && special d)))
theorem isome_any {α : Type} (l : List α) (p : α → Bool) : (l.findIdx? p).isSome = l.any p := by rw [List.findIdx?_isSome]
theorem any_not {α : Type} (l : List α) (p q : α → Bool) (h : ∀ x, p x = !q x) : l.any p = !l.all q := by
  induction l with
  | nil => rfl
  | cons x l ih => simp only [List.any_cons, List.all_cons, ih, h x, Bool.not_and]
theorem any43 (l : List (List UInt8)) (h : l.length ≤ 900000) : h43_F (h43_y l) = some (h43_o_y (l.any fun s => (s.length : Int) != 32)) := by
  have hl := go_scan (step := h65_p0_st) (l := l) (fun i => h65_p0_y l (l.length : Int) (i : Int)) (fun s => (s.length : Int) != 32) (fun k => some (.inr (h65_p0_o1_y (k : Int)))) (some (.inl h65_p0_o0_y))
    (fun i hi rec => by rw [h65_p0_eq, lt_true hi, cond_true, nth_at hi, Option.bind_some, f42_eq, Option.bind_some, inc i (by omega)]) (fun rec => by rw [h65_p0_eq, lt_false, cond_false]) (by rw [fuel_def]; omega)
  rw [show ((0 : Nat) : Int) = 0 from rfl] at hl
  rw [h43_eq, h65_eq, hl, ← isome_any]
  cases l.findIdx? fun s => (s.length : Int) != 32 with
  | none => rfl
  | some k =>
    dsimp only
    rw [Option.bind_some, Option.bind_some]
    simp only [h65_p0_o1_x4_y, h65_o_x0_y]
    rw [show decide ((k : Int) ≥ 0) = true from by simp]; rfl
theorem any43a (l : List (List UInt8)) (h : l.length ≤ 900000) : h43a_F (h43a_y l) = some (h43a_o_y (l.any fun s => decide ((s.length : Int) > 3000))) := by
  have hl := go_scan (step := h65a_p0_st) (l := l) (fun i => h65a_p0_y l (l.length : Int) (i : Int)) (fun s => decide ((s.length : Int) > 3000)) (fun k => some (.inr (h65a_p0_o1_y (k : Int)))) (some (.inl h65a_p0_o0_y))
    (fun i hi rec => by rw [h65a_p0_eq, lt_true hi, cond_true, nth_at hi, Option.bind_some, f48_eq, Option.bind_some, inc i (by omega)]) (fun rec => by rw [h65a_p0_eq, lt_false, cond_false]) (by rw [fuel_def]; omega)
  rw [show ((0 : Nat) : Int) = 0 from rfl] at hl
  rw [h43a_eq, h65a_eq, hl, ← isome_any]
  cases l.findIdx? fun s => decide ((s.length : Int) > 3000) with
  | none => rfl
  | some k =>
    dsimp only
    rw [Option.bind_some, Option.bind_some]
    simp only [h65a_p0_o1_x4_y, h65a_o_x0_y]
    rw [show decide ((k : Int) ≥ 0) = true from by simp]; rfl
def badN (n : Int) : Bool := !decide (0 ≤ n ∧ n ≤ 1099511627776)
theorem f50_bad (n : Int) : f50_F (n, ()) = some (badN n, ()) := by
  rw [f50_eq]
  unfold badN
  by_cases h : n < 0
  · rw [show decide (n < 0) = true from by simpa using h, cond_true]
    rw [show decide (0 ≤ n ∧ n ≤ 1099511627776) = false from by simp; omega]; rfl
  · rw [show decide (n < 0) = false from by simpa using h, cond_false]
    by_cases h2 : n > 1099511627776
    · rw [show decide (n > 1099511627776) = true from by simpa using h2, show decide (0 ≤ n ∧ n ≤ 1099511627776) = false from by simp; omega]; rfl
    · rw [show decide (n > 1099511627776) = false from by simpa using h2, show decide (0 ≤ n ∧ n ≤ 1099511627776) = true from by simp; omega]; rfl
theorem any46 (l : List Int) (h : l.length ≤ 900000) : h49_F (h49_y l) = some (h49_o_y (l.any badN)) := by
  have hl := go_scan (step := h72_p0_st) (l := l) (fun i => h72_p0_y l (l.length : Int) (i : Int)) badN (fun k => some (.inr (h72_p0_o1_y (k : Int)))) (some (.inl h72_p0_o0_y))
    (fun i hi rec => by rw [h72_p0_eq, lt_true hi, cond_true, nth_at hi, Option.bind_some, f50_bad, Option.bind_some, inc i (by omega)]) (fun rec => by rw [h72_p0_eq, lt_false, cond_false]) (by rw [fuel_def]; omega)
  rw [show ((0 : Nat) : Int) = 0 from rfl] at hl
  rw [h49_eq, h72_eq, hl, ← isome_any]
  cases l.findIdx? badN with
  | none => rfl
  | some k =>
    dsimp only
    rw [Option.bind_some, Option.bind_some]
    simp only [h72_p0_o1_x4_y, h72_o_x0_y]
    rw [show decide ((k : Int) ≥ 0) = true from by simp]; rfl
def badC (c : Int) : Bool := c != 48 && c != 49
theorem f52_bad (c : Int) : f52_F (c, ()) = some (badC c, ()) := by
  rw [f52_eq]; unfold badC
  cases c != 48 <;> rfl
theorem any48 (l : List Int) (h : l.length ≤ 900000) : h51_F (h51_y l) = some (h51_o_y (l.any badC)) := by
  have hl := go_scan (step := h73_p0_st) (l := l) (fun i => h73_p0_y l (l.length : Int) (i : Int)) badC (fun k => some (.inr (h73_p0_o1_y (k : Int)))) (some (.inl h73_p0_o0_y))
    (fun i hi rec => by rw [h73_p0_eq, lt_true hi, cond_true, nth_at hi, Option.bind_some, f52_bad, Option.bind_some, inc i (by omega)]) (fun rec => by rw [h73_p0_eq, lt_false, cond_false]) (by rw [fuel_def]; omega)
  rw [show ((0 : Nat) : Int) = 0 from rfl] at hl
  rw [h51_eq, h73_eq, hl, ← isome_any]
  cases l.findIdx? badC with
  | none => rfl
  | some k =>
    dsimp only
    rw [Option.bind_some, Option.bind_some]
    simp only [h73_p0_o1_x4_y, h73_o_x0_y]
    rw [show decide ((k : Int) ≥ 0) = true from by simp]; rfl
theorem bytes_bad (s : List UInt8) : (bytesOf s).any badC = !s.all (fun c => c == 48 || c == 49) := by
  have h : ∀ c : UInt8, badC (c.toNat : Int) = !(c == 48 || c == 49) := by
    intro c
    have : ∀ n : Fin 256, badC (n.val : Int) = !(UInt8.ofNat n.val == 48 || UInt8.ofNat n.val == 49) := by decide +kernel
    simpa using this ⟨c.toNat, c.toNat_lt⟩
  rw [bytesOf, List.any_map]
  exact any_not s _ _ (fun c => h c)
theorem shp_len {k : Int} {x : Shp} (h : (k, x) ∈ shp) : (k = 2 → x.2.2 = 2) ∧ (k = 8 → x.2.2 = 1) ∧ (k = 6 → x.2.1 = 1) ∧ 0 ≤ x.2.1 ∧ x.2.1 ≤ 3 ∧ 1 ≤ x.2.2 ∧ x.2.2 ≤ 2 := by
  simp only [shp, List.mem_cons, Prod.mk.injEq, List.not_mem_nil, or_false] at h
  rcases h with ⟨rfl, rfl⟩ | ⟨rfl, rfl⟩ | ⟨rfl, rfl⟩ | ⟨rfl, rfl⟩ | ⟨rfl, rfl⟩ | ⟨rfl, rfl⟩ | ⟨rfl, rfl⟩ | ⟨rfl, rfl⟩ <;> simp
theorem right_eq (k : Int) (ts : List (List UInt8)) (ns : List Int) (h1 : ts.length ≤ 900000) (h2 : ns.length ≤ 900000) : f27_F ((k, (ts, (ns, ()))), ()) = some (isDeed (k, (ts, ns)), ()) := by
  rw [f27_eq, shapes_eq, Option.bind_some, mget_look, f27_p1_eq]
  rcases look_cases k with ⟨hn, _⟩ | ⟨hk1, hk2, x, hx, hm⟩
  · rw [hn, show (!(none : Option Shp).isSome) = true from rfl, cond_true, Option.bind_some]
    simp only [f27_p1_o0_x29_y, f27_p1_o0_r0_0_y, f27_p1_o0_r0_1_y, f27_p1_o0_r0_2_y, cond_true]
    simp [isDeed, hn]
  · obtain ⟨q2, q8, q6, _⟩ := shp_len hm
    simp only [hx, Option.isSome_some, Bool.not_true, cond_false, Option.getD_some]
    have hI : isDeed (k, (ts, ns)) = ((ts.length : Int) == x.2.1 && ((ns.length : Int) == x.2.2 && (ts.all (fun s => decide (s.length ≤ 3000)) && (ns.all (fun n => decide (0 ≤ n ∧ n ≤ 1099511627776)) && special (k, (ts, ns)))))) := by simp [isDeed, hx]
    rw [hI]
    by_cases e1 : (ts.length : Int) = x.2.1
    · rw [show ((ts.length : Int) != x.2.1) = false from by simpa using e1, cond_false, Option.bind_some]
      simp only [f27_p1_o0_x29_y, f27_p1_o0_r0_0_y, f27_p1_o0_r0_1_y, f27_p1_o0_r0_2_y]
      rw [show ((ts.length : Int) == x.2.1) = true from by simpa using e1, Bool.true_and]
      by_cases e2 : (ns.length : Int) = x.2.2
      · rw [show ((ns.length : Int) != x.2.2) = false from by simpa using e2, cond_false, f27_p0_eq, any43a ts h1, Option.bind_some]
        rw [show ((ns.length : Int) == x.2.2) = true from by simpa using e2, Bool.true_and]
        simp only [h43a_o_x0_y]
        rw [any_not ts _ (fun s => decide (s.length ≤ 3000)) (fun s => by by_cases h : s.length ≤ 3000 <;> simp [h] <;> omega)]
        cases ha : ts.all (fun s => decide (s.length ≤ 3000)) with
        | false =>
          rw [Bool.not_false, cond_true, Option.bind_some]
          simp only [f27_p0_o0_x37_y, f27_p0_o0_r0_0_y, f27_p0_o0_r0_1_y, f27_p0_o0_r0_2_y, cond_true]; rfl
        | true =>
          rw [Bool.not_true, cond_false, any46 ns h2, Option.bind_some, Option.bind_some]
          simp only [h49_o_x0_y, f27_p0_o0_x37_y, f27_p0_o0_r0_0_y, f27_p0_o0_r0_1_y, f27_p0_o0_r0_2_y]
          rw [any_not ns badN (fun n => decide (0 ≤ n ∧ n ≤ 1099511627776)) (fun _ => rfl)]
          cases hb : ns.all (fun n => decide (0 ≤ n ∧ n ≤ 1099511627776)) with
          | false => rw [Bool.not_false, cond_true]; rfl
          | true =>
            rw [Bool.not_true, cond_false, Bool.true_and, Bool.true_and]
            unfold special
            dsimp only
            by_cases k2 : k = 2
            · rw [if_pos k2, show (k == 2) = true from by simpa using k2, cond_true]
              have : ns.length = 2 := by have := q2 k2; omega
              match ns, this with
              | [a, b], _ => rfl
            · rw [if_neg k2, show (k == 2) = false from by simpa using k2, cond_false]
              by_cases k8 : k = 8
              · rw [if_pos k8, show (k == 8) = true from by simpa using k8, cond_true]
                have : ns.length = 1 := by have := q8 k8; omega
                match ns, this with
                | [a], _ => rfl
              · rw [if_neg k8, show (k == 8) = false from by simpa using k8, cond_false]
                by_cases k6 : k = 6
                · rw [if_pos k6, show (k == 6) = true from by simpa using k6, cond_true]
                  have : ts.length = 1 := by have := q6 k6; omega
                  match ts, this, ha with
                  | [s], _, ha =>
                    have hs : s.length ≤ 3000 := by simpa using ha
                    rw [show nth [s] (0 : Int) = some s from rfl, Option.bind_some, any48 _ (by rw [bytesOf_len]; omega), Option.bind_some]
                    simp only [h51_o_x0_y]
                    rw [bytes_bad, Bool.not_not]; rfl
                · rw [if_neg k6, show (k == 6) = false from by simpa using k6, cond_false]
      · rw [show ((ns.length : Int) != x.2.2) = true from by simpa using e2, cond_true]
        rw [show ((ns.length : Int) == x.2.2) = false from by simpa using e2]; rfl
    · rw [show ((ts.length : Int) != x.2.1) = true from by simpa using e1, cond_true, Option.bind_some]
      simp only [f27_p1_o0_x29_y, f27_p1_o0_r0_0_y, f27_p1_o0_r0_1_y, f27_p1_o0_r0_2_y, cond_true]
      rw [show ((ts.length : Int) == x.2.1) = false from by simpa using e1]; rfl
end Go.Pe.Tryz
end
section
namespace Go.Pe.Tryz
open Go.Proofs Go.RowKit
set_option maxRecDepth 100000
set_option linter.unusedSimpArgs false
set_option linter.unusedVariables false
def begins (S : List (List UInt8)) (L : List UInt8) (li cl : Int) : Bool :=
  (S.length : Int) == 4 && (S.all (fun s => (s.length : Int) == 32) && ((L.length : Int) == 32 && (decide (li ≥ 1) && (decide (li ≤ 1000000) && (decide (cl ≥ 1) && decide (cl ≤ 4))))))
theorem begins_eq (S : List (List UInt8)) (L : List UInt8) (li cl : Int) (D : List Deed) (h : S.length ≤ 900000) : f23_F ((S, (L, (li, (cl, (D, ()))))), ()) = some (begins S L li cl, ()) := by
  rw [f23_eq]
  unfold begins
  cases e1 : ((S.length : Int) == 4) with
  | false => rw [cond_false]; rfl
  | true =>
    rw [cond_true, any43 S h, Option.bind_some, Bool.true_and]
    simp only [h43_o_x0_y]
    rw [any_not S (fun s => (s.length : Int) != 32) (fun s => (s.length : Int) == 32) (fun s => rfl), Bool.not_not]
    cases S.all (fun s => (s.length : Int) == 32) with
    | false => rw [cond_false]; rfl
    | true =>
      rw [cond_true, f42_eq, Option.bind_some, Bool.true_and]
      dsimp only
      rw [show ((L.length : Int) != 32) = !((L.length : Int) == 32) from rfl, Bool.not_not]
      cases ((L.length : Int) == 32) with
      | false => rw [cond_false]; rfl
      | true =>
        rw [cond_true, Bool.true_and]
        cases decide (li ≥ 1) with
        | false => rw [cond_false]; rfl
        | true =>
          rw [cond_true, Bool.true_and]
          cases decide (li ≤ 1000000) with
          | false => rw [cond_false]; rfl
          | true =>
            rw [cond_true, Bool.true_and]
            cases decide (cl ≥ 1) with
            | false => rw [cond_false]; rfl
            | true => rw [cond_true, Bool.true_and]
def Small (D : List Deed) : Prop := D.length ≤ 900000 ∧ ∀ d ∈ D, d.2.1.length ≤ 900000 ∧ d.2.2.length ≤ 900000
theorem any22 (D : List Deed) (h : Small D) : h36_F (h36_y D) = some (h36_o_y (D.any fun d => !isDeed d)) := by
  have hl := go_scan (step := h54_p0_st) (l := D) (fun i => h54_p0_y D (D.length : Int) (i : Int)) (fun d => !isDeed d) (fun k => some (.inr (h54_p0_o1_y (k : Int)))) (some (.inl h54_p0_o0_y))
    (fun i hi rec => by
      obtain ⟨g1, g2⟩ := h.2 _ (List.getElem_mem hi)
      rw [h54_p0_eq, lt_true hi, cond_true, nth_at hi, Option.bind_some, f37_eq, right_eq _ _ _ g1 g2, Option.bind_some, Option.bind_some, inc i (by have := h.1; omega)]) (fun rec => by rw [h54_p0_eq, lt_false, cond_false]) (by rw [fuel_def]; have := h.1; omega)
  rw [show ((0 : Nat) : Int) = 0 from rfl] at hl
  rw [h36_eq, h54_eq, hl, ← isome_any]
  cases D.findIdx? fun d => !isDeed d with
  | none => rfl
  | some k =>
    dsimp only
    rw [Option.bind_some, Option.bind_some]
    simp only [h54_p0_o1_x4_y, h54_o_x0_y]
    rw [show decide ((k : Int) ≥ 0) = true from by simp]; rfl
def right (S : List (List UInt8)) (L : List UInt8) (li cl : Int) (D : List Deed) : Bool := begins S L li cl && (decide ((D.length : Int) ≤ 200) && D.all isDeed)
theorem rightP_eq (S : List (List UInt8)) (L : List UInt8) (li cl : Int) (D : List Deed) (h : S.length ≤ 900000) (hD : Small D) : f17_F ((S, (L, (li, (cl, (D, ()))))), ()) = some (right S L li cl D, ()) := by
  rw [f17_eq, begins_eq S L li cl D h, Option.bind_some]
  unfold right
  dsimp only
  cases begins S L li cl with
  | false => rw [cond_false]; rfl
  | true =>
    rw [cond_true, Bool.true_and]
    cases decide ((D.length : Int) ≤ 200) with
    | false => rw [cond_false]; rfl
    | true =>
      rw [cond_true, any22 D hD, Option.bind_some, Bool.true_and]
      simp only [h36_o_x0_y]
      rw [any_not D _ isDeed (fun _ => rfl), Bool.not_not]
theorem min_take {α : Type} (l : List α) (n : Nat) {S : Type} (K : List α → Option S) : cutHi l (minI (l.length : Int) (n : Int)) K = K (l.take n) := by
  unfold cutHi
  rw [minI_eq]
  split
  · rw [if_pos (by omega), Int.toNat_natCast]
  · rename_i h
    rw [if_pos (by omega), Int.toNat_natCast, List.take_of_length_le (Nat.le_refl _), List.take_of_length_le (by omega)]
theorem getD_set_ne {α : Type} (l : List α) (i j : Nat) (a d : α) (h : i ≠ j) : (l.set i a).getD j d = l.getD j d := by
  rw [List.getD_eq_getElem?_getD, List.getD_eq_getElem?_getD, List.getElem?_set_ne h]
theorem same_refl (a : List (List UInt8)) (h : a.length ≤ 900000) : f18_F (a, (a, ())) = some (true, ()) := by
  rw [f18_eq, show ((a.length : Int) != (a.length : Int)) = false from by simp, cond_false]
  have hl := go_scan (step := f18_p0_st) (l := a) (fun i => f18_p0_y a a (a.length : Int) (i : Int)) (fun _ => false) (fun k => some (.inr (f18_p0_o1_y false))) (some (.inl f18_p0_o0_y))
    (fun i hi rec => by rw [f18_p0_eq, lt_true hi, cond_true, nth_at hi, Option.bind_some, Option.bind_some, show (a[i] != a[i]) = false from by simp, cond_false, cond_false, inc i (by omega)]) (fun rec => by rw [f18_p0_eq, lt_false, cond_false]) (by rw [fuel_def]; omega)
  rw [show ((0 : Nat) : Int) = 0 from rfl] at hl
  rw [hl]
  have : a.findIdx? (fun _ => false) = none := by rw [List.findIdx?_eq_none_iff]; intros; rfl
  rw [this]; rfl
theorem like_refl (S : List (List UInt8)) (L : List UInt8) (li cl : Int) (D : List Deed) (hS : S.length ≤ 900000) (hD : Small D) : f7_F ((S, (L, (li, (cl, (D, ()))))), ((S, (L, (li, (cl, (D, ()))))), ())) = some (true, ()) := by
  rw [f7_eq, f7_p3_eq, same_refl S hS, Option.bind_some]
  simp only [Bool.not_true, cond_false, bne_self_eq_false, Option.bind_some, f7_p3_o0_x44_y, f7_p3_o0_r0_0_y, f7_p3_o0_r0_1_y, f7_p3_o0_r0_2_y, f7_p3_o0_r0_3_y, f7_p3_o0_r0_4_y, f7_p3_o0_r1_0_y, f7_p3_o0_r1_1_y, f7_p3_o0_r1_2_y, f7_p3_o0_r1_3_y, f7_p3_o0_r1_4_y]
  have hl := go_scan (step := f7_p2_st) (l := D) (fun i => f7_p2_y (D.length : Int) (i : Int) S L li cl D S L li cl D) (fun _ => false) (fun k => some (.inr (f7_p2_o1_y false))) (some (.inl f7_p2_o0_y))
    (fun i hi rec => by
      obtain ⟨g1, g2⟩ := hD.2 _ (List.getElem_mem hi)
      rw [f7_p2_eq, lt_true hi, cond_true, nth_at hi, Option.bind_some, Option.bind_some, f7_p1_eq, same_refl _ g1]
      simp only [bne_self_eq_false, cond_false, Option.bind_some, Bool.not_true, f7_p1_o0_x47_y, f7_p1_o0_x48_y, f7_p1_o0_x82_y, f7_p1_o0_r0_0_y, f7_p1_o0_r0_1_y, f7_p1_o0_r0_2_y, f7_p1_o0_r0_3_y, f7_p1_o0_r0_4_y, f7_p1_o0_r1_0_y, f7_p1_o0_r1_1_y, f7_p1_o0_r1_2_y, f7_p1_o0_r1_3_y, f7_p1_o0_r1_4_y, f7_p1_o0_r2_0_y, f7_p1_o0_r2_1_y, f7_p1_o0_r2_2_y, f7_p1_o0_r3_0_y, f7_p1_o0_r3_1_y, f7_p1_o0_r3_2_y]
      have hl2 := go_scan (step := f7_p0_st) (l := D[i].2.2) (fun j => f7_p0_y (D.length : Int) (i : Int) (D[i].2.2.length : Int) (j : Int) S L li cl D S L li cl D D[i].1 D[i].2.1 D[i].2.2 D[i].1 D[i].2.1 D[i].2.2) (fun _ => false) (fun k => some (.inr (f7_p0_o1_y false))) (some (.inl (f7_p0_o0_y (D.length : Int) (i : Int) S L li cl D S L li cl D)))
        (fun j hj rec => by rw [f7_p0_eq, lt_true hj, cond_true, nth_at hj, Option.bind_some, Option.bind_some, bne_self_eq_false, cond_false, cond_false, inc j (by omega)]) (fun rec => by rw [f7_p0_eq, lt_false, cond_false]) (by rw [fuel_def]; omega)
      have hn : D[i].2.2.findIdx? (fun _ => false) = none := by rw [List.findIdx?_eq_none_iff]; intros; rfl
      rw [show ((0 : Nat) : Int) = 0 from rfl, hn] at hl2
      rw [hl2, Option.bind_some]
      dsimp only
      simp only [f7_p0_o0_x47_y, f7_p0_o0_x48_y, f7_p0_o0_r0_0_y, f7_p0_o0_r0_1_y, f7_p0_o0_r0_2_y, f7_p0_o0_r0_3_y, f7_p0_o0_r0_4_y, f7_p0_o0_r1_0_y, f7_p0_o0_r1_1_y, f7_p0_o0_r1_2_y, f7_p0_o0_r1_3_y, f7_p0_o0_r1_4_y]
      rw [inc i (by have := hD.1; omega)]) (fun rec => by rw [f7_p2_eq, lt_false, cond_false]) (by rw [fuel_def]; have := hD.1; omega)
  have hn : D.findIdx? (fun _ => false) = none := by rw [List.findIdx?_eq_none_iff]; intros; rfl
  rw [show ((0 : Nat) : Int) = 0 from rfl, hn] at hl
  rw [hl]; rfl
end Go.Pe.Tryz
end
section
namespace Go.Pe.Tryz
open Go.Proofs Go.RowKit
open Go.Lib (join itoa joinTail)
set_option maxRecDepth 100000
set_option linter.unusedSimpArgs false
set_option linter.unusedVariables false
theorem joinTail_len (r : List (List UInt8)) (M : Nat) (h : ∀ w ∈ r, w.length ≤ M) : (joinTail [32] r).length ≤ r.length * (M + 1) := by
  induction r with
  | nil => simp [joinTail]
  | cons w r ih =>
    have h1 := ih fun x hx => h x (by simp [hx])
    have h2 := h w (by simp)
    simp only [joinTail, List.map_cons, List.flatten_cons, List.length_append, List.length_cons, List.length_nil] at h1 ⊢
    rw [Nat.add_mul]; omega
theorem join_len (r : List (List UInt8)) (M : Nat) (h : ∀ w ∈ r, w.length ≤ M) : (join r [32]).length ≤ r.length * (M + 1) := by
  cases r with
  | nil => simp [Lib.join_nil]
  | cons w r =>
    rw [Lib.join_cons, List.length_append]
    have h1 := joinTail_len r M fun x hx => h x (by simp [hx])
    have h2 := h w (by simp)
    rw [List.length_cons, Nat.add_mul]; omega
def wordsOf (d : Deed) (x : Shp) : List (List UInt8) := x.1 :: (d.2.1.map (fun s => 120 :: hex s) ++ d.2.2.map itoa)
def line (d : Deed) : List UInt8 := join (wordsOf d ((look d.1).getD ([], (0, 0)))) [32]
theorem isDeed_iff {d : Deed} (h : isDeed d = true) : ∃ x, look d.1 = some x ∧ (d.1, x) ∈ shp ∧ (d.2.1.length : Int) = x.2.1 ∧ (d.2.2.length : Int) = x.2.2 ∧ (∀ s ∈ d.2.1, s.length ≤ 3000) ∧ (∀ n ∈ d.2.2, 0 ≤ n ∧ n ≤ 1099511627776) := by
  unfold isDeed at h
  rcases look_cases d.1 with ⟨hn, _⟩ | ⟨_, _, x, hx, hm⟩
  · rw [hn] at h; cases h
  · rw [hx] at h
    simp only [Bool.and_eq_true, beq_iff_eq, List.all_eq_true, decide_eq_true_eq] at h
    exact ⟨x, hx, hm, h.1, h.2.1, h.2.2.1, h.2.2.2.1⟩
theorem shp_word {k : Int} {x : Shp} (h : (k, x) ∈ shp) : x.1.length ≤ 7 ∧ ∀ c ∈ x.1, 97 ≤ c.toNat := by
  simp only [shp, List.mem_cons, Prod.mk.injEq, List.not_mem_nil, or_false] at h
  rcases h with ⟨rfl, rfl⟩ | ⟨rfl, rfl⟩ | ⟨rfl, rfl⟩ | ⟨rfl, rfl⟩ | ⟨rfl, rfl⟩ | ⟨rfl, rfl⟩ | ⟨rfl, rfl⟩ | ⟨rfl, rfl⟩ <;> exact ⟨by decide, by decide⟩
theorem itoa_le {n : Int} (h : 0 ≤ n ∧ n ≤ 1099511627776) : (itoa n).length ≤ 21 := Lib.itoa_length_le n (by omega) (by omega)
theorem words_len {d : Deed} {x : Shp} (hx : (d.1, x) ∈ shp) (h1 : (d.2.1.length : Int) = x.2.1) (h2 : (d.2.2.length : Int) = x.2.2) (h3 : ∀ s ∈ d.2.1, s.length ≤ 3000) (h4 : ∀ n ∈ d.2.2, 0 ≤ n ∧ n ≤ 1099511627776) : (wordsOf d x).length ≤ 6 ∧ ∀ w ∈ wordsOf d x, w.length ≤ 6001 := by
  have hl := shp_len hx
  refine ⟨by simp only [wordsOf, List.length_cons, List.length_append, List.length_map]; omega, fun w hw => ?_⟩
  simp only [wordsOf, List.mem_cons, List.mem_append, List.mem_map] at hw
  rcases hw with rfl | ⟨s, hs, rfl⟩ | ⟨n, hn, rfl⟩
  · have := (shp_word hx).1; omega
  · have := h3 s hs; simp only [List.length_cons, hex_length]; omega
  · have := itoa_le (h4 n hn); omega
theorem line_len {d : Deed} (h : isDeed d = true) : (line d).length ≤ 36012 := by
  obtain ⟨x, hx, hm, h1, h2, h3, h4⟩ := isDeed_iff h
  obtain ⟨g1, g2⟩ := words_len hm h1 h2 h3 h4
  unfold line
  rw [hx]
  have := join_len (wordsOf d x) 6001 g2
  have e : ((some x).getD (([] : List UInt8), ((0 : Int), (0 : Int)))) = x := rfl
  rw [e]
  have : (wordsOf d x).length * (6001 + 1) ≤ 6 * 6002 := Nat.mul_le_mul_right _ g1
  omega
theorem foldi_map {α β : Type} (g : α → β) (l : List α) : ∀ (k : Nat) (s : List β), foldi (fun _ (s : List β) (x : α) => s ++ [g x]) k s l = s ++ l.map g := by
  induction l with
  | nil => intro k s; simp [foldi]
  | cons x l ih => intro k s; rw [foldi, ih]; simp
theorem itoaF_eq {n : Int} (h : 0 ≤ n ∧ n ≤ 1099511627776) : itoaF (n, ()) = some (itoa n, ()) := by
  show (if -9223372036854775808 ≤ n ∧ n ≤ 9223372036854775807 then some (itoa n, ()) else none) = _
  rw [if_pos ⟨by omega, by omega⟩]
theorem joinF_eq {ws : List (List UInt8)} (h1 : ws.length ≤ 900000) (M : Nat) (hM : M ≤ 900000) (h2 : ∀ w ∈ ws, w.length ≤ M) : joinF (ws, (([32] : List UInt8), ())) = some (join ws [32], ()) := by
  show (if ws.length ≤ 140737488355328 ∧ (join ws [32]).length ≤ 140737488355328 then some (join ws [32], ()) else none) = _
  have h3 := join_len ws M h2
  have h4 : ws.length * (M + 1) ≤ 900000 * 900001 := Nat.mul_le_mul h1 (by omega)
  rw [if_pos ⟨by omega, by omega⟩]
theorem line_eq (k : Int) (ts : List (List UInt8)) (ns : List Int) (h : isDeed (k, (ts, ns)) = true) : f28_F ((k, (ts, (ns, ()))), ()) = some (line (k, (ts, ns)), ()) := by
  obtain ⟨x, hx, hm, h1, h2, h3, h4⟩ := isDeed_iff h
  obtain ⟨g1, g2⟩ := words_len hm h1 h2 h3 h4
  have hl := shp_len hm
  dsimp only at hx h1 h2 h3 h4
  rw [f28_eq, shapes_eq, Option.bind_some, mget_look, hx, Option.getD_some]
  have a1 := go_foldi (step := f28_p1_st) (l := ts) (fun i s => f28_p1_y ts (ts.length : Int) (i : Int) k ts ns s) (fun _ s t => s ++ [120 :: hex t]) (fun i s => s.length = i + 1) (s0 := [x.1]) (fin := fun s => some (f28_p1_o0_y k ts ns s)) rfl
    (fun i s hi hs => ⟨by simp [hs], fun rec => by
      have hle := h3 _ (List.getElem_mem hi)
      rw [f28_p1_eq, lt_true hi, cond_true, nth_at hi, Option.bind_some, hex_eq _ (by omega), Option.bind_some]
      dsimp only
      rw [if_pos (by rw [hex_length]; simp; omega), appOk, if_pos (by simp; omega), inc i (by omega)]; rfl⟩) (fun s hs rec => by rw [f28_p1_eq, lt_false, cond_false]) (by rw [fuel_def]; omega)
  obtain ⟨a1, b1⟩ := a1
  rw [show ((0 : Nat) : Int) = 0 from rfl] at a1
  rw [a1, Option.bind_some, foldi_map]
  simp only [f28_p1_o0_r0_0_y, f28_p1_o0_r0_1_y, f28_p1_o0_r0_2_y, f28_p1_o0_l1_y]
  have a2 := go_foldi (step := f28_p0_st) (l := ns) (fun i s => f28_p0_y ns (ns.length : Int) (i : Int) s) (fun _ s n => s ++ [itoa n]) (fun i s => s.length = i + (ts.length + 1)) (s0 := [x.1] ++ ts.map fun t => 120 :: hex t) (fin := fun s => some (f28_p0_o0_y s)) (by simp)
    (fun i s hi hs => ⟨by simp [hs]; omega, fun rec => by
      rw [f28_p0_eq, lt_true hi, cond_true, nth_at hi, Option.bind_some, itoaF_eq (h4 _ (List.getElem_mem hi)), Option.bind_some, appOk, if_pos (by simp; omega), inc i (by omega)]⟩) (fun s hs rec => by rw [f28_p0_eq, lt_false, cond_false]) (by rw [fuel_def]; omega)
  obtain ⟨a2, b2⟩ := a2
  rw [show ((0 : Nat) : Int) = 0 from rfl] at a2
  rw [a2, Option.bind_some, foldi_map]
  simp only [f28_p0_o0_l1_y]
  have e : [x.1] ++ ts.map (fun t => 120 :: hex t) ++ ns.map itoa = wordsOf (k, (ts, ns)) x := by simp [wordsOf]
  rw [e, joinF_eq (by omega) 6001 (by omega) g2, Option.bind_some]
  unfold line
  rw [hx]; rfl
def sysW : List UInt8 := [115, 121, 115, 116, 101, 109]
def firstW (S : List (List UInt8)) (L : List UInt8) (li cl : Int) : List (List UInt8) := sysW :: (S.map hex ++ [hex L, itoa li, itoa cl])
def first (S : List (List UInt8)) (L : List UInt8) (li cl : Int) : List UInt8 := join (firstW S L li cl) [32]
theorem begins_iff {S : List (List UInt8)} {L : List UInt8} {li cl : Int} (h : begins S L li cl = true) : S.length = 4 ∧ (∀ s ∈ S, s.length = 32) ∧ L.length = 32 ∧ 1 ≤ li ∧ li ≤ 1000000 ∧ 1 ≤ cl ∧ cl ≤ 4 := by
  unfold begins at h
  simp only [Bool.and_eq_true, beq_iff_eq, List.all_eq_true, decide_eq_true_eq] at h
  obtain ⟨h1, h2, h3, h4, h5, h6, h7⟩ := h
  exact ⟨by omega, fun s hs => by have := h2 s hs; omega, by omega, h4, h5, h6, h7⟩
theorem firstW_len {S : List (List UInt8)} {L : List UInt8} {li cl : Int} (h : begins S L li cl = true) : (firstW S L li cl).length = 8 ∧ ∀ w ∈ firstW S L li cl, w.length ≤ 64 := by
  obtain ⟨h1, h2, h3, h4, h5, h6, h7⟩ := begins_iff h
  refine ⟨by simp [firstW, h1], fun w hw => ?_⟩
  simp only [firstW, List.mem_cons, List.mem_append, List.mem_map, List.not_mem_nil, or_false] at hw
  rcases hw with rfl | ⟨s, hs, rfl⟩ | rfl | rfl | rfl
  · decide
  · rw [hex_length, h2 s hs]; omega
  · rw [hex_length, h3]; omega
  · have := itoa_le (n := li) ⟨by omega, by omega⟩; omega
  · have := itoa_le (n := cl) ⟨by omega, by omega⟩; omega
theorem first_len {S : List (List UInt8)} {L : List UInt8} {li cl : Int} (h : begins S L li cl = true) : (first S L li cl).length ≤ 520 := by
  obtain ⟨g1, g2⟩ := firstW_len h
  have := join_len _ 64 g2
  rw [g1] at this
  unfold first; omega
theorem first_eq (S : List (List UInt8)) (L : List UInt8) (li cl : Int) (D : List Deed) (h : begins S L li cl = true) : f24_F ((S, (L, (li, (cl, (D, ()))))), ()) = some (first S L li cl, ()) := by
  obtain ⟨h1, h2, h3, h4, h5, h6, h7⟩ := begins_iff h
  obtain ⟨g1, g2⟩ := firstW_len h
  rw [f24_eq]
  have a1 := go_foldi (step := f24_p0_st) (l := S) (fun i s => f24_p0_y S (S.length : Int) (i : Int) S L li cl D s) (fun _ s t => s ++ [hex t]) (fun i s => s.length = i + 1) (s0 := [sysW]) (fin := fun s => some (f24_p0_o0_y S L li cl D s)) rfl
    (fun i s hi hs => ⟨by simp [hs], fun rec => by
      have hle := h2 _ (List.getElem_mem hi)
      rw [f24_p0_eq, lt_true hi, cond_true, nth_at hi, Option.bind_some, hex_eq _ (by omega), Option.bind_some]
      dsimp only
      rw [appOk, if_pos (by simp; omega), inc i (by omega)]⟩) (fun s hs rec => by rw [f24_p0_eq, lt_false, cond_false]) (by rw [fuel_def]; omega)
  obtain ⟨a1, b1⟩ := a1
  rw [show ((0 : Nat) : Int) = 0 from rfl] at a1
  have e0 : go f24_p0_st (f24_p0_y S (S.length : Int) (0 : Int) S L li cl D ([([115, 121, 115, 116, 101, 109] : List UInt8)] : List (List UInt8))) = _ := a1
  rw [e0, Option.bind_some, foldi_map]
  simp only [f24_p0_o0_r0_0_y, f24_p0_o0_r0_1_y, f24_p0_o0_r0_2_y, f24_p0_o0_r0_3_y, f24_p0_o0_r0_4_y, f24_p0_o0_l0_y]
  rw [hex_eq L (by omega), Option.bind_some, itoaF_eq ⟨by omega, by omega⟩, Option.bind_some, itoaF_eq ⟨by omega, by omega⟩, Option.bind_some, appOk, if_pos (by simp; omega)]
  have e : [sysW] ++ S.map hex ++ [hex L, itoa li, itoa cl] = firstW S L li cl := by simp [firstW]
  dsimp only
  rw [e, joinF_eq (by omega) 64 (by omega) g2, Option.bind_some]; rfl
def linesOf (D : List Deed) : List UInt8 := D.flatMap fun d => line d ++ [10]
def textOf (S : List (List UInt8)) (L : List UInt8) (li cl : Int) (D : List Deed) : List UInt8 := first S L li cl ++ 10 :: linesOf D
theorem right_iff {S : List (List UInt8)} {L : List UInt8} {li cl : Int} {D : List Deed} (h : right S L li cl D = true) : begins S L li cl = true ∧ D.length ≤ 200 ∧ ∀ d ∈ D, isDeed d = true := by
  unfold right at h
  simp only [Bool.and_eq_true, List.all_eq_true, decide_eq_true_eq] at h
  exact ⟨h.1, by omega, h.2.2⟩
theorem foldi_lines (D : List Deed) : ∀ (k : Nat) (s : List UInt8), foldi (fun _ (s : List UInt8) (d : Deed) => s ++ (line d ++ [10])) k s D = s ++ linesOf D := by
  induction D with
  | nil => intro k s; simp [foldi, linesOf]
  | cons d D ih => intro k s; rw [foldi, ih]; simp [linesOf]
theorem lines_len {D : List Deed} (h : ∀ d ∈ D, isDeed d = true) : (linesOf D).length ≤ D.length * 36013 := by
  induction D with
  | nil => simp [linesOf]
  | cons d D ih =>
    have h1 := ih fun x hx => h x (by simp [hx])
    have h2 := line_len (h d (by simp))
    simp only [linesOf, List.flatMap_cons, List.length_append, List.length_cons, List.length_nil] at h1 ⊢
    omega
theorem text_len {S : List (List UInt8)} {L : List UInt8} {li cl : Int} {D : List Deed} (h : right S L li cl D = true) : (textOf S L li cl D).length ≤ 8000000 := by
  obtain ⟨h1, h2, h3⟩ := right_iff h
  have := first_len h1
  have := lines_len h3
  have : D.length * 36013 ≤ 200 * 36013 := Nat.mul_le_mul_right _ h2
  simp only [textOf, List.length_append, List.length_cons]; omega
theorem print_eq (S : List (List UInt8)) (L : List UInt8) (li cl : Int) (D : List Deed) (hS : S.length ≤ 900000) (hD : Small D) : f15_F ((S, (L, (li, (cl, (D, ()))))), ()) = some (if right S L li cl D = true then (textOf S L li cl D, (0, ())) else ([], (1, ()))) := by
  rw [f15_eq, rightP_eq S L li cl D hS hD, Option.bind_some]
  dsimp only
  cases hr : right S L li cl D with
  | false => rfl
  | true =>
    obtain ⟨h1, h2, h3⟩ := right_iff hr
    rw [Bool.not_true, cond_false, first_eq S L li cl D h1, Option.bind_some]
    dsimp only
    have hf := first_len h1
    rw [if_pos (by simp; omega)]
    have a1 := go_foldi (step := f15_p0_st) (l := D) (fun i s => f15_p0_y s D (D.length : Int) (i : Int)) (fun _ s d => s ++ (line d ++ [10])) (fun i s => s.length ≤ 521 + i * 36013) (s0 := first S L li cl ++ [10]) (fin := fun s => some (f15_p0_o0_y s)) (by simp; omega)
      (fun i s hi hs => ⟨by
        have := line_len (h3 _ (List.getElem_mem hi))
        rw [List.length_append, List.length_append, List.length_cons, List.length_nil, Nat.add_mul]; omega, fun rec => by
        have hd := h3 _ (List.getElem_mem hi)
        have hle := line_len hd
        rw [f15_p0_eq, lt_true hi, cond_true, nth_at hi, Option.bind_some, line_eq D[i].1 D[i].2.1 D[i].2.2 hd, Option.bind_some]
        dsimp only
        have : i * 36013 ≤ 200 * 36013 := Nat.mul_le_mul_right _ (by omega)
        have e : (D[i].1, D[i].2.1, D[i].2.2) = D[i] := rfl
        rw [if_pos (by rw [e]; simp; omega), if_pos (by rw [e]; simp; omega), inc i (by omega)]⟩) (fun s hs rec => by rw [f15_p0_eq, lt_false, cond_false]) (by rw [fuel_def]; omega)
    obtain ⟨a1, b1⟩ := a1
    rw [show ((0 : Nat) : Int) = 0 from rfl] at a1
    rw [a1, Option.bind_some, foldi_lines]
    simp only [f15_p0_o0_x4_y]
    rw [if_pos trivial]
    simp [textOf]
end Go.Pe.Tryz
end
section
namespace Go.Pe.Tryz
open Go.Proofs Go.RowKit
open Go.Lib (join itoa joinTail)
set_option maxRecDepth 100000
set_option linter.unusedSimpArgs false
set_option linter.unusedVariables false
def tx (w : List UInt8) : List UInt8 := (unhex w).getD []
theorem tx_hex (s : List UInt8) : tx (hex s) = s := by rw [tx, unhex_hex]; rfl
theorem no_of_ge {c : UInt8} {w : List UInt8} (m : Nat) (h : ∀ x ∈ w, m ≤ x.toNat) (hc : c.toNat < m) : c ∉ w := fun hm => by have := h c hm; omega
theorem hex_no (s : List UInt8) {c : UInt8} (hc : c.toNat < 48) : c ∉ hex s := no_of_ge 48 (hex_digit s) hc
theorem itoa_no {n : Int} (h : 0 ≤ n) {c : UInt8} (hc : c.toNat < 48) : c ∉ itoa n := no_of_ge 48 (fun x hx => (itoa_digit n h x hx).1) hc
theorem firstW_no {S : List (List UInt8)} {L : List UInt8} {li cl : Int} (h : begins S L li cl = true) {c : UInt8} (hc : c.toNat < 48) : ∀ w ∈ firstW S L li cl, c ∉ w := by
  obtain ⟨h1, h2, h3, h4, h5, h6, h7⟩ := begins_iff h
  intro w hw
  simp only [firstW, List.mem_cons, List.mem_append, List.mem_map, List.not_mem_nil, or_false] at hw
  rcases hw with rfl | ⟨s, hs, rfl⟩ | rfl | rfl | rfl
  · exact no_of_ge 97 (by decide) (by omega)
  · exact hex_no _ hc
  · exact hex_no _ hc
  · exact itoa_no (by omega) hc
  · exact itoa_no (by omega) hc
theorem split_first {S : List (List UInt8)} {L : List UInt8} {li cl : Int} (h : begins S L li cl = true) : splitC 32 (first S L li cl) = firstW S L li cl := splitC_join (by simp [firstW]) (firstW_no h (by decide))
theorem words_no {d : Deed} {x : Shp} (hx : (d.1, x) ∈ shp) (h4 : ∀ n ∈ d.2.2, 0 ≤ n ∧ n ≤ 1099511627776) {c : UInt8} (hc : c.toNat < 48) : ∀ w ∈ wordsOf d x, c ∉ w := by
  intro w hw
  simp only [wordsOf, List.mem_cons, List.mem_append, List.mem_map] at hw
  rcases hw with rfl | ⟨s, hs, rfl⟩ | ⟨n, hn, rfl⟩
  · exact no_of_ge 97 (shp_word hx).2 (by omega)
  · intro hm
    rcases List.mem_cons.1 hm with rfl | hm
    · simp at hc
    · exact hex_no _ hc hm
  · exact itoa_no (h4 n hn).1 hc
theorem splitF_eq (s : List UInt8) (h : s.length ≤ 900000) : splitF (s, (([32] : List UInt8), ())) = some (splitC 32 s, ()) := by
  show (if s.length < 4294967281 ∧ 1 ≤ ([32] : List UInt8).length then some (((Lib.splitB ⟨#[32]⟩ 0 (Lib.countB ⟨s.toArray⟩ ⟨#[32]⟩) ⟨s.toArray⟩).map (·.data.toList)), ()) else none) = _
  rw [if_pos ⟨by omega, by decide⟩, split_words]
theorem splitC_le {c : UInt8} : ∀ (s : List UInt8), ∀ w ∈ splitC c s, w.length ≤ s.length
  | [], w, h => by simp [splitC] at h; subst h; simp
  | b :: s, w, h => by
    have ih := splitC_le (c := c) s
    unfold splitC at h
    split at h
    · rcases List.mem_cons.1 h with rfl | h
      · simp
      · have := ih w h; simp; omega
    · split at h
      · rename_i w0 ws hs
        rcases List.mem_cons.1 h with rfl | h
        · have := ih w0 (by rw [hs]; simp); simp; omega
        · have := ih w (by rw [hs]; simp [h]); simp; omega
      · simp only [List.mem_singleton] at h; subst h; simp
theorem splitC_ne {c : UInt8} : ∀ (s : List UInt8), splitC c s ≠ []
  | [] => by simp [splitC]
  | b :: s => by
    unfold splitC
    split
    · simp
    · split <;> simp
theorem numberF_eq (s : List UInt8) (h : s.length ≤ 900000) : numberF (s, ()) = some (numOf s, ()) := by
  show (if s.length ≤ 4294967296 then some (numOf s, ()) else none) = _
  rw [if_pos (by omega)]
theorem list8 {α : Type} : ∀ {l : List α}, l.length = 8 → ∃ a b c d e f g h, l = [a, b, c, d, e, f, g, h]
  | [a, b, c, d, e, f, g, h], _ => ⟨a, b, c, d, e, f, g, h, rfl⟩
theorem list4 {α : Type} : ∀ {l : List α}, l.length = 4 → ∃ a b c d, l = [a, b, c, d]
  | [a, b, c, d], _ => ⟨a, b, c, d, rfl⟩
theorem begin_eq (s : List UInt8) (h : s.length ≤ 900000) : ∃ S L li cl ok, h9_F (h9_y s) = some (h9_o_y L li cl ok S) ∧ (ok = true → begins S L li cl = true ∧ first S L li cl = s) ∧
    (∀ S0 L0 li0 cl0, begins S0 L0 li0 cl0 = true → s = first S0 L0 li0 cl0 → ok = true ∧ S = S0 ∧ L = L0 ∧ li = li0 ∧ cl = cl0) := by
  rw [h9_eq, splitF_eq s h, Option.bind_some]
  dsimp only
  by_cases h8 : (splitC 32 s).length = 8
  · rw [show (((splitC 32 s).length : Int) != 8) = false from by rw [h8]; rfl, cond_false]
    have hle := splitC_le (c := 32) s
    obtain ⟨w0, w1, w2, w3, w4, w5, w6, w7, hw⟩ := list8 h8
    have hws : ∀ w ∈ [w0, w1, w2, w3, w4, w5, w6, w7], w.length ≤ 900000 := fun w hm => by have := hle w (by rw [hw]; exact hm); omega
    rw [hw]
    rw [show nth [w0, w1, w2, w3, w4, w5, w6, w7] (5 : Int) = some w5 from rfl, Option.bind_some, text_eq w5 (hws w5 (by simp)), Option.bind_some, show nth [w0, w1, w2, w3, w4, w5, w6, w7] (6 : Int) = some w6 from rfl, Option.bind_some, numberF_eq w6 (hws w6 (by simp)), Option.bind_some, show nth [w0, w1, w2, w3, w4, w5, w6, w7] (7 : Int) = some w7 from rfl, Option.bind_some, numberF_eq w7 (hws w7 (by simp)), Option.bind_some]
    have hcm : ∀ {S : Type} (K : List (List UInt8) → Option S), cutMid [w0, w1, w2, w3, w4, w5, w6, w7] (1 : Int) (5 : Int) K = K [w1, w2, w3, w4] := fun K => by unfold cutMid; rw [if_pos (by simp)]; rfl
    rw [hcm]
    have a1 := go_foldi (step := h9_p0_st) (l := [w1, w2, w3, w4]) (fun i t => h9_p0_y s [w1, w2, w3, w4] (([w1, w2, w3, w4] : List (List UInt8)).length : Int) (i : Int) [] 0 0 (tx w5) (numOf w6) (numOf w7) t) (fun _ t w => t ++ [tx w]) (fun i t => t.length = i) (s0 := []) (fin := fun t => some (h9_p0_o0_y s [] 0 0 (tx w5) (numOf w6) (numOf w7) t)) rfl
      (fun i t hi ht => ⟨by simp [ht], fun rec => by
        have hm : ([w1, w2, w3, w4] : List (List UInt8))[i].length ≤ 900000 := hws _ (show _ ∈ w0 :: ([w1, w2, w3, w4] ++ [w5, w6, w7]) from List.mem_cons_of_mem _ (List.mem_append_left _ (List.getElem_mem hi)))
        have hi4 : i < 4 := hi
        rw [h9_p0_eq, lt_true hi, cond_true, nth_at hi, Option.bind_some, text_eq _ hm, Option.bind_some, appOk, if_pos (by simp; omega), inc i (by omega)]; rfl⟩) (fun t ht rec => by rw [h9_p0_eq, lt_false, cond_false]) (by rw [fuel_def]; simp only [List.length_cons, List.length_nil]; omega)
    obtain ⟨a1, b1⟩ := a1
    rw [show ((0 : Nat) : Int) = 0 from rfl] at a1
    have e0 : go h9_p0_st (h9_p0_y s [w1, w2, w3, w4] (([w1, w2, w3, w4] : List (List UInt8)).length : Int) (0 : Int) ([] : List UInt8) (0 : Int) (0 : Int) ((unhex w5).getD []) (numOf w6) (numOf w7) ([] : List (List UInt8))) = _ := a1
    rw [e0, Option.bind_some, foldi_map]
    simp only [h9_p0_o0_x0_y, h9_p0_o0_r0_1_y, h9_p0_o0_r0_2_y, h9_p0_o0_r0_3_y, h9_p0_o0_r1_1_y, h9_p0_o0_r1_2_y, h9_p0_o0_r1_3_y, h9_p0_o0_l0_y, List.nil_append]
    rw [begins_eq _ _ _ _ _ (by simp), Option.bind_some]
    cases hb : begins ([w1, w2, w3, w4].map tx) (tx w5) (numOf w6) (numOf w7) with
    | false =>
      refine ⟨_, _, _, _, false, by rw [cond_false], fun h => (by cases h), fun S0 L0 li0 cl0 hb0 hs0 => ?_⟩
      exfalso
      rw [hs0, split_first hb0] at hw
      obtain ⟨g1, g2, g3, g4, g5, g6, g7⟩ := begins_iff hb0
      obtain ⟨a, b, c, d, rfl⟩ := list4 g1
      simp only [firstW, List.map_cons, List.map_nil, List.cons_append, List.nil_append, List.cons.injEq, and_true] at hw
      obtain ⟨_, rfl, rfl, rfl, rfl, rfl, rfl, rfl⟩ := hw
      rw [List.map_cons, List.map_cons, List.map_cons, List.map_cons, List.map_nil, tx_hex, tx_hex, tx_hex, tx_hex, tx_hex, numOf_itoa _ (by omega) (by omega), numOf_itoa _ (by omega) (by omega), hb0] at hb
      cases hb
    | true =>
      refine ⟨_, _, _, _, first ([w1, w2, w3, w4].map tx) (tx w5) (numOf w6) (numOf w7) == s, by rw [cond_true, first_eq _ _ _ _ _ hb, Option.bind_some], fun h => ⟨hb, by simpa using h⟩, fun S0 L0 li0 cl0 hb0 hs0 => ?_⟩
      have hw' := hw
      rw [hs0, split_first hb0] at hw'
      obtain ⟨g1, g2, g3, g4, g5, g6, g7⟩ := begins_iff hb0
      obtain ⟨a, b, c, d, rfl⟩ := list4 g1
      simp only [firstW, List.map_cons, List.map_nil, List.cons_append, List.nil_append, List.cons.injEq, and_true] at hw'
      obtain ⟨_, rfl, rfl, rfl, rfl, rfl, rfl, rfl⟩ := hw'
      rw [List.map_cons, List.map_cons, List.map_cons, List.map_cons, List.map_nil, tx_hex, tx_hex, tx_hex, tx_hex, tx_hex, numOf_itoa _ (by omega) (by omega), numOf_itoa _ (by omega) (by omega)]
      exact ⟨by rw [hs0]; simp, rfl, rfl, rfl, rfl⟩
  · rw [show (((splitC 32 s).length : Int) != 8) = true from by simp; omega, cond_true]
    refine ⟨_, _, _, _, _, rfl, fun h => (by cases h), fun S0 L0 li0 cl0 hb0 hs0 => ?_⟩
    exfalso
    rw [hs0, split_first hb0] at h8
    exact h8 (firstW_len hb0).1
theorem shp_one : ∀ a ∈ shp, ∀ b ∈ shp, a.2.1 = b.2.1 → a = b := by decide
theorem shp_two : ∀ a ∈ shp, ∀ b ∈ shp, a.1 = b.1 → a = b := by decide
theorem look_mem {k : Int} {x : Shp} (h : (k, x) ∈ shp) : look k = some x := by
  rcases look_cases k with ⟨_, hk⟩ | ⟨_, _, y, hy, hm⟩
  · exfalso
    simp only [shp, List.mem_cons, Prod.mk.injEq, List.not_mem_nil, or_false] at h
    omega
  · have := shp_two _ h _ hm rfl
    rw [hy]; cases this; rfl
def rd (t : Int) (i : Nat) (s : List (List UInt8) × List Int) (w : List UInt8) : List (List UInt8) × List Int :=
  if (i : Int) < t then (s.1 ++ [tx (Lib.trimPrefix w [120])], s.2) else (s.1, s.2 ++ [numOf w])
theorem rd_nums (t : Int) (B : List Int) (hB : ∀ n ∈ B, 0 ≤ n ∧ n ≤ 1099511627776) : ∀ (k : Nat) (s : List (List UInt8) × List Int), t ≤ k → foldi (rd t) k s (B.map itoa) = (s.1, s.2 ++ B) := by
  induction B with
  | nil => intro k s _; simp [foldi]
  | cons n B ih =>
    intro k s hk
    have hn := hB n (by simp)
    rw [List.map_cons, foldi, ih (fun m hm => hB m (by simp [hm])) _ _ (by omega)]
    rw [rd, if_neg (by omega), numOf_itoa n (by omega) (by omega)]
    simp
theorem rd_words (t : Int) (A : List (List UInt8)) (B : List Int) (hB : ∀ n ∈ B, 0 ≤ n ∧ n ≤ 1099511627776) : ∀ (k : Nat) (s : List (List UInt8) × List Int), (k : Int) + A.length = t → foldi (rd t) k s (A.map (fun s => 120 :: hex s) ++ B.map itoa) = (s.1 ++ A, s.2 ++ B) := by
  induction A with
  | nil => intro k s hk; simp only [List.map_nil, List.nil_append, List.append_nil]; exact rd_nums t B hB k s (by simp at hk; omega)
  | cons a A ih =>
    intro k s hk
    simp only [List.length_cons] at hk
    rw [List.map_cons, List.cons_append, foldi, ih _ _ (by omega)]
    rw [rd, if_pos (by omega), trim_x, tx_hex]
    simp
theorem trim_le (w : List UInt8) : (Lib.trimPrefix w [120]).length ≤ w.length := by
  unfold Lib.trimPrefix
  split
  · simp
  · exact Nat.le_refl _
theorem deed_round (s : List UInt8) (hs : s.length ≤ 900000) (k : Int) (x : Shp) (hm : (k, x) ∈ shp) (w : List UInt8) (ws : List (List UInt8)) (hW : splitC 32 s = w :: ws) (hn : ((w :: ws).length : Int) = 1 + x.2.1 + x.2.2) (hw : x.1 = w) :
    ∃ ok, f10_p2_st (f10_p2_h_y s (splitC 32 s) 0) (k, x) = some (.inr (.inr (f10_p2_o1_y ok k (foldi (rd x.2.1) 0 ([], []) ws).1 (foldi (rd x.2.1) 0 ([], []) ws).2))) ∧
      (ok = true ↔ (isDeed (k, foldi (rd x.2.1) 0 ([], []) ws) = true ∧ line (k, foldi (rd x.2.1) 0 ([], []) ws) = s)) := by
  have hl := shp_len hm
  have hle := splitC_le (c := 32) s
  rw [hW] at hle
  rw [f10_p2_st_eq, hW, show nth (w :: ws) (0 : Int) = some w from rfl, Option.bind_some]
  dsimp only
  rw [show (x.1 != w) = false from by simpa using hw, cond_false]
  rw [show IntKind.i64.wrap (IntKind.i64.wrap (1 + x.2.1) + x.2.2) = 1 + x.2.1 + x.2.2 from by rw [wrap64 (x := 1 + x.2.1) (by omega) (by omega), wrap64 (by omega) (by omega)]]
  rw [show (((w :: ws).length : Int) != 1 + x.2.1 + x.2.2) = false from by rw [hn]; simp, cond_false]
  have hcl : ∀ {S : Type} (K : List (List UInt8) → Option S), cutLo (w :: ws) (1 : Int) K = K ws := fun K => by unfold cutLo; rw [if_pos (by simp; omega)]; rfl
  rw [hcl]
  have hwl : ws.length ≤ 5 := by simp only [List.length_cons] at hn; omega
  have a1 := go_foldi (step := f10_p1_st) (l := ws) (fun i t => f10_p1_y s ws (ws.length : Int) (i : Int) 0 x.1 x.2.1 x.2.2 k t.1 t.2) (rd x.2.1) (fun i t => t.1.length + t.2.length = i) (s0 := ([], [])) (fin := fun t => some (f10_p1_o0_y s 0 k t.1 t.2)) rfl
    (fun i t hi ht => ⟨by unfold rd; split <;> simp <;> omega, fun rec => by
      have hwi : ws[i].length ≤ 900000 := by have := hle ws[i] (by simp); omega
      rw [f10_p1_eq, lt_true hi, cond_true, f10_p0_eq, nth_at hi, Option.bind_some]
      unfold rd
      by_cases hlt : (i : Int) < x.2.1
      · rw [show decide ((i : Int) < x.2.1) = true from by simpa using hlt, cond_true, if_pos hlt]
        rw [show trimF (ws[i], (([120] : List UInt8), ())) = some (Lib.trimPrefix ws[i] [120], ()) from rfl, Option.bind_some, text_eq _ (by have := trim_le ws[i]; dsimp only; omega), Option.bind_some, appOk, if_pos (by simp; omega), Option.bind_some]
        simp only [f10_p0_o0_x0_y, f10_p0_o0_x39_y, f10_p0_o0_x40_y, f10_p0_o0_x41_y, f10_p0_o0_r0_0_y, f10_p0_o0_r1_0_y, f10_p0_o0_r1_1_y, f10_p0_o0_r1_2_y, f10_p0_o0_r2_0_y, f10_p0_o0_l0_y, f10_p0_o0_l1_y]
        rw [inc i (by omega)]; rfl
      · rw [show decide ((i : Int) < x.2.1) = false from by simpa using hlt, cond_false, if_neg hlt, numberF_eq _ hwi, Option.bind_some, appOk, if_pos (by simp; omega), Option.bind_some]
        simp only [f10_p0_o0_x0_y, f10_p0_o0_x39_y, f10_p0_o0_x40_y, f10_p0_o0_x41_y, f10_p0_o0_r0_0_y, f10_p0_o0_r1_0_y, f10_p0_o0_r1_1_y, f10_p0_o0_r1_2_y, f10_p0_o0_r2_0_y, f10_p0_o0_l0_y, f10_p0_o0_l1_y]
        rw [inc i (by omega)]⟩) (fun t ht rec => by rw [f10_p1_eq, lt_false, cond_false]) (by rw [fuel_def]; omega)
  obtain ⟨a1, b1⟩ := a1
  rw [show ((0 : Nat) : Int) = 0 from rfl] at a1
  have e0 : go f10_p1_st (f10_p1_y s ws (ws.length : Int) (0 : Int) 0 x.1 x.2.1 x.2.2 k ([] : List (List UInt8)) ([] : List Int)) = _ := a1
  rw [e0, Option.bind_some]
  generalize foldi (rd x.2.1) 0 ([], []) ws = t at b1 ⊢
  obtain ⟨ts, ns⟩ := t
  simp only [f10_p1_o0_x0_y, f10_p1_o0_r0_0_y, f10_p1_o0_r2_0_y, f10_p1_o0_l0_y, f10_p1_o0_l1_y]
  rw [right_eq k ts ns (by dsimp only at b1; omega) (by dsimp only at b1; omega), Option.bind_some]
  dsimp only
  cases hd : isDeed (k, (ts, ns)) with
  | false => exact ⟨false, by rw [cond_false], by simp⟩
  | true =>
    refine ⟨line (k, (ts, ns)) == s, by rw [cond_true, line_eq k ts ns hd, Option.bind_some], by simp⟩
theorem deed_other (s : List UInt8) (k : Int) (x : Shp) (hm : (k, x) ∈ shp) (w : List UInt8) (ws : List (List UInt8)) (hW : splitC 32 s = w :: ws) (h : ¬ (x.1 = w ∧ ((w :: ws).length : Int) = 1 + x.2.1 + x.2.2)) :
    f10_p2_st (f10_p2_h_y s (splitC 32 s) 0) (k, x) = some (.inl (f10_p2_h_y s (splitC 32 s) 0)) := by
  have hl := shp_len hm
  rw [f10_p2_st_eq, hW, show nth (w :: ws) (0 : Int) = some w from rfl, Option.bind_some]
  dsimp only
  by_cases hw : x.1 = w
  · rw [show (x.1 != w) = false from by simpa using hw, cond_false]
    rw [show IntKind.i64.wrap (IntKind.i64.wrap (1 + x.2.1) + x.2.2) = 1 + x.2.1 + x.2.2 from by rw [wrap64 (x := 1 + x.2.1) (by omega) (by omega), wrap64 (by omega) (by omega)]]
    rw [show (((w :: ws).length : Int) != 1 + x.2.1 + x.2.2) = true from by simp only [bne_iff_ne, ne_eq]; exact fun e => h ⟨hw, e⟩, cond_true]
  · rw [show (x.1 != w) = true from by simpa using hw, cond_true]
theorem split_line {d : Deed} (h : isDeed d = true) : ∃ x, (d.1, x) ∈ shp ∧ splitC 32 (line d) = x.1 :: (d.2.1.map (fun s => 120 :: hex s) ++ d.2.2.map itoa) ∧ (d.2.1.length : Int) = x.2.1 ∧ (d.2.2.length : Int) = x.2.2 ∧ ∀ n ∈ d.2.2, 0 ≤ n ∧ n ≤ 1099511627776 := by
  obtain ⟨x, hx, hm, h1, h2, h3, h4⟩ := isDeed_iff h
  refine ⟨x, hm, ?_, h1, h2, h4⟩
  unfold line
  rw [hx]
  exact splitC_join (by simp [wordsOf]) (words_no hm h4 (by decide))
theorem deed_eq (s : List UInt8) (hs : s.length ≤ 900000) : ∃ d ok, f10_F (s, ()) = some ((d.1, (d.2.1, (d.2.2, ()))), (ok, ())) ∧ (ok = true → isDeed d = true ∧ line d = s) ∧ (∀ d0 : Deed, isDeed d0 = true → s = line d0 → ok = true ∧ d = d0) := by
  obtain ⟨w, ws, hW⟩ : ∃ w ws, splitC 32 s = w :: ws := by
    cases h : splitC 32 s with
    | nil => exact absurd h (splitC_ne s)
    | cons w ws => exact ⟨w, ws, rfl⟩
  rw [f10_eq, splitF_eq s hs, Option.bind_some, f10_p2_eq, shapes_eq, Option.bind_some]
  dsimp only
  rw [show mpairs (.int .i64) (.prod .str (.prod (.int .i64) (.int .i64))) true (h25_o_l0 (h25_o_y shpM)) = shp from by rw [h25_o_l0_y]; rfl]
  by_cases hex : ∃ q ∈ shp, q.2.1 = w ∧ ((w :: ws).length : Int) = 1 + q.2.2.1 + q.2.2.2
  · obtain ⟨⟨k, x⟩, hm, hw, hn⟩ := hex
    dsimp only at hw hn
    obtain ⟨ok, h1, h2⟩ := deed_round s hs k x hm w ws hW hn hw
    have hmr : MrOk (f10_p2_st (f10_p2_h_y s (splitC 32 s) 0)) (f10_p2_fin (f10_p2_h_y s (splitC 32 s) 0)) shp (f10_p2_h_y s (splitC 32 s) 0) (.inr (f10_p2_o1_y ok k (foldi (rd x.2.1) 0 ([], []) ws).1 (foldi (rd x.2.1) 0 ([], []) ws).2)) := by
      refine ⟨fun q hq => ?_, .inl ⟨(k, x), hm, h1⟩⟩
      by_cases he : q.2.1 = w ∧ ((w :: ws).length : Int) = 1 + q.2.2.1 + q.2.2.2
      · have := shp_one q hq (k, x) hm (by rw [he.1, hw])
        subst this
        exact .inr h1
      · exact .inl (deed_other s q.1 q.2 hq w ws hW he)
    rw [mr_eq hmr, Option.bind_some]
    dsimp only
    simp only [f10_p2_o1_x3_y, f10_p2_o1_r0_0_y, f10_p2_o1_l0_y, f10_p2_o1_l1_y]
    refine ⟨(k, foldi (rd x.2.1) 0 ([], []) ws), ok, rfl, fun h => h2.1 h, fun d0 hd0 hs0 => ?_⟩
    obtain ⟨x0, hm0, hsp, g1, g2, g4⟩ := split_line hd0
    rw [← hs0, hW] at hsp
    simp only [List.cons.injEq] at hsp
    have := shp_one (k, x) hm (d0.1, x0) hm0 (by dsimp only; rw [hw, hsp.1])
    simp only [Prod.mk.injEq] at this
    obtain ⟨rfl, rfl⟩ := this
    have e : foldi (rd x.2.1) 0 ([], []) ws = (d0.2.1, d0.2.2) := by
      rw [hsp.2, rd_words x.2.1 d0.2.1 d0.2.2 g4 0 ([], []) (by simp [g1])]; simp
    rw [e] at h2 ⊢
    exact ⟨h2.2 ⟨hd0, hs0.symm⟩, rfl⟩
  · have hmr : MrOk (f10_p2_st (f10_p2_h_y s (splitC 32 s) 0)) (f10_p2_fin (f10_p2_h_y s (splitC 32 s) 0)) shp (f10_p2_h_y s (splitC 32 s) 0) (.inl (f10_p2_o0_y 0)) :=
      ⟨fun q hq => .inl (deed_other s q.1 q.2 hq w ws hW fun he => hex ⟨q, hq, he⟩), .inr (by rw [f10_p2_fin_eq])⟩
    rw [mr_eq hmr, Option.bind_some]
    refine ⟨(0, ([], [])), false, rfl, fun h => (by cases h), fun d0 hd0 hs0 => ?_⟩
    exfalso
    obtain ⟨x0, hm0, hsp, g1, g2, g4⟩ := split_line hd0
    rw [← hs0, hW] at hsp
    simp only [List.cons.injEq] at hsp
    refine hex ⟨(d0.1, x0), hm0, hsp.1.symm, ?_⟩
    dsimp only
    rw [hsp.2]
    simp only [List.length_cons, List.length_append, List.length_map]
    omega
end Go.Pe.Tryz
end
section
namespace Go.Pe.Tryz
open Go.Proofs Go.RowKit
open Go.Lib (join itoa joinTail)
set_option maxRecDepth 100000
set_option linter.unusedSimpArgs false
set_option linter.unusedVariables false
theorem part_one {c : UInt8} {a a' b b' : List UInt8} (h : a ++ c :: b = a' ++ c :: b') (ha : c ∉ a) (ha' : c ∉ a') : a = a' ∧ b = b' := by
  have h1 := cut_at (b := b) ha
  rw [h, cut_at ha'] at h1
  simp only [Prod.mk.injEq, and_true] at h1
  exact ⟨h1.1.symm, h1.2.symm⟩
theorem join_no {c : UInt8} (hc : c ≠ 32) : ∀ {ws : List (List UInt8)}, (∀ w ∈ ws, c ∉ w) → c ∉ join ws [32]
  | [], _ => by simp [Lib.join_nil]
  | [w], h => by rw [Lib.join_one]; exact h w (by simp)
  | w :: y :: r, h => by
    rw [join_two]
    simp only [List.mem_append, List.mem_cons, not_or]
    exact ⟨h w (by simp), hc, join_no hc (ws := y :: r) fun x hx => h x (by simp [hx])⟩
theorem line_no {d : Deed} (h : isDeed d = true) : (10 : UInt8) ∉ line d := by
  obtain ⟨x, hx, hm, h1, h2, h3, h4⟩ := isDeed_iff h
  unfold line
  rw [hx]
  exact join_no (by decide) (words_no hm h4 (by decide))
theorem first_no {S : List (List UInt8)} {L : List UInt8} {li cl : Int} (h : begins S L li cl = true) : (10 : UInt8) ∉ first S L li cl := join_no (by decide) (firstW_no h (by decide))
theorem linesOf_cons (d : Deed) (D : List Deed) : linesOf (d :: D) = line d ++ 10 :: linesOf D := by simp [linesOf]
def Seg (s : List UInt8) : Prop := ∀ w ∈ splitC 10 s, w.length ≤ 900000
theorem seg_small {s : List UInt8} (h : s.length ≤ 900000) : Seg s := fun w hw => by have := splitC_le s w hw; omega
theorem seg_at {a b : List UInt8} (ha : (10 : UInt8) ∉ a) : Seg (a ++ 10 :: b) ↔ (a.length ≤ 900000 ∧ Seg b) := by
  unfold Seg
  rw [splitC_at ha]
  simp
theorem seg_none {a : List UInt8} (ha : (10 : UInt8) ∉ a) : Seg a ↔ a.length ≤ 900000 := by
  unfold Seg
  rw [splitC_none ha]
  simp
theorem seg_lines {D : List Deed} (h : ∀ d ∈ D, isDeed d = true) : Seg (linesOf D) := by
  induction D with
  | nil => exact seg_small (by simp [linesOf])
  | cons d D ih =>
    have hd := h d (by simp)
    rw [linesOf_cons, seg_at (line_no hd)]
    exact ⟨by have := line_len hd; omega, ih fun x hx => h x (by simp [hx])⟩
theorem seg_text {S : List (List UInt8)} {L : List UInt8} {li cl : Int} {D : List Deed} (h : right S L li cl D = true) : Seg (textOf S L li cl D) := by
  obtain ⟨h1, h2, h3⟩ := right_iff h
  rw [textOf, seg_at (first_no h1)]
  exact ⟨by have := first_len h1; omega, seg_lines h3⟩
theorem cutF_eq (s : List UInt8) (h : s.length ≤ 8000000) : cutF (s, (([10] : List UInt8), ())) = some ((Lib.cut s [10]).1, (Lib.cut s [10]).2.1, (Lib.cut s [10]).2.2, ()) := by
  show (if s.length < 4294967281 then some ((Lib.cut s [10]).1, (Lib.cut s [10]).2.1, (Lib.cut s [10]).2.2, ()) else none) = _
  rw [if_pos (by omega)]
theorem lines_loop (L : List UInt8) (li cl : Int) (S : List (List UInt8)) : ∀ (m : Nat) (rest : List UInt8) (D : List Deed) (no k : Nat), D.length + m = 201 → m + 1 ≤ k → rest.length ≤ 8000000 → Seg rest → D.length ≤ 200 → no + m ≤ 1000 →
    (∃ no' : Nat, no ≤ no' ∧ iter f4_p1_st k (f4_p1_y rest (no : Int) [] 0 0 L li cl S D) = some (.inr (f4_p1_o1_y 250 (no' : Int) [] 0 0)) ∧ ∀ D', (∀ d ∈ D', isDeed d = true) → D.length + D'.length ≤ 200 → rest ≠ linesOf D') ∨
    (∃ D', iter f4_p1_st k (f4_p1_y rest (no : Int) [] 0 0 L li cl S D) = some (.inl (f4_p1_o0_y [] 0 0 L li cl S (D ++ D'))) ∧ rest = linesOf D' ∧ (∀ d ∈ D', isDeed d = true) ∧ D.length + D'.length ≤ 200) := by
  intro m
  induction m with
  | zero => intro rest D no k h1 h2 h3 h4 h5 h6; omega
  | succ m ih =>
    intro rest D no k h1 h2 h3 h4 h5 h6
    obtain ⟨k, rfl⟩ : ∃ j, k = j + 1 := ⟨k - 1, by omega⟩
    rw [iter, f4_p1_eq]
    by_cases hr : rest = []
    · subst hr
      rw [show (([] : List UInt8) != []) = false from rfl, cond_false]
      exact .inr ⟨[], by rw [List.append_nil], rfl, by simp, by simpa using h5⟩
    · rw [show (rest != []) = true from by simpa using hr, cond_true, cutF_eq rest h3, Option.bind_some]
      by_cases hc : (10 : UInt8) ∈ rest
      · obtain ⟨a, b, rfl, ha⟩ := mem_part hc
        rw [cut_at ha]
        dsimp only
        rw [seg_at ha] at h4
        obtain ⟨d, ok, e1, e2, e3⟩ := deed_eq a h4.1
        rw [e1, Option.bind_some, f4_p0_eq]
        dsimp only
        rw [Bool.not_true, cond_false]
        have hd0 : ∀ (d0 : Deed) (D' : List Deed), isDeed d0 = true → a ++ 10 :: b = linesOf (d0 :: D') → a = line d0 ∧ b = linesOf D' := fun d0 D' hd e => by
          rw [linesOf_cons] at e
          exact part_one e ha (line_no hd)
        cases ok with
        | false =>
          rw [Bool.not_false, cond_true, Option.bind_some]
          simp only [f4_p0_o0_x6_y, f4_p0_o0_x10_y, f4_p0_o0_x57_y, f4_p0_o0_r0_1_y, f4_p0_o0_r0_2_y, f4_p0_o0_r0_3_y, f4_p0_o0_r1_1_y, f4_p0_o0_r1_2_y, f4_p0_o0_r1_3_y, f4_p0_o0_r2_0_y, f4_p0_o0_r2_1_y, f4_p0_o0_r2_2_y, f4_p0_o0_l0_y, f4_p0_o0_l1_y, cond_true]
          refine .inl ⟨no, Nat.le_refl _, rfl, fun D' hD' hlen e => ?_⟩
          cases D' with
          | nil => simp [linesOf] at e
          | cons d0 D' =>
            obtain ⟨q1, _⟩ := hd0 d0 D' (hD' d0 (by simp)) e
            have := (e3 d0 (hD' d0 (by simp)) q1).1
            cases this
        | true =>
          obtain ⟨g1, g2⟩ := e2 rfl
          rw [Bool.not_true, cond_false, Option.bind_some]
          simp only [f4_p0_o0_x6_y, f4_p0_o0_x10_y, f4_p0_o0_x57_y, f4_p0_o0_r0_1_y, f4_p0_o0_r0_2_y, f4_p0_o0_r0_3_y, f4_p0_o0_r1_1_y, f4_p0_o0_r1_2_y, f4_p0_o0_r1_3_y, f4_p0_o0_r2_0_y, f4_p0_o0_r2_1_y, f4_p0_o0_r2_2_y, f4_p0_o0_l0_y, f4_p0_o0_l1_y]
          by_cases h200 : D.length = 200
          · rw [show ((D.length : Int) == 200) = true from by rw [h200]; rfl, cond_true]
            refine .inl ⟨no, Nat.le_refl _, rfl, fun D' hD' hlen e => ?_⟩
            have : D' = [] := List.eq_nil_of_length_eq_zero (by omega)
            subst this
            simp [linesOf] at e
          · rw [show ((D.length : Int) == 200) = false from by simp; omega, cond_false, appOk, if_pos (by simp; omega), inc no (by omega)]
            have := ih b (D ++ [(d.1, (d.2.1, d.2.2))]) (no + 1) k (by simp; omega) (by omega) (by simp at h3; omega) h4.2 (by simp; omega) (by omega)
            rcases this with ⟨no', q1, q2, q3⟩ | ⟨D', q1, q2, q3, q4⟩
            · refine .inl ⟨no', by omega, q2, fun D' hD' hlen e => ?_⟩
              cases D' with
              | nil => simp [linesOf] at e
              | cons d0 D' =>
                obtain ⟨p1, p2⟩ := hd0 d0 D' (hD' d0 (by simp)) e
                exact q3 D' (fun x hx => hD' x (by simp [hx])) (by simp at hlen ⊢; omega) p2
            · refine .inr ⟨d :: D', by rw [q1]; simp, ?_, fun x hx => ?_, by simp at q4 ⊢; omega⟩
              · rw [linesOf_cons, g2, q2]
              · rcases List.mem_cons.1 hx with rfl | hx
                · exact g1
                · exact q3 x hx
      · rw [cut_none hc]
        dsimp only
        rw [seg_none hc] at h4
        obtain ⟨d, ok, e1, e2, e3⟩ := deed_eq rest h4
        rw [e1, Option.bind_some, f4_p0_eq]
        dsimp only
        rw [Bool.not_false, cond_true, Option.bind_some]
        simp only [f4_p0_o0_x6_y, f4_p0_o0_x10_y, f4_p0_o0_x57_y, f4_p0_o0_r0_1_y, f4_p0_o0_r0_2_y, f4_p0_o0_r0_3_y, f4_p0_o0_r1_1_y, f4_p0_o0_r1_2_y, f4_p0_o0_r1_3_y, f4_p0_o0_r2_0_y, f4_p0_o0_r2_1_y, f4_p0_o0_r2_2_y, f4_p0_o0_l0_y, f4_p0_o0_l1_y, cond_true]
        refine .inl ⟨no, Nat.le_refl _, rfl, fun D' hD' hlen e => ?_⟩
        cases D' with
        | nil => exact hr (by simpa [linesOf] using e)
        | cons d0 D' => exact hc (by rw [e, linesOf_cons]; simp)
theorem parse_eq (s : List UInt8) (hl : s.length ≤ 8000000) (hS : Seg s) :
    (∃ no : Nat, 1 ≤ no ∧ f4_F (s, ()) = some (([], ([], (0, (0, ([], ()))))), (250, ((no : Int), ()))) ∧ ((∀ S L li cl rest, begins S L li cl = true → s ≠ first S L li cl ++ 10 :: rest) → no = 1) ∧ ∀ S L li cl D, right S L li cl D = true → s ≠ textOf S L li cl D) ∨
    (∃ S L li cl D, f4_F (s, ()) = some ((S, (L, (li, (cl, (D, ()))))), (0, (0, ()))) ∧ right S L li cl D = true ∧ s = textOf S L li cl D) := by
  rw [f4_eq, cutF_eq s hl, Option.bind_some]
  by_cases hc : (10 : UInt8) ∈ s
  · obtain ⟨a, b, rfl, ha⟩ := mem_part hc
    rw [cut_at ha]
    dsimp only
    rw [seg_at ha] at hS
    obtain ⟨S, L, li, cl, ok, e1, e2, e3⟩ := begin_eq a hS.1
    rw [e1, Option.bind_some, f4_p2_eq, Bool.not_true, cond_false, Option.bind_some]
    simp only [h9_o_x0_1_y, h9_o_x0_2_y, h9_o_x0_3_y, h9_o_x1_y, h9_o_l0_y, f4_p2_o0_x6_y, f4_p2_o0_x29_y, f4_p2_o0_r0_1_y, f4_p2_o0_r0_2_y, f4_p2_o0_r0_3_y, f4_p2_o0_r1_1_y, f4_p2_o0_r1_2_y, f4_p2_o0_r1_3_y, f4_p2_o0_l0_y]
    cases ok with
    | false =>
      rw [Bool.not_false, cond_true]
      refine .inl ⟨1, Nat.le_refl _, rfl, fun _ => rfl, fun S0 L0 li0 cl0 D0 h0 e => ?_⟩
      obtain ⟨g1, g2, g3⟩ := right_iff h0
      obtain ⟨p1, p2⟩ := part_one e ha (first_no g1)
      have := (e3 S0 L0 li0 cl0 g1 p1).1
      cases this
    | true =>
      rw [Bool.not_true, cond_false]
      obtain ⟨g1, g2⟩ := e2 rfl
      have := lines_loop L li cl S 201 b [] 2 (fuelOf f4_p1_sh (f4_p1_y b ((2 : Nat) : Int) [] 0 0 L li cl S [])) (by simp) (by rw [fuel_def]; omega) (by simp at hl; omega) hS.2 (by simp) (by omega)
      rcases this with ⟨no', q1, q2, q3⟩ | ⟨D', q1, q2, q3, q4⟩
      · have e0 : go f4_p1_st (f4_p1_y b (2 : Int) ([] : List UInt8) (0 : Int) (0 : Int) L li cl S ([] : List Deed)) = _ := q2
        rw [e0, Option.bind_some]
        dsimp only
        simp only [f4_p1_o1_x3_y, f4_p1_o1_x4_y, f4_p1_o1_r0_1_y, f4_p1_o1_r0_2_y, f4_p1_o1_r0_3_y]
        refine .inl ⟨no', by omega, rfl, fun h => absurd (by rw [g2]) (h S L li cl b g1), fun S0 L0 li0 cl0 D0 h0 e => ?_⟩
        obtain ⟨k1, k2, k3⟩ := right_iff h0
        obtain ⟨p1, p2⟩ := part_one e ha (first_no k1)
        exact q3 D0 k3 (by simpa using k2) p2
      · have e0 : go f4_p1_st (f4_p1_y b (2 : Int) ([] : List UInt8) (0 : Int) (0 : Int) L li cl S ([] : List Deed)) = _ := q1
        rw [e0, Option.bind_some]
        dsimp only
        simp only [f4_p1_o0_r0_1_y, f4_p1_o0_r0_2_y, f4_p1_o0_r0_3_y, f4_p1_o0_r1_1_y, f4_p1_o0_r1_2_y, f4_p1_o0_r1_3_y, f4_p1_o0_l0_y, f4_p1_o0_l1_y, List.nil_append]
        refine .inr ⟨S, L, li, cl, D', rfl, ?_, by rw [textOf, g2, q2]⟩
        unfold right
        rw [g1]
        simp only [Bool.true_and, Bool.and_eq_true, decide_eq_true_eq, List.all_eq_true]
        exact ⟨by simp at q4; omega, q3⟩
  · rw [cut_none hc]
    dsimp only
    rw [seg_none hc] at hS
    obtain ⟨S, L, li, cl, ok, e1, e2, e3⟩ := begin_eq s hS
    rw [e1, Option.bind_some, f4_p2_eq, Bool.not_false, cond_true, Option.bind_some]
    simp only [h9_o_x0_1_y, h9_o_x0_2_y, h9_o_x0_3_y, h9_o_x1_y, h9_o_l0_y, f4_p2_o0_x6_y, f4_p2_o0_x29_y, f4_p2_o0_r0_1_y, f4_p2_o0_r0_2_y, f4_p2_o0_r0_3_y, f4_p2_o0_r1_1_y, f4_p2_o0_r1_2_y, f4_p2_o0_r1_3_y, f4_p2_o0_l0_y, cond_true]
    refine .inl ⟨1, Nat.le_refl _, rfl, fun _ => rfl, fun S0 L0 li0 cl0 D0 h0 e => hc (by rw [e, textOf]; simp)⟩
theorem first_inj {S S' : List (List UInt8)} {L L' : List UInt8} {li cl li' cl' : Int} (h : begins S L li cl = true) (h' : begins S' L' li' cl' = true) (e : first S L li cl = first S' L' li' cl') : S = S' ∧ L = L' ∧ li = li' ∧ cl = cl' := by
  obtain ⟨S0, L0, li0, cl0, ok, _, _, h3⟩ := begin_eq (first S L li cl) (by have := first_len h; omega)
  obtain ⟨_, a1, a2, a3, a4⟩ := h3 S L li cl h rfl
  obtain ⟨_, b1, b2, b3, b4⟩ := h3 S' L' li' cl' h' e
  exact ⟨a1.symm.trans b1, a2.symm.trans b2, a3.symm.trans b3, a4.symm.trans b4⟩
theorem lines_inj : ∀ {D D' : List Deed}, (∀ d ∈ D, isDeed d = true) → (∀ d ∈ D', isDeed d = true) → linesOf D = linesOf D' → D = D'
  | [], [], _, _, _ => rfl
  | [], d :: D', _, _, e => by rw [linesOf_cons] at e; simp [linesOf] at e
  | d :: D, [], _, _, e => by rw [linesOf_cons] at e; simp [linesOf] at e
  | d :: D, d' :: D', h, h', e => by
    rw [linesOf_cons, linesOf_cons] at e
    have hd := h d (by simp)
    have hd' := h' d' (by simp)
    obtain ⟨e1, e2⟩ := part_one e (line_no hd) (line_no hd')
    obtain ⟨d0, ok, _, _, h3⟩ := deed_eq (line d) (by have := line_len hd; omega)
    have q1 := (h3 d hd rfl).2
    have q2 := (h3 d' hd' e1).2
    rw [← q1, ← q2, lines_inj (fun x hx => h x (by simp [hx])) (fun x hx => h' x (by simp [hx])) e2]
theorem text_inj {S S' : List (List UInt8)} {L L' : List UInt8} {li cl li' cl' : Int} {D D' : List Deed} (h : right S L li cl D = true) (h' : right S' L' li' cl' D' = true) (e : textOf S L li cl D = textOf S' L' li' cl' D') : S = S' ∧ L = L' ∧ li = li' ∧ cl = cl' ∧ D = D' := by
  obtain ⟨h1, h2, h3⟩ := right_iff h
  obtain ⟨k1, k2, k3⟩ := right_iff h'
  obtain ⟨e1, e2⟩ := part_one e (first_no h1) (first_no k1)
  obtain ⟨a1, a2, a3, a4⟩ := first_inj h1 k1 e1
  exact ⟨a1, a2, a3, a4, lines_inj h3 k3 e2⟩
theorem parse_text {S : List (List UInt8)} {L : List UInt8} {li cl : Int} {D : List Deed} (h : right S L li cl D = true) : f4_F (textOf S L li cl D, ()) = some ((S, (L, (li, (cl, (D, ()))))), (0, (0, ()))) := by
  rcases parse_eq (textOf S L li cl D) (text_len h) (seg_text h) with ⟨no, _, _, _, h4⟩ | ⟨S', L', li', cl', D', h1, h2, h3⟩
  · exact absurd rfl (h4 S L li cl D h)
  · obtain ⟨rfl, rfl, rfl, rfl, rfl⟩ := text_inj h h2 h3
    exact h1
end Go.Pe.Tryz
end
section
namespace Go.Pe.Tryz
open Go.Proofs Go.RowKit
open Go.Lib (join itoa joinTail)
set_option maxRecDepth 100000
set_option linter.unusedSimpArgs false
set_option linter.unusedVariables false
def seedOf (n : UInt8) : List UInt8 := n :: [48, 49, 50, 51, 52, 53, 54, 55, 56, 57, 97, 98, 99, 100, 101, 102, 48, 49, 50, 51, 52, 53, 54, 55, 56, 57, 97, 98, 99, 100, 101]
theorem seed_eq (n : UInt8) (h : IntKind.u8.wrap (n.toNat : Int) = (n.toNat : Int)) : f35_F ((n.toNat : Int), ()) = some (seedOf n, ()) := by
  rw [f35_eq, h]
  rw [if_pos (by simp [strOf])]
  simp [strOf, seedOf]
def planS : List (List UInt8) := [seedOf 1, seedOf 2, seedOf 3, seedOf 4]
theorem plan_right : right planS (seedOf 5) 30 2 [] = true := by decide
theorem alive_eq : f6_F () = some (true, ()) := by
  have e1 : f35_F ((1 : Int), ()) = some (seedOf 1, ()) := seed_eq 1 (by decide)
  have e2 : f35_F ((2 : Int), ()) = some (seedOf 2, ()) := seed_eq 2 (by decide)
  have e3 : f35_F ((3 : Int), ()) = some (seedOf 3, ()) := seed_eq 3 (by decide)
  have e4 : f35_F ((4 : Int), ()) = some (seedOf 4, ()) := seed_eq 4 (by decide)
  have e5 : f35_F ((5 : Int), ()) = some (seedOf 5, ()) := seed_eq 5 (by decide)
  rw [f6_eq, f16_eq, f35_Le, e1, Option.bind_some, e2, Option.bind_some, e3, Option.bind_some, e4, Option.bind_some, e5, Option.bind_some, Option.bind_some, f15_Le]
  have hp := print_eq planS (seedOf 5) 30 2 [] (by decide) ⟨by decide, by simp⟩
  rw [if_pos plan_right] at hp
  rw [show f15_F (([seedOf 1, seedOf 2, seedOf 3, seedOf 4], (seedOf 5, ((30 : Int), ((2 : Int), (([] : List Deed), ()))))), ()) = _ from hp, Option.bind_some, f4_Le]
  rw [show f4_F (textOf planS (seedOf 5) 30 2 [], ()) = _ from parse_text plan_right, Option.bind_some]
  dsimp only
  rw [show ((0 : Int) == 0) = true from rfl, cond_true, cond_true, show ((planS.length : Int) == 4) = true from rfl, cond_true, show ((2 : Int) == 2) = true from rfl, cond_true, f17_Le, rightP_eq planS (seedOf 5) 30 2 [] (by decide) ⟨by decide, by simp⟩, Option.bind_some, plan_right]
theorem right_small {S : List (List UInt8)} {L : List UInt8} {li cl : Int} {D : List Deed} (h : right S L li cl D = true) : S.length ≤ 900000 ∧ Small D := by
  obtain ⟨h1, h2, h3⟩ := right_iff h
  refine ⟨by have := (begins_iff h1).1; omega, by omega, fun d hd => ?_⟩
  obtain ⟨x, hx, hm, g1, g2, _⟩ := isDeed_iff (h3 d hd)
  have := shp_len hm
  exact ⟨by omega, by omega⟩
end Go.Pe.Tryz
end
section
namespace Go.Pe.Tryz
open Go.Proofs Go.RowKit
open Go.Lib (join itoa joinTail)
set_option maxRecDepth 100000
set_option linter.unusedSimpArgs false
set_option linter.unusedVariables false
theorem counts {k : Int} {x : Shp} (h : (k, x) ∈ shp) : f33_F (k, ()) = some (x.2.1, ()) ∧ f34_F (k, ()) = some (x.2.2, ()) ∧ f32_F (k, ()) = some (x.1, ()) := by
  simp only [shp, List.mem_cons, Prod.mk.injEq, List.not_mem_nil, or_false] at h
  rw [f33_eq, f34_eq, f32_eq]
  rcases h with ⟨rfl, rfl⟩ | ⟨rfl, rfl⟩ | ⟨rfl, rfl⟩ | ⟨rfl, rfl⟩ | ⟨rfl, rfl⟩ | ⟨rfl, rfl⟩ | ⟨rfl, rfl⟩ | ⟨rfl, rfl⟩ <;> exact ⟨rfl, rfl, rfl⟩
theorem badC_byte (c : UInt8) : badC (c.toNat : Int) = !(c == 48 || c == 49) := by
  have : ∀ n : Fin 256, badC (n.val : Int) = !(UInt8.ofNat n.val == 48 || UInt8.ofNat n.val == 49) := by decide +kernel
  simpa using this ⟨c.toNat, c.toNat_lt⟩
theorem find_all {α : Type} (l : List α) (p q : α → Bool) (h : ∀ x, p x = !q x) : l.findIdx? p = none ↔ l.all q = true := by
  rw [List.findIdx?_eq_none_iff]
  constructor
  · intro hn; rw [List.all_eq_true]; intro x hx; have := hn x hx; rw [h] at this; simpa using this
  · intro ha x hx; rw [List.all_eq_true] at ha; rw [h, ha x hx]; rfl
theorem rbits (s : List UInt8) (hs : s.length ≤ 900000) : go f14_p2_st (f14_p2_y s 0) = some (if s.all (fun c => c == 48 || c == 49) = true then .inl f14_p2_o0_y else .inr (f14_p2_o1_y false)) := by
  have hl := go_scan (step := f14_p2_st) (l := s) (fun i => f14_p2_y s (i : Int)) (fun c => badC (c.toNat : Int)) (fun k => some (.inr (f14_p2_o1_y false))) (some (.inl f14_p2_o0_y))
    (fun i hi rec => by
      rw [f14_p2_eq, lt_true hi, cond_true, f14_p0_eq, nth_at hi, Option.bind_some]
      unfold badC
      cases h1 : ((s[i].toNat : Int) != 48) with
      | false =>
        rw [cond_false, Option.bind_some]
        simp only [f14_p0_o0_x7_y, f14_p0_o0_x8_y, f14_p0_o0_x104_y, cond_false, Bool.false_and]
        rw [inc i (by omega)]
      | true =>
        rw [cond_true, Option.bind_some, Option.bind_some]
        simp only [f14_p0_o0_x7_y, f14_p0_o0_x8_y, f14_p0_o0_x104_y, Bool.true_and]
        rw [inc i (by omega)]) (fun rec => by rw [f14_p2_eq, lt_false, cond_false]) (by rw [fuel_def]; omega)
  rw [show ((0 : Nat) : Int) = 0 from rfl] at hl
  rw [hl]
  have hf := find_all s (fun c => badC (c.toNat : Int)) (fun c => c == 48 || c == 49) badC_byte
  cases h : s.findIdx? (fun c => badC (c.toNat : Int)) with
  | none => rw [if_pos (hf.1 h)]
  | some k =>
    rw [if_neg (fun ha => by rw [hf.2 ha] at h; cases h)]
theorem rloopT (k : Int) (ts : List (List UInt8)) (ns : List Int) (h1 : ts.length ≤ 900000) : go f14_p6_st (f14_p6_y ts (ts.length : Int) 0 k ts ns) = some (if ts.all (fun s => decide (s.length ≤ 3000)) = true then .inl (f14_p6_o0_y k ts ns) else .inr (f14_p6_o1_y false)) := by
  have hl := go_scan (step := f14_p6_st) (l := ts) (fun i => f14_p6_y ts (ts.length : Int) (i : Int) k ts ns) (fun s => decide ((s.length : Int) > 3000)) (fun _ => some (.inr (f14_p6_o1_y false))) (some (.inl (f14_p6_o0_y k ts ns)))
    (fun i hi rec => by rw [f14_p6_eq, lt_true hi, cond_true, nth_at hi, Option.bind_some, inc i (by omega)]) (fun rec => by rw [f14_p6_eq, lt_false, cond_false]) (by rw [fuel_def]; omega)
  rw [show ((0 : Nat) : Int) = 0 from rfl] at hl
  rw [hl]
  have hf := find_all ts (fun s => decide ((s.length : Int) > 3000)) (fun s => decide (s.length ≤ 3000)) (fun s => by by_cases h : s.length ≤ 3000 <;> simp [h] <;> omega)
  cases ha : ts.findIdx? (fun s => decide ((s.length : Int) > 3000)) with
  | none => rw [if_pos (hf.1 ha)]
  | some j => rw [if_neg (fun hh => by rw [hf.2 hh] at ha; cases ha)]
theorem rbad (n : Int) (x47 : List Int) (x48 x49 r0 : Int) (r1 : List (List UInt8)) (r2 : List Int) : f14_p1_F (f14_p1_y n x47 x48 x49 r0 r1 r2) = some (f14_p1_o0_y x47 x48 x49 (badN n) r0 r1 r2) := by
  rw [f14_p1_eq]
  unfold badN
  by_cases hneg : n < 0
  · rw [show decide (n < 0) = true from by simpa using hneg, cond_true, show decide (0 ≤ n ∧ n ≤ 1099511627776) = false from by simp; omega, Bool.not_false]
  · rw [show decide (n < 0) = false from by simpa using hneg, cond_false]
    by_cases hbig : n > 1099511627776
    · rw [show decide (n > 1099511627776) = true from by simpa using hbig, show decide (0 ≤ n ∧ n ≤ 1099511627776) = false from by simp; omega, Bool.not_false]
    · rw [show decide (n > 1099511627776) = false from by simpa using hbig, show decide (0 ≤ n ∧ n ≤ 1099511627776) = true from by simp; omega, Bool.not_true]
theorem rloopN (k : Int) (ts : List (List UInt8)) (ns : List Int) (h2 : ns.length ≤ 900000) : go f14_p3_st (f14_p3_y ns (ns.length : Int) 0 k ts ns) = some (if ns.all (fun n => decide (0 ≤ n ∧ n ≤ 1099511627776)) = true then .inl (f14_p3_o0_y k ts ns) else .inr (f14_p3_o1_y false)) := by
  have hl2 := go_scan (step := f14_p3_st) (l := ns) (fun i => f14_p3_y ns (ns.length : Int) (i : Int) k ts ns) badN (fun _ => some (.inr (f14_p3_o1_y false))) (some (.inl (f14_p3_o0_y k ts ns)))
    (fun i hi rec => by
      rw [f14_p3_eq, lt_true hi, cond_true, nth_at hi, Option.bind_some, rbad, Option.bind_some]
      simp only [f14_p1_o0_x47_y, f14_p1_o0_x48_y, f14_p1_o0_x49_y, f14_p1_o0_x58_y, f14_p1_o0_r0_0_y, f14_p1_o0_r0_1_y, f14_p1_o0_r0_2_y]
      rw [inc i (by omega)]) (fun rec => by rw [f14_p3_eq, lt_false, cond_false]) (by rw [fuel_def]; omega)
  rw [show ((0 : Nat) : Int) = 0 from rfl] at hl2
  rw [hl2]
  have hf2 := find_all ns badN (fun n => decide (0 ≤ n ∧ n ≤ 1099511627776)) (fun n => rfl)
  cases hb : ns.findIdx? badN with
  | none => rw [if_pos (hf2.1 hb)]
  | some j => rw [if_neg (fun hh => by rw [hf2.2 hh] at hb; cases hb)]
theorem rspec (k : Int) (ts : List (List UInt8)) (ns : List Int) (q2 : k = 2 → ns.length = 2) (q8 : k = 8 → ns.length = 1) (q6 : k = 6 → ts.length = 1) (hall : ∀ s ∈ ts, s.length ≤ 3000) :
    ((f14_p4_F (f14_p4_y k ts ns)).bind fun o200 => bif (f14_p4_o0_x81 o200) then (some (false, ())) else ((f14_p5_F (f14_p5_y (f14_p4_o0_r0_0 o200) (f14_p4_o0_r0_1 o200) (f14_p4_o0_r0_2 o200))).bind fun o201 => (match o201 with | .inl z202 => some ((f14_p5_o0_x2 z202), ()) | .inr o203 => some (true, ())))) = some (special (k, (ts, ns)), ()) := by
  rw [f14_p4_eq]
  unfold special
  dsimp only
  by_cases k2 : k = 2
  · subst k2
    have := q2 rfl
    match ns, this with
    | [a, b], _ =>
      rw [show ((2 : Int) == 2) = true from rfl, cond_true, show nth [a, b] (1 : Int) = some b from rfl, Option.bind_some, if_pos rfl]
      by_cases hb1 : b > 1
      · rw [show decide (b > 1) = true from by simpa using hb1, cond_true, Option.bind_some]
        simp only [f14_p4_o0_x81_y, f14_p4_o0_r0_0_y, f14_p4_o0_r0_1_y, f14_p4_o0_r0_2_y, cond_true]
        rw [show decide (([a, b] : List Int).getD 1 0 ≤ 1) = false from by simp; omega]
      · rw [show decide (b > 1) = false from by simpa using hb1, cond_false, show ((2 : Int) == 8) = false from rfl, cond_false, Option.bind_some]
        simp only [f14_p4_o0_x81_y, f14_p4_o0_r0_0_y, f14_p4_o0_r0_1_y, f14_p4_o0_r0_2_y, cond_false]
        rw [f14_p5_eq, show ((2 : Int) == 6) = false from rfl, cond_false, Option.bind_some]
        rw [show decide (([a, b] : List Int).getD 1 0 ≤ 1) = true from by simp; omega]
  · rw [if_neg k2, show (k == 2) = false from by simpa using k2, cond_false]
    by_cases k8 : k = 8
    · subst k8
      have := q8 rfl
      match ns, this with
      | [a], _ =>
        rw [show ((8 : Int) == 8) = true from rfl, cond_true, show nth [a] (0 : Int) = some a from rfl, Option.bind_some, Option.bind_some, if_pos rfl]
        simp only [f14_p4_o0_x81_y, f14_p4_o0_r0_0_y, f14_p4_o0_r0_1_y, f14_p4_o0_r0_2_y]
        by_cases hb1 : a > 1
        · rw [show decide (a > 1) = true from by simpa using hb1, cond_true]
          rw [show decide (([a] : List Int).getD 0 0 ≤ 1) = false from by simp; omega]
        · rw [show decide (a > 1) = false from by simpa using hb1, cond_false]
          rw [f14_p5_eq, show ((8 : Int) == 6) = false from rfl, cond_false, Option.bind_some]
          rw [show decide (([a] : List Int).getD 0 0 ≤ 1) = true from by simp; omega]
    · rw [if_neg k8, show (k == 8) = false from by simpa using k8, cond_false, Option.bind_some]
      simp only [f14_p4_o0_x81_y, f14_p4_o0_r0_0_y, f14_p4_o0_r0_1_y, f14_p4_o0_r0_2_y, cond_false]
      rw [f14_p5_eq]
      by_cases k6 : k = 6
      · subst k6
        have := q6 rfl
        match ts, this, hall with
        | [s], _, hall =>
          have hs : s.length ≤ 3000 := hall s (by simp)
          rw [show ((6 : Int) == 6) = true from rfl, cond_true, show nth [s] (0 : Int) = some s from rfl, Option.bind_some, rbits s (by omega), Option.bind_some, if_pos rfl]
          rw [show ([s] : List (List UInt8)).getD 0 [] = s from rfl]
          cases s.all (fun c => c == 48 || c == 49) with
          | true => rw [if_pos rfl]; rfl
          | false =>
            rw [if_neg (by decide)]
            dsimp only
            rw [Option.bind_some]
            dsimp only
            simp only [f14_p2_o1_x2_y, f14_p5_o0_x2_y]
      · rw [if_neg k6, show (k == 6) = false from by simpa using k6, cond_false, Option.bind_some]
theorem risdeed (k : Int) (ts : List (List UInt8)) (ns : List Int) (h1 : ts.length ≤ 900000) (h2 : ns.length ≤ 900000) : f14_F ((k, (ts, (ns, ()))), ()) = some (isDeed (k, (ts, ns)), ()) := by
  rw [f14_eq, f14_p7_eq]
  rcases look_cases k with ⟨hn, hk⟩ | ⟨hk1, hk2, x, hx, hm⟩
  · have hI : isDeed (k, (ts, ns)) = false := by simp [isDeed, hn]
    rw [hI]
    by_cases hk0 : k < 1
    · rw [show decide (k < 1) = true from by simpa using hk0, cond_true, Option.bind_some]
      simp only [f14_p7_o0_x34_y, f14_p7_o0_r0_0_y, f14_p7_o0_r0_1_y, f14_p7_o0_r0_2_y, cond_true]
    · rw [show decide (k < 1) = false from by simpa using hk0, cond_false, show decide (k > 8) = true from by simp; omega, cond_true, Option.bind_some]
      simp only [f14_p7_o0_x34_y, f14_p7_o0_r0_0_y, f14_p7_o0_r0_1_y, f14_p7_o0_r0_2_y, cond_true]
  · obtain ⟨q2, q8, q6, _⟩ := shp_len hm
    obtain ⟨c1, c2, _⟩ := counts hm
    have hI : isDeed (k, (ts, ns)) = ((ts.length : Int) == x.2.1 && ((ns.length : Int) == x.2.2 && (ts.all (fun s => decide (s.length ≤ 3000)) && (ns.all (fun n => decide (0 ≤ n ∧ n ≤ 1099511627776)) && special (k, (ts, ns)))))) := by simp [isDeed, hx]
    rw [hI]
    rw [show decide (k < 1) = false from by simp; omega, cond_false, show decide (k > 8) = false from by simp; omega, cond_false, c1, Option.bind_some]
    dsimp only
    by_cases e1 : (ts.length : Int) = x.2.1
    · rw [show ((ts.length : Int) != x.2.1) = false from by simpa using e1, cond_false, c2, Option.bind_some, Option.bind_some]
      simp only [f14_p7_o0_x34_y, f14_p7_o0_r0_0_y, f14_p7_o0_r0_1_y, f14_p7_o0_r0_2_y]
      rw [show ((ts.length : Int) == x.2.1) = true from by simpa using e1, Bool.true_and]
      by_cases e2 : (ns.length : Int) = x.2.2
      · rw [show ((ns.length : Int) != x.2.2) = false from by simpa using e2, cond_false]
        rw [show ((ns.length : Int) == x.2.2) = true from by simpa using e2, Bool.true_and, rloopT k ts ns h1, Option.bind_some]
        cases ha : ts.all (fun s => decide (s.length ≤ 3000)) with
        | false =>
          rw [if_neg (by decide), Bool.false_and]
          dsimp only
          simp only [f14_p6_o1_x2_y]
        | true =>
          rw [if_pos rfl, Bool.true_and]
          have hall : ∀ s ∈ ts, s.length ≤ 3000 := by simpa [List.all_eq_true] using ha
          dsimp only
          simp only [f14_p6_o0_r0_0_y, f14_p6_o0_r0_1_y, f14_p6_o0_r0_2_y]
          rw [rloopN k ts ns h2, Option.bind_some]
          cases hb : ns.all (fun n => decide (0 ≤ n ∧ n ≤ 1099511627776)) with
          | false =>
            rw [if_neg (by decide), Bool.false_and]
            dsimp only
            simp only [f14_p3_o1_x2_y]
          | true =>
            rw [if_pos rfl, Bool.true_and]
            dsimp only
            simp only [f14_p3_o0_r0_0_y, f14_p3_o0_r0_1_y, f14_p3_o0_r0_2_y]
            exact rspec k ts ns (fun h => by have := q2 h; omega) (fun h => by have := q8 h; omega) (fun h => by have := q6 h; omega) hall
      · rw [show ((ns.length : Int) != x.2.2) = true from by simpa using e2, cond_true]
        rw [show ((ns.length : Int) == x.2.2) = false from by simpa using e2]; rfl
    · rw [show ((ts.length : Int) != x.2.1) = true from by simpa using e1, cond_true, Option.bind_some]
      simp only [f14_p7_o0_x34_y, f14_p7_o0_r0_0_y, f14_p7_o0_r0_1_y, f14_p7_o0_r0_2_y, cond_true]
      rw [show ((ts.length : Int) == x.2.1) = false from by simpa using e1]; rfl
end Go.Pe.Tryz
end
section
namespace Go.Pe.Tryz
open Go.Proofs Go.RowKit
open Go.Lib (join itoa joinTail decDigits)
set_option maxRecDepth 100000
set_option linter.unusedSimpArgs false
set_option linter.unusedVariables false
def dgF (x : Int) : Int := if x ≥ 48 ∧ x ≤ 57 then IntKind.i64.wrap (IntKind.u8.wrap (x - 48)) else if x ≥ 97 ∧ x ≤ 102 then IntKind.i64.wrap (IntKind.i64.wrap (IntKind.u8.wrap (x - 97)) + 10) else -1
theorem dgF_eq (c : UInt8) : dgF (c.toNat : Int) = Lib.indexByte D16 c := by
  have h : ∀ n : Fin 256, dgF (n.val : Int) = Lib.indexByte D16 (UInt8.ofNat n.val) := by decide +kernel
  simpa using h ⟨c.toNat, c.toNat_lt⟩
theorem digit_eq (c : UInt8) : f53_F ((c.toNat : Int), ()) = some (Lib.indexByte D16 c, ()) := by
  rw [← dgF_eq]
  generalize (c.toNat : Int) = x
  rw [f53_eq, f53_p1_eq, dgF]
  by_cases h1 : x ≥ 48
  · rw [show decide (x ≥ 48) = true from by simpa using h1, cond_true, Option.bind_some]
    simp only [f53_p1_o0_x0_y, f53_p1_o0_x8_y]
    by_cases h2 : x ≤ 57
    · rw [show decide (x ≤ 57) = true from by simpa using h2, cond_true, if_pos ⟨h1, h2⟩]
    · rw [show decide (x ≤ 57) = false from by simpa using h2, cond_false, if_neg (fun h => h2 h.2), f53_p0_eq]
      by_cases h3 : x ≥ 97
      · rw [show decide (x ≥ 97) = true from by simpa using h3, cond_true, Option.bind_some]
        simp only [f53_p0_o0_x0_y, f53_p0_o0_x17_y]
        by_cases h4 : x ≤ 102
        · rw [show decide (x ≤ 102) = true from by simpa using h4, cond_true, if_pos ⟨h3, h4⟩]
        · rw [show decide (x ≤ 102) = false from by simpa using h4, cond_false, if_neg (fun h => h4 h.2)]
      · rw [show decide (x ≥ 97) = false from by simpa using h3, cond_false, Option.bind_some]
        simp only [f53_p0_o0_x0_y, f53_p0_o0_x17_y, cond_false]
        rw [if_neg (fun h => h3 h.1)]
  · rw [show decide (x ≥ 48) = false from by simpa using h1, cond_false, Option.bind_some]
    simp only [f53_p1_o0_x0_y, f53_p1_o0_x8_y, cond_false]
    rw [if_neg (fun h => h1 h.1), f53_p0_eq, show decide (x ≥ 97) = false from by simp; omega, cond_false, Option.bind_some]
    simp only [f53_p0_o0_x0_y, f53_p0_o0_x17_y, cond_false]
    rw [if_neg (by omega)]
theorem nth_pre {α : Type} (p : List α) (a : α) (r : List α) : nth (p ++ a :: r) (p.length : Int) = some a := by
  unfold nth; rw [if_pos (by omega), Int.toNat_natCast, List.getElem?_append_right (Nat.le_refl _)]; simp
theorem nth_pre1 {α : Type} (p : List α) (a b : α) (r : List α) : nth (p ++ a :: b :: r) ((p.length + 1 : Nat) : Int) = some b := by
  unfold nth; rw [if_pos (by omega), Int.toNat_natCast, List.getElem?_append_right (by omega)]; simp
theorem byte2 (a b : Nat) (ha : a < 16) (hb : b < 16) : IntKind.u8.wrap (IntKind.i64.wrap (IntKind.i64.wrap (16 * (a : Int)) + (b : Int))) = ((UInt8.ofNat (a * 16 + b)).toNat : Int) := by
  have h : ∀ (a b : Fin 16), IntKind.u8.wrap (IntKind.i64.wrap (IntKind.i64.wrap (16 * (a.val : Int)) + (b.val : Int))) = ((UInt8.ofNat (a.val * 16 + b.val)).toNat : Int) := by decide +kernel
  exact h ⟨a, ha⟩ ⟨b, hb⟩
theorem runhex_loop : ∀ (n : Nat) (x pre : List UInt8) (l : List Int) (k : Nat), x.length ≤ n → x.length + 1 ≤ k → l.length + x.length ≤ 4294967296 → (pre ++ x).length ≤ 900000 →
    (unhex x = none → (iter f30_p1_st k (f30_p1_y (pre ++ x) (pre.length : Int) l) = some (.inr (f30_p1_o1_y [] false)) ∨ ∃ l', iter f30_p1_st k (f30_p1_y (pre ++ x) (pre.length : Int) l) = some (.inl (f30_p1_o0_y (pre ++ x) l')) ∧ x.length % 2 = 1)) ∧
    (∀ t, unhex x = some t → iter f30_p1_st k (f30_p1_y (pre ++ x) (pre.length : Int) l) = some (.inl (f30_p1_o0_y (pre ++ x) (l ++ bytesOf t))) ∧ x.length % 2 = 0) := by
  intro n
  induction n with
  | zero =>
    intro x pre l k hx hk hl hp
    obtain rfl := List.eq_nil_of_length_eq_zero (by omega : x.length = 0)
    obtain ⟨k, rfl⟩ : ∃ j, k = j + 1 := ⟨k - 1, by simp at hk; omega⟩
    refine ⟨fun h => by simp [unhex] at h, fun t ht => ?_⟩
    simp only [unhex, Option.some.injEq] at ht; subst ht
    rw [List.append_nil] at hp ⊢
    rw [iter, f30_p1_eq, inc _ (by omega), show decide (((pre.length + 1 : Nat) : Int) < (pre.length : Int)) = false from by simp; omega, cond_false]
    simp [bytesOf]
  | succ n ih =>
    intro x pre l k hx hk hl hp
    obtain ⟨k, rfl⟩ : ∃ j, k = j + 1 := ⟨k - 1, by omega⟩
    match x, hx, hk, hl, hp with
    | [], hx, hk, hl, hp =>
      refine ⟨fun h => by simp [unhex] at h, fun t ht => ?_⟩
      simp only [unhex, Option.some.injEq] at ht; subst ht
      rw [List.append_nil] at hp ⊢
      rw [iter, f30_p1_eq, inc _ (by omega), show decide (((pre.length + 1 : Nat) : Int) < (pre.length : Int)) = false from by simp; omega, cond_false]
      simp [bytesOf]
    | [c], hx, hk, hl, hp =>
      have hp' : pre.length + 1 ≤ 900000 := by simpa using hp
      refine ⟨fun _ => .inr ⟨l, ?_, rfl⟩, fun t ht => by simp [unhex] at ht⟩
      rw [iter, f30_p1_eq, inc _ (by omega), show decide (((pre.length + 1 : Nat) : Int) < ((pre ++ [c]).length : Int)) = false from by simp, cond_false]
    | a :: b :: x, hx, hk, hl, hp =>
      have hp' : pre.length + (x.length + 2) ≤ 900000 := by simpa using hp
      have hge : decide (((pre.length + 1 : Nat) : Int) < ((pre ++ a :: b :: x).length : Int)) = true := by simp; omega
      rw [iter, f30_p1_eq, inc _ (by omega), hge, cond_true, f30_p0_eq, nth_pre, Option.bind_some, digit_eq, Option.bind_some]
      have hal := indexD_lt a
      have hbl := indexD_lt b
      dsimp only
      by_cases ha : Lib.indexByte D16 a < 0
      · rw [show decide (Lib.indexByte D16 a < 0) = true from by simpa using ha, cond_true, Option.bind_some]
        simp only [f30_p0_o0_x0_y, f30_p0_o0_x5_y, f30_p0_o0_x26_y, f30_p0_o0_l0_y, cond_true]
        exact ⟨fun _ => (by first | exact .inl rfl | exact .inl trivial), fun t ht => by simp [unhex, ha] at ht⟩
      · rw [show decide (Lib.indexByte D16 a < 0) = false from by simpa using ha, cond_false, inc _ (by omega), nth_pre1, Option.bind_some, digit_eq, Option.bind_some, Option.bind_some]
        simp only [f30_p0_o0_x0_y, f30_p0_o0_x5_y, f30_p0_o0_x26_y, f30_p0_o0_l0_y]
        by_cases hb : Lib.indexByte D16 b < 0
        · rw [show decide (Lib.indexByte D16 b < 0) = true from by simpa using hb, cond_true]
          exact ⟨fun _ => (by first | exact .inl rfl | exact .inl trivial), fun t ht => by simp [unhex, hb] at ht⟩
        · rw [show decide (Lib.indexByte D16 b < 0) = false from by simpa using hb, cond_false, nth_pre, Option.bind_some, digit_eq, Option.bind_some, inc _ (by omega), nth_pre1, Option.bind_some, digit_eq, Option.bind_some, appOk, if_pos (by simp at hl ⊢; omega)]
          dsimp only
          have e1 : Lib.indexByte D16 a = ((Lib.indexByte D16 a).toNat : Int) := by omega
          have e2 : Lib.indexByte D16 b = ((Lib.indexByte D16 b).toNat : Int) := by omega
          have hb2 := byte2 (Lib.indexByte D16 a).toNat (Lib.indexByte D16 b).toNat (by omega) (by omega)
          rw [← e1, ← e2] at hb2
          rw [hb2]
          have e3 : IntKind.i64.wrap ((pre.length : Int) + 2) = ((pre ++ [a, b]).length : Int) := by rw [wrap64 (by omega) (by omega)]; simp
          have e4 : pre ++ a :: b :: x = (pre ++ [a, b]) ++ x := by simp
          rw [e3, e4]
          obtain ⟨h1, h2⟩ := ih x (pre ++ [a, b]) (l ++ [((UInt8.ofNat ((Lib.indexByte D16 a).toNat * 16 + (Lib.indexByte D16 b).toNat)).toNat : Int)]) k (by simp at hx; omega) (by simp at hk; omega) (by simp at hl ⊢; omega) (by simp; omega)
          have hor : ¬ (Lib.indexByte D16 a < 0 ∨ Lib.indexByte D16 b < 0) := by omega
          refine ⟨fun h => ?_, fun t ht => ?_⟩
          · have hu : unhex x = none := by
              rw [unhex, if_neg hor] at h
              cases hu : unhex x with
              | none => rfl
              | some t => rw [hu] at h; cases h
            rcases h1 hu with q | ⟨l', q, q2⟩
            · exact .inl q
            · exact .inr ⟨l', q, by simp only [List.length_cons]; omega⟩
          · rw [unhex, if_neg hor] at ht
            simp only [Option.map_eq_some_iff] at ht
            obtain ⟨r, hr, rfl⟩ := ht
            obtain ⟨q, q2⟩ := h2 r hr
            refine ⟨?_, by simp only [List.length_cons]; omega⟩
            rw [q, List.append_assoc l]; rfl
theorem runhex_eq (x : List UInt8) (h : x.length ≤ 900000) : f30_F (x, ()) = some ((unhex x).getD [], ((unhex x).isSome, ())) := by
  rw [f30_eq]
  have hk : x.length + 1 ≤ fuelOf f30_p1_sh (f30_p1_y x 0 []) := by rw [fuel_def]; omega
  obtain ⟨h1, h2⟩ := runhex_loop x.length x [] [] _ (Nat.le_refl _) hk (by simp; omega) (by simpa using h)
  rw [List.nil_append, show ((([] : List UInt8).length : Nat) : Int) = 0 from rfl] at h1 h2
  cases hu : unhex x with
  | none =>
    rcases h1 hu with q | ⟨l', q, q2⟩
    · rw [show go f30_p1_st (f30_p1_y x 0 []) = _ from q, Option.bind_some]
      dsimp only
      simp only [f30_p1_o1_x2_y, f30_p1_o1_x3_y]
      rfl
    · rw [show go f30_p1_st (f30_p1_y x 0 []) = _ from q, Option.bind_some]
      dsimp only
      simp only [f30_p1_o0_x0_y, f30_p1_o0_l0_y]
      have e : Int.tmod (x.length : Int) 2 = ((x.length % 2 : Nat) : Int) := by simp [Int.tmod]
      rw [e, q2]; rfl
  | some t =>
    obtain ⟨q, q2⟩ := h2 t hu
    rw [show go f30_p1_st (f30_p1_y x 0 []) = _ from q, Option.bind_some]
    dsimp only
    simp only [f30_p1_o0_x0_y, f30_p1_o0_l0_y]
    have e : Int.tmod (x.length : Int) 2 = ((x.length % 2 : Nat) : Int) := by simp [Int.tmod]
    rw [e, q2, List.nil_append, strOf_bytesOf]; rfl
def sp (r : List UInt8 × List (List UInt8)) (b : UInt8) : List UInt8 × List (List UInt8) := if b = 32 then ([], r.2 ++ [r.1]) else (r.1 ++ [b], r.2)
def glue (t : List UInt8) : List (List UInt8) → List (List UInt8)
  | [] => [t]
  | w :: ws => (t ++ w) :: ws
theorem glue_nil (l : List (List UInt8)) (h : l ≠ []) : glue [] l = l := by
  cases l with
  | nil => exact absurd rfl h
  | cons w ws => rfl
theorem glue_snoc {c x : UInt8} (h : x ≠ c) (t r : List UInt8) : glue t (splitC c (x :: r)) = glue (t ++ [x]) (splitC c r) := by
  rw [splitC, if_neg h]
  cases hs : splitC c r with
  | nil => exact absurd hs (splitC_ne r)
  | cons w ws => simp [glue]
theorem sp_fold : ∀ (l : List UInt8) (r : List UInt8 × List (List UInt8)), (l.foldl sp r).2 ++ [(l.foldl sp r).1] = r.2 ++ glue r.1 (splitC 32 l)
  | [], r => by simp [splitC, glue]
  | b :: l, r => by
    rw [List.foldl_cons, sp_fold l]
    by_cases h : b = 32
    · subst h
      rw [sp, if_pos rfl, splitC, if_pos rfl, glue_nil _ (splitC_ne l)]
      simp [glue]
    · rw [sp, if_neg h, glue_snoc h]
theorem cutMid1 {S : Type} (l : List UInt8) (i : Nat) (h : i < l.length) (K : List UInt8 → Option S) : cutMid l (i : Int) ((i + 1 : Nat) : Int) K = K [l[i]] := by
  unfold cutMid
  rw [if_pos (by omega), Int.toNat_natCast, Int.toNat_natCast]
  have e : (l.take (i + 1)).drop i = (l.drop i).take 1 := by rw [List.drop_take]; congr 1; omega
  rw [e, List.drop_eq_getElem_cons h]; rfl
theorem rsplit_eq (s : List UInt8) (h : s.length ≤ 900000) : f29_F (s, ()) = some (splitC 32 s, ()) := by
  rw [f29_eq]
  have hl := go_foldi (step := f29_p1_st) (l := s) (fun i r => f29_p1_y s r.1 (i : Int) r.2) (fun _ => sp) (fun i r => r.1.length + r.2.length ≤ i) (s0 := ([], [])) (fin := fun r => some (f29_p1_o0_y r.1 r.2)) (by simp)
    (fun i r hi hr => ⟨by unfold sp; split <;> simp <;> omega, fun rec => by
      rw [f29_p1_eq, lt_true hi, cond_true, f29_p0_eq, nth_at hi, Option.bind_some, inc i (by omega)]
      unfold sp
      by_cases hb : s[i] = 32
      · rw [hb, show (((32 : UInt8).toNat : Int) == 32) = true from rfl, cond_true, appOk, if_pos (by simp; omega), Option.bind_some, if_pos rfl]
        simp only [f29_p0_o0_x0_y, f29_p0_o0_x4_y, f29_p0_o0_x5_y, f29_p0_o0_l0_y]
        rw [inc i (by omega)]
      · have : ((s[i].toNat : Int) == 32) = false := by
          simp only [beq_eq_false_iff_ne, ne_eq]
          intro e
          exact hb (UInt8.toNat_inj.1 (by show s[i].toNat = 32; omega))
        rw [this, cond_false, cutMid1 s i hi, if_pos (by simp; omega), Option.bind_some, if_neg hb]
        simp only [f29_p0_o0_x0_y, f29_p0_o0_x4_y, f29_p0_o0_x5_y, f29_p0_o0_l0_y]
        rw [inc i (by omega)]⟩) (fun r hr rec => by rw [f29_p1_eq, lt_false, cond_false]) (by rw [fuel_def]; omega)
  obtain ⟨h1, h2⟩ := hl
  rw [show ((0 : Nat) : Int) = 0 from rfl] at h1
  rw [foldi_eq] at h1 h2
  rw [h1, Option.bind_some]
  simp only [f29_p1_o0_x4_y, f29_p1_o0_l0_y]
  rw [appOk, if_pos (by simp; omega)]
  have := sp_fold s ([], [])
  rw [this, List.nil_append, glue_nil _ (splitC_ne s)]
def numR : Nat → List UInt8 → Option Nat
  | acc, [] => some acc
  | acc, c :: l => if c.toNat < 48 ∨ c.toNat > 57 ∨ acc > 1099511627776 then none else numR (10 * acc + (c.toNat - 48)) l
theorem numR_snoc : ∀ (l : List UInt8) (acc v d : Nat), numR acc l = some v → v ≤ 1099511627776 → d < 10 → numR acc (l ++ [UInt8.ofNat (48 + d)]) = some (10 * v + d)
  | [], acc, v, d, h, hv, hd => by
    simp only [numR, Option.some.injEq] at h
    subst h
    have e : (UInt8.ofNat (48 + d)).toNat = 48 + d := by simp [UInt8.toNat_ofNat']; omega
    simp only [List.nil_append, numR, e]
    rw [if_neg (by omega)]
    simp
  | c :: l, acc, v, d, h, hv, hd => by
    simp only [numR] at h
    simp only [List.cons_append, numR]
    split at h
    · cases h
    · rename_i hc
      rw [if_neg hc]
      exact numR_snoc l _ v d h hv hd
theorem numR_dec (u : Nat) : u ≤ 1099511627776 → numR 0 (decDigits u) = some u := by
  induction u using Nat.strongRecOn with
  | ind u ih =>
    intro hu
    unfold decDigits
    split
    · rename_i h
      have := numR_snoc [] 0 0 u rfl (by omega) h
      simpa using this
    · rename_i h
      have := numR_snoc _ 0 (u / 10) (u % 10) (ih (u / 10) (by omega) (by omega)) (by omega) (by omega)
      rw [this]
      congr 1; omega
theorem numR_bound : ∀ (l : List UInt8) (acc v : Nat), acc ≤ 10995116277770 → numR acc l = some v → v ≤ 10995116277770
  | [], acc, v, h, e => by simp only [numR, Option.some.injEq] at e; omega
  | c :: l, acc, v, h, e => by
    simp only [numR] at e
    split at e
    · cases e
    · exact numR_bound l _ v (by omega) e
theorem num_loop : ∀ (x pre : List UInt8) (acc k : Nat), x.length + 1 ≤ k → acc ≤ 10995116277770 → (pre ++ x).length ≤ 900000 →
    iter f31_p1_st k (f31_p1_y (pre ++ x) (acc : Int) (pre.length : Int)) = some (match numR acc x with | some v => .inl (f31_p1_o0_y (pre ++ x) (v : Int)) | none => .inr (f31_p1_o1_y (-1))) := by
  intro x
  induction x with
  | nil =>
    intro pre acc k hk ha hp
    obtain ⟨k, rfl⟩ : ∃ j, k = j + 1 := ⟨k - 1, by simp at hk; omega⟩
    rw [List.append_nil, iter, f31_p1_eq, lt_false, cond_false]
    rfl
  | cons c x ih =>
    intro pre acc k hk ha hp
    obtain ⟨k, rfl⟩ : ∃ j, k = j + 1 := ⟨k - 1, by omega⟩
    have hp' : pre.length + (x.length + 1) ≤ 900000 := by simpa using hp
    rw [iter, f31_p1_eq, show decide ((pre.length : Int) < ((pre ++ c :: x).length : Int)) = true from by simp; omega, cond_true, f31_p0_eq, nth_pre, Option.bind_some, numR]
    by_cases h1 : c.toNat < 48
    · rw [show decide ((c.toNat : Int) < 48) = true from by simpa using (by omega : (c.toNat : Int) < 48), cond_true, Option.bind_some, if_pos (.inl h1)]
      simp only [f31_p0_o0_x0_y, f31_p0_o0_x3_y, f31_p0_o0_x4_y, f31_p0_o0_x24_y, cond_true]
    · rw [show decide ((c.toNat : Int) < 48) = false from by simpa using (by omega : ¬ (c.toNat : Int) < 48), cond_false, Option.bind_some]
      by_cases h2 : c.toNat > 57
      · rw [show decide ((c.toNat : Int) > 57) = true from by simpa using (by omega : (c.toNat : Int) > 57), cond_true, Option.bind_some, if_pos (.inr (.inl h2))]
        simp only [f31_p0_o0_x0_y, f31_p0_o0_x3_y, f31_p0_o0_x4_y, f31_p0_o0_x24_y, cond_true]
      · rw [show decide ((c.toNat : Int) > 57) = false from by simpa using (by omega : ¬ (c.toNat : Int) > 57), cond_false, Option.bind_some]
        simp only [f31_p0_o0_x0_y, f31_p0_o0_x3_y, f31_p0_o0_x4_y, f31_p0_o0_x24_y]
        by_cases h3 : acc > 1099511627776
        · rw [show decide ((acc : Int) > 1099511627776) = true from by simpa using (by omega : (acc : Int) > 1099511627776), cond_true, if_pos (.inr (.inr h3))]
        · rw [show decide ((acc : Int) > 1099511627776) = false from by simpa using (by omega : ¬ (acc : Int) > 1099511627776), cond_false, if_neg (by omega), nth_pre, Option.bind_some, inc _ (by omega)]
          have e : IntKind.i64.wrap (IntKind.i64.wrap (10 * (acc : Int)) + IntKind.i64.wrap (IntKind.u8.wrap ((c.toNat : Int) - 48))) = ((10 * acc + (c.toNat - 48) : Nat) : Int) := by
            have h0 : IntKind.u8.wrap ((c.toNat : Int) - 48) = ((c.toNat - 48 : Nat) : Int) := by
              have h : ∀ n : Fin 256, 48 ≤ n.val → IntKind.u8.wrap ((n.val : Int) - 48) = ((n.val - 48 : Nat) : Int) := by decide +kernel
              exact h ⟨c.toNat, c.toNat_lt⟩ (by simp; omega)
            rw [h0, wrap64 (x := 10 * (acc : Int)) (by omega) (by omega), wrap64 (x := ((c.toNat - 48 : Nat) : Int)) (by omega) (by have := c.toNat_lt; omega), wrap64 (by omega) (by have := c.toNat_lt; omega)]
            omega
          have e2 := ih (pre ++ [c]) (10 * acc + (c.toNat - 48)) k (by simp at hk; omega) (by omega) (by simp; omega)
          rw [e, show ((pre.length + 1 : Nat) : Int) = ((pre ++ [c]).length : Int) from by simp, show pre ++ c :: x = (pre ++ [c]) ++ x from by simp, e2]
theorem rnumber_eq (s : List UInt8) (h : s.length ≤ 900000) : ∃ v : Int, f31_F (s, ()) = some (v, ()) ∧ (v = -1 ∨ (0 ≤ v ∧ itoa v = s)) ∧ ∀ n : Int, 0 ≤ n ∧ n ≤ 1099511627776 → s = itoa n → v = n := by
  rw [f31_eq]
  have hl := num_loop s [] 0 (fuelOf f31_p1_sh (f31_p1_y s 0 0)) (by rw [fuel_def]; omega) (by omega) (by simpa using h)
  rw [List.nil_append, show ((([] : List UInt8).length : Nat) : Int) = 0 from rfl, show ((0 : Nat) : Int) = 0 from rfl] at hl
  rw [show go f31_p1_st (f31_p1_y s 0 0) = _ from hl, Option.bind_some]
  have hback : ∀ n : Int, 0 ≤ n ∧ n ≤ 1099511627776 → s = itoa n → numR 0 s = some n.toNat := by
    intro n hn hs
    obtain ⟨u, rfl⟩ := Int.eq_ofNat_of_zero_le hn.1
    rw [hs, Lib.itoa_nonneg, Int.toNat_natCast]
    exact numR_dec u (by omega)
  cases hr : numR 0 s with
  | none =>
    refine ⟨-1, ?_, .inl rfl, fun n hn hs => ?_⟩
    · dsimp only; simp only [f31_p1_o1_x2_y]
    · rw [hback n hn hs] at hr; cases hr
  | some v =>
    have hv := numR_bound s 0 v (by omega) hr
    dsimp only
    simp only [f31_p1_o0_x0_y, f31_p1_o0_x3_y]
    rw [show itoaF ((v : Int), ()) = some (itoa (v : Int), ()) from by show (if -9223372036854775808 ≤ (v : Int) ∧ (v : Int) ≤ 9223372036854775807 then some (itoa (v : Int), ()) else none) = _; rw [if_pos ⟨by omega, by omega⟩], Option.bind_some]
    by_cases he : itoa (v : Int) = s
    · refine ⟨v, by rw [show (itoa (v : Int) != s) = false from by simpa using he, cond_false], .inr ⟨by omega, he⟩, fun n hn hs => ?_⟩
      rw [hback n hn hs] at hr
      simp only [Option.some.injEq] at hr
      omega
    · refine ⟨-1, by rw [show (itoa (v : Int) != s) = true from by simpa using he, cond_true], .inl rfl, fun n hn hs => ?_⟩
      rw [hback n hn hs] at hr
      obtain ⟨u, rfl⟩ := Int.eq_ofNat_of_zero_le hn.1
      rw [Int.toNat_natCast, Option.some.injEq] at hr
      rw [hr] at hs
      exact absurd hs.symm he
end Go.Pe.Tryz
end
section
namespace Go.Pe.Tryz
open Go.Proofs Go.RowKit
open Go.Lib (join itoa joinTail decDigits)
set_option maxRecDepth 100000
set_option linter.unusedSimpArgs false
set_option linter.unusedVariables false
theorem rloopS (S : List (List UInt8)) (L : List UInt8) (li cl : Int) (D : List Deed) (h : S.length ≤ 900000) : go f12_p0_st (f12_p0_y S (S.length : Int) 0 S L li cl D) = some (if S.all (fun s => (s.length : Int) == 32) = true then .inl (f12_p0_o0_y S L li cl D) else .inr (f12_p0_o1_y false)) := by
  have hl := go_scan (step := f12_p0_st) (l := S) (fun i => f12_p0_y S (S.length : Int) (i : Int) S L li cl D) (fun s => (s.length : Int) != 32) (fun _ => some (.inr (f12_p0_o1_y false))) (some (.inl (f12_p0_o0_y S L li cl D)))
    (fun i hi rec => by rw [f12_p0_eq, lt_true hi, cond_true, nth_at hi, Option.bind_some, inc i (by omega)]) (fun rec => by rw [f12_p0_eq, lt_false, cond_false]) (by rw [fuel_def]; omega)
  rw [show ((0 : Nat) : Int) = 0 from rfl] at hl
  rw [hl]
  have hf := find_all S (fun s => (s.length : Int) != 32) (fun s => (s.length : Int) == 32) (fun s => rfl)
  cases ha : S.findIdx? (fun s => (s.length : Int) != 32) with
  | none => rw [if_pos (hf.1 ha)]
  | some j => rw [if_neg (fun hh => by rw [hf.2 hh] at ha; cases ha)]
theorem rbegins_eq (S : List (List UInt8)) (L : List UInt8) (li cl : Int) (D : List Deed) (h : S.length ≤ 900000) : f12_F ((S, (L, (li, (cl, (D, ()))))), ()) = some (begins S L li cl, ()) := by
  rw [f12_eq, rloopS S L li cl D h, Option.bind_some]
  unfold begins
  cases ha : S.all (fun s => (s.length : Int) == 32) with
  | false =>
    rw [if_neg (by decide), Bool.false_and, Bool.and_false]
    dsimp only
    simp only [f12_p0_o1_x2_y]
  | true =>
    rw [if_pos rfl, Bool.true_and]
    dsimp only
    simp only [f12_p0_o0_r0_0_y, f12_p0_o0_r0_1_y, f12_p0_o0_r0_2_y, f12_p0_o0_r0_3_y, f12_p0_o0_r0_4_y]
    cases ((S.length : Int) == 4) <;> cases ((L.length : Int) == 32) <;> cases decide (li ≥ 1) <;> cases decide (li ≤ 1000000) <;> cases decide (cl ≥ 1) <;> rfl
noncomputable def rn0 (s : List UInt8) : Int := match f31_F (s, ()) with | some (v, _) => v | none => -1
noncomputable def rn : List UInt8 → Int := Classical.choose (⟨rn0, rfl⟩ : ∃ f : List UInt8 → Int, f = rn0)
theorem rn_def : rn = rn0 := Classical.choose_spec (⟨rn0, rfl⟩ : ∃ f : List UInt8 → Int, f = rn0)
theorem rn_eq (s : List UInt8) (h : s.length ≤ 900000) : f31_F (s, ()) = some (rn s, ()) ∧ (0 ≤ rn s → itoa (rn s) = s) ∧ ∀ n : Int, 0 ≤ n ∧ n ≤ 1099511627776 → s = itoa n → rn s = n := by
  obtain ⟨v, h1, h2, h3⟩ := rnumber_eq s h
  have e : rn s = v := by rw [rn_def]; unfold rn0; rw [h1]
  rw [e]
  refine ⟨h1, fun h0 => ?_, h3⟩
  rcases h2 with h2 | h2
  · omega
  · exact h2.2
theorem b_step (l : List (List UInt8)) (i : Nat) (w L : List UInt8) (acc : List (List UInt8)) (hn : nth l (i : Int) = some w) (hw : w.length ≤ 900000) (hi : i < 6) (ha : acc.length ≤ 5) (rec) :
    h11_p1_st rec (h11_p1_y l (i : Int) [] 0 0 L 0 0 acc) = match unhex w with
      | none => some (.inr (h11_p1_o1_y [] 0 0))
      | some t => if i < 5 then rec (h11_p1_y l ((i + 1 : Nat) : Int) [] 0 0 L 0 0 (acc ++ [t])) else rec (h11_p1_y l ((i + 1 : Nat) : Int) [] 0 0 t 0 0 acc) := by
  rw [h11_p1_eq, show decide ((i : Int) < 6) = true from by simp; omega, cond_true, h11_p0_eq, hn, Option.bind_some, runhex_eq w hw, Option.bind_some]
  cases unhex w with
  | none =>
    dsimp only [Option.isSome_none, Option.getD_none]
    rw [Bool.not_false, cond_true, Option.bind_some]
    dsimp only
    simp only [h11_p0_o0_r0_1_y, h11_p0_o0_r0_2_y, h11_p0_o0_r0_3_y]
  | some t =>
    dsimp only [Option.isSome_some, Option.getD_some]
    rw [Bool.not_true, cond_false]
    by_cases h5 : i < 5
    · rw [show decide ((i : Int) < 5) = true from by simp; omega, cond_true, appOk, if_pos (by simp; omega), Option.bind_some, if_pos h5]
      dsimp only
      simp only [h11_p0_o1_x4_y, h11_p0_o1_x5_y, h11_p0_o1_r0_1_y, h11_p0_o1_r0_2_y, h11_p0_o1_r0_3_y, h11_p0_o1_r1_1_y, h11_p0_o1_r1_2_y, h11_p0_o1_r1_3_y, h11_p0_o1_l0_y]
      rw [inc i (by omega)]
    · rw [show decide ((i : Int) < 5) = false from by simp; omega, cond_false, Option.bind_some, if_neg h5]
      dsimp only
      simp only [h11_p0_o1_x4_y, h11_p0_o1_x5_y, h11_p0_o1_r0_1_y, h11_p0_o1_r0_2_y, h11_p0_o1_r0_3_y, h11_p0_o1_r1_1_y, h11_p0_o1_r1_2_y, h11_p0_o1_r1_3_y, h11_p0_o1_l0_y]
      rw [inc i (by omega)]
theorem b_last (l : List (List UInt8)) (L : List UInt8) (acc : List (List UInt8)) (rec) : h11_p1_st rec (h11_p1_y l ((6 : Nat) : Int) [] 0 0 L 0 0 acc) = some (.inl (h11_p1_o0_y l [] 0 0 L 0 0 acc)) := by
  rw [h11_p1_eq, show decide (((6 : Nat) : Int) < 6) = false from rfl, cond_false]
theorem b_loop (w0 w1 w2 w3 w4 w5 w6 w7 : List UInt8) (h : ∀ w ∈ [w0, w1, w2, w3, w4, w5, w6, w7], w.length ≤ 900000) :
    ((∃ t1 t2 t3 t4 t5, unhex w1 = some t1 ∧ unhex w2 = some t2 ∧ unhex w3 = some t3 ∧ unhex w4 = some t4 ∧ unhex w5 = some t5 ∧
      go h11_p1_st (h11_p1_y [w0, w1, w2, w3, w4, w5, w6, w7] 1 [] 0 0 [] 0 0 []) = some (.inl (h11_p1_o0_y [w0, w1, w2, w3, w4, w5, w6, w7] [] 0 0 t5 0 0 [t1, t2, t3, t4]))) ∨
    ((unhex w1 = none ∨ unhex w2 = none ∨ unhex w3 = none ∨ unhex w4 = none ∨ unhex w5 = none) ∧
      go h11_p1_st (h11_p1_y [w0, w1, w2, w3, w4, w5, w6, w7] 1 [] 0 0 [] 0 0 []) = some (.inr (h11_p1_o1_y [] 0 0)))) := by
  have hgo : ∃ k, go h11_p1_st (h11_p1_y [w0, w1, w2, w3, w4, w5, w6, w7] 1 [] 0 0 [] 0 0 []) = iter h11_p1_st (k + 6) (h11_p1_y [w0, w1, w2, w3, w4, w5, w6, w7] ((1 : Nat) : Int) [] 0 0 [] 0 0 []) := by
    refine ⟨fuelOf h11_p1_sh (h11_p1_y [w0, w1, w2, w3, w4, w5, w6, w7] 1 [] 0 0 [] 0 0 []) - 6, ?_⟩
    rw [show fuelOf h11_p1_sh (h11_p1_y [w0, w1, w2, w3, w4, w5, w6, w7] 1 [] 0 0 [] 0 0 []) - 6 + 6 = fuelOf h11_p1_sh (h11_p1_y [w0, w1, w2, w3, w4, w5, w6, w7] 1 [] 0 0 [] 0 0 []) from by rw [fuel_def]; omega]
    rfl
  obtain ⟨k, hk⟩ := hgo
  rw [hk, iter, b_step _ 1 w1 [] [] rfl (h _ (by simp)) (by omega) (by simp)]
  cases e1 : unhex w1 with
  | none => exact .inr ⟨.inl rfl, rfl⟩
  | some t1 =>
  dsimp only
  rw [if_pos (by omega), iter, b_step _ 2 w2 [] _ rfl (h _ (by simp)) (by omega) (by simp)]
  cases e2 : unhex w2 with
  | none => exact .inr ⟨.inr (.inl rfl), rfl⟩
  | some t2 =>
  dsimp only
  rw [if_pos (by omega), iter, b_step _ 3 w3 [] _ rfl (h _ (by simp)) (by omega) (by simp)]
  cases e3 : unhex w3 with
  | none => exact .inr ⟨.inr (.inr (.inl rfl)), rfl⟩
  | some t3 =>
  dsimp only
  rw [if_pos (by omega), iter, b_step _ 4 w4 [] _ rfl (h _ (by simp)) (by omega) (by simp)]
  cases e4 : unhex w4 with
  | none => exact .inr ⟨.inr (.inr (.inr (.inl rfl))), rfl⟩
  | some t4 =>
  dsimp only
  rw [if_pos (by omega), iter, b_step _ 5 w5 [] _ rfl (h _ (by simp)) (by omega) (by simp)]
  cases e5 : unhex w5 with
  | none => exact .inr ⟨.inr (.inr (.inr (.inr rfl))), rfl⟩
  | some t5 =>
  dsimp only
  rw [if_neg (by omega), iter, b_last]
  exact .inl ⟨t1, t2, t3, t4, t5, rfl, rfl, rfl, rfl, rfl, rfl⟩
theorem rbegin_eq (s : List UInt8) (h : s.length ≤ 900000) : ∃ S L li cl, h11_F (h11_y s) = some (h11_o_y L li cl S) ∧ S.length ≤ 4 ∧ (begins S L li cl = true → first S L li cl = s) ∧
    (∀ S0 L0 li0 cl0, begins S0 L0 li0 cl0 = true → s = first S0 L0 li0 cl0 → S = S0 ∧ L = L0 ∧ li = li0 ∧ cl = cl0) := by
  rw [h11_eq, rsplit_eq s h, Option.bind_some]
  dsimp only
  have hback : ∀ S0 L0 li0 cl0, begins S0 L0 li0 cl0 = true → s = first S0 L0 li0 cl0 → splitC 32 s = firstW S0 L0 li0 cl0 ∧ ∃ a b c d, S0 = [a, b, c, d] := fun S0 L0 li0 cl0 hb hs => by
    refine ⟨by rw [hs, split_first hb], list4 (begins_iff hb).1⟩
  have hbad : (∀ S0 L0 li0 cl0, begins S0 L0 li0 cl0 = true → s = first S0 L0 li0 cl0 → False) → ∃ S L li cl, some (h11_o_y ([] : List UInt8) 0 0 ([] : List (List UInt8))) = some (h11_o_y L li cl S) ∧ S.length ≤ 4 ∧ (begins S L li cl = true → first S L li cl = s) ∧
    (∀ S0 L0 li0 cl0, begins S0 L0 li0 cl0 = true → s = first S0 L0 li0 cl0 → S = S0 ∧ L = L0 ∧ li = li0 ∧ cl = cl0) := fun hno =>
    ⟨[], [], 0, 0, rfl, by simp, fun hb => by simp [begins] at hb, fun S0 L0 li0 cl0 hb hs => (hno S0 L0 li0 cl0 hb hs).elim⟩
  rw [h11_p2_eq]
  by_cases h8 : (splitC 32 s).length = 8
  · rw [show (((splitC 32 s).length : Int) != 8) = false from by rw [h8]; rfl, cond_false]
    have hle := splitC_le (c := 32) s
    obtain ⟨w0, w1, w2, w3, w4, w5, w6, w7, hw⟩ := list8 h8
    have hws : ∀ w ∈ [w0, w1, w2, w3, w4, w5, w6, w7], w.length ≤ 900000 := fun w hm => by have := hle w (by rw [hw]; exact hm); omega
    rw [hw]
    rw [show nth [w0, w1, w2, w3, w4, w5, w6, w7] (0 : Int) = some w0 from rfl, Option.bind_some, Option.bind_some]
    simp only [h11_p2_o0_x4_y, h11_p2_o0_x19_y, h11_p2_o0_r0_1_y, h11_p2_o0_r0_2_y, h11_p2_o0_r0_3_y, h11_p2_o0_r1_1_y, h11_p2_o0_r1_2_y, h11_p2_o0_r1_3_y]
    by_cases hsys : w0 = sysW
    · subst hsys
      rw [show (sysW != ([115, 121, 115, 116, 101, 109] : List UInt8)) = false from rfl, cond_false]
      rcases b_loop sysW w1 w2 w3 w4 w5 w6 w7 hws with ⟨t1, t2, t3, t4, t5, e1, e2, e3, e4, e5, hg⟩ | ⟨hnone, hg⟩
      · rw [hg, Option.bind_some]
        dsimp only
        simp only [h11_p1_o0_x4_y, h11_p1_o0_r0_1_y, h11_p1_o0_r0_2_y, h11_p1_o0_r0_3_y, h11_p1_o0_r1_1_y, h11_p1_o0_r1_2_y, h11_p1_o0_r1_3_y, h11_p1_o0_l0_y]
        obtain ⟨n1, n2, n3⟩ := rn_eq w6 (hws w6 (by simp))
        obtain ⟨m1, m2, m3⟩ := rn_eq w7 (hws w7 (by simp))
        rw [show nth [sysW, w1, w2, w3, w4, w5, w6, w7] (6 : Int) = some w6 from rfl, Option.bind_some, n1, Option.bind_some, show nth [sysW, w1, w2, w3, w4, w5, w6, w7] (7 : Int) = some w7 from rfl, Option.bind_some, m1, Option.bind_some]
        refine ⟨[t1, t2, t3, t4], t5, rn w6, rn w7, rfl, by simp, fun hb => ?_, fun S0 L0 li0 cl0 hb hs => ?_⟩
        · obtain ⟨g1, g2, g3, g4, g5, g6, g7⟩ := begins_iff hb
          have e : firstW [t1, t2, t3, t4] t5 (rn w6) (rn w7) = splitC 32 s := by
            rw [hw]
            simp only [firstW, List.map_cons, List.map_nil, List.cons_append, List.nil_append]
            rw [hex_unhex _ _ e1, hex_unhex _ _ e2, hex_unhex _ _ e3, hex_unhex _ _ e4, hex_unhex _ _ e5, n2 (by omega), m2 (by omega)]
          rw [first, e, join_splitC s.length s (Nat.le_refl _)]
        · obtain ⟨k1, a, b, c, d, rfl⟩ := hback S0 L0 li0 cl0 hb hs
          obtain ⟨g1, g2, g3, g4, g5, g6, g7⟩ := begins_iff hb
          rw [hw] at k1
          simp only [firstW, List.map_cons, List.map_nil, List.cons_append, List.nil_append, List.cons.injEq, and_true, true_and] at k1
          obtain ⟨rfl, rfl, rfl, rfl, rfl, rfl, rfl⟩ := k1
          rw [unhex_hex] at e1 e2 e3 e4 e5
          cases e1; cases e2; cases e3; cases e4; cases e5
          exact ⟨rfl, rfl, n3 li0 ⟨by omega, by omega⟩ rfl, m3 cl0 ⟨by omega, by omega⟩ rfl⟩
      · rw [hg, Option.bind_some]
        dsimp only
        simp only [h11_p1_o1_r0_1_y, h11_p1_o1_r0_2_y, h11_p1_o1_r0_3_y]
        refine hbad fun S0 L0 li0 cl0 hb hs => ?_
        obtain ⟨k1, a, b, c, d, rfl⟩ := hback S0 L0 li0 cl0 hb hs
        rw [hw] at k1
        simp only [firstW, List.map_cons, List.map_nil, List.cons_append, List.nil_append, List.cons.injEq, and_true, true_and] at k1
        obtain ⟨rfl, rfl, rfl, rfl, rfl, rfl, rfl⟩ := k1
        simp [unhex_hex] at hnone
    · rw [show (w0 != ([115, 121, 115, 116, 101, 109] : List UInt8)) = true from by simpa [sysW] using hsys, cond_true]
      refine hbad fun S0 L0 li0 cl0 hb hs => ?_
      obtain ⟨k1, _⟩ := hback S0 L0 li0 cl0 hb hs
      rw [hw] at k1
      simp only [firstW, List.cons.injEq] at k1
      exact hsys k1.1
  · rw [show (((splitC 32 s).length : Int) != 8) = true from by simp; omega, cond_true, Option.bind_some]
    simp only [h11_p2_o0_x4_y, h11_p2_o0_x19_y, h11_p2_o0_r0_1_y, h11_p2_o0_r0_2_y, h11_p2_o0_r0_3_y, h11_p2_o0_r1_1_y, h11_p2_o0_r1_2_y, h11_p2_o0_r1_3_y, cond_true]
    refine hbad fun S0 L0 li0 cl0 hb hs => ?_
    obtain ⟨k1, _⟩ := hback S0 L0 li0 cl0 hb hs
    exact h8 (by rw [k1]; exact (firstW_len hb).1)
def rtx : List (List UInt8) → Option (List (List UInt8))
  | [] => some []
  | [] :: _ => none
  | (c :: h) :: r => if c = 120 then (match unhex h with | some t => (rtx r).map (t :: ·) | none => none) else none
theorem rtx_map : ∀ A : List (List UInt8), rtx (A.map fun s => 120 :: hex s) = some A
  | [] => rfl
  | a :: A => by rw [List.map_cons, rtx, if_pos rfl, unhex_hex, rtx_map A]; rfl
theorem rtx_back : ∀ (l ts : List (List UInt8)), rtx l = some ts → l = ts.map fun s => 120 :: hex s
  | [], ts, h => by simp only [rtx, Option.some.injEq] at h; subst h; rfl
  | [] :: _, ts, h => by simp [rtx] at h
  | (c :: g) :: r, ts, h => by
    rw [rtx] at h
    split at h
    · rename_i hc
      subst hc
      cases hu : unhex g with
      | none => rw [hu] at h; cases h
      | some t =>
        rw [hu] at h
        simp only [Option.map_eq_some_iff] at h
        obtain ⟨ts', h1, rfl⟩ := h
        rw [List.map_cons, hex_unhex g t hu, ← rtx_back r ts' h1]
    · cases h
theorem rtx_len : ∀ (l ts : List (List UInt8)), rtx l = some ts → ts.length = l.length := fun l ts h => by rw [rtx_back l ts h]; simp
theorem t_loop (k : Int) (x : Shp) (hm : (k, x) ∈ shp) (post : List (List UInt8)) : ∀ (rest pre : List (List UInt8)) (i : Nat) (acc : List (List UInt8)) (f : Nat), pre.length = 1 + i → (i : Int) + rest.length = x.2.1 → rest.length + 1 ≤ f → acc.length = i → (∀ w ∈ rest, w.length ≤ 900000) →
    iter f13_p2_st f (f13_p2_y (pre ++ (rest ++ post)) k (i : Int) 0 k acc) = some (match rtx rest with | some ts => .inl (f13_p2_o0_y (pre ++ (rest ++ post)) k 0 k (acc ++ ts)) | none => .inr (f13_p2_o1_y 0)) := by
  have hl := shp_len hm
  obtain ⟨c1, _, _⟩ := counts hm
  intro rest
  induction rest with
  | nil =>
    intro pre i acc f hp hi hf ha hw
    obtain ⟨f, rfl⟩ : ∃ j, f = j + 1 := ⟨f - 1, by simp at hf; omega⟩
    rw [iter, f13_p2_eq, c1, Option.bind_some, show decide ((i : Int) < x.2.1) = false from by simp at hi; simp; omega, cond_false]
    simp [rtx]
  | cons w rest ih =>
    intro pre i acc f hp hi hf ha hw
    obtain ⟨f, rfl⟩ : ∃ j, f = j + 1 := ⟨f - 1, by omega⟩
    have hi2 : (i : Int) + (rest.length + 1) = x.2.1 := by simpa using hi
    have hww := hw w (by simp)
    rw [iter, f13_p2_eq, c1, Option.bind_some]
    dsimp only
    rw [show decide ((i : Int) < x.2.1) = true from by simp; omega, cond_true, show IntKind.i64.wrap (1 + (i : Int)) = (pre.length : Int) from by rw [wrap64 (by omega) (by omega), hp]; omega, show pre ++ (w :: rest ++ post) = pre ++ w :: (rest ++ post) from rfl, nth_pre, Option.bind_some, f13_p0_eq]
    cases w with
    | nil =>
      rw [show (([] : List UInt8) == []) = true from rfl, cond_true, Option.bind_some]
      simp only [f13_p0_o0_x3_y, f13_p0_o0_x4_y, f13_p0_o0_x6_y, f13_p0_o0_x7_y, f13_p0_o0_x53_y, f13_p0_o0_r0_0_y, f13_p0_o0_r1_0_y, f13_p0_o0_l0_y, cond_true]
      rfl
    | cons c g =>
      rw [show ((c :: g) == ([] : List UInt8)) = false from rfl, cond_false, show nth (c :: g) (0 : Int) = some c from rfl, Option.bind_some, Option.bind_some]
      simp only [f13_p0_o0_x3_y, f13_p0_o0_x4_y, f13_p0_o0_x6_y, f13_p0_o0_x7_y, f13_p0_o0_x53_y, f13_p0_o0_r0_0_y, f13_p0_o0_r1_0_y, f13_p0_o0_l0_y]
      rw [rtx]
      by_cases hc : c = 120
      · subst hc
        rw [show (((120 : UInt8).toNat : Int) != 120) = false from rfl, cond_false, if_pos rfl]
        rw [cutLo, if_pos (by simp; omega), show (120 :: g).drop (Int.toNat 1) = g from rfl, runhex_eq g (by simp at hww; omega), Option.bind_some]
        cases hu : unhex g with
        | none =>
          dsimp only [Option.isSome_none, Option.getD_none]
          rw [Bool.not_false, cond_true]
        | some t =>
          dsimp only [Option.isSome_some, Option.getD_some]
          rw [Bool.not_true, cond_false, appOk, if_pos (by simp; omega), inc i (by omega)]
          have := ih (pre ++ [120 :: g]) (i + 1) (acc ++ [t]) f (by simp; omega) (by omega) (by simp at hf; omega) (by simp [ha]) fun w hw' => hw w (by simp [hw'])
          rw [show pre ++ (120 :: g) :: (rest ++ post) = (pre ++ [120 :: g]) ++ (rest ++ post) from by simp, this]
          cases rtx rest with
          | none => rfl
          | some ts => simp
      · have : ((c.toNat : Int) != 120) = true := by
          simp only [bne_iff_ne, ne_eq]
          intro e
          exact hc (UInt8.toNat_inj.1 (by show c.toNat = 120; omega))
        rw [this, cond_true, if_neg hc]
theorem n_loop (k : Int) (x : Shp) (hm : (k, x) ∈ shp) (A : List (List UInt8)) : ∀ (rest pre : List (List UInt8)) (i : Nat) (acc : List Int) (f : Nat), (pre.length : Int) = 1 + x.2.1 + i → (i : Int) + rest.length = x.2.2 → rest.length + 1 ≤ f → acc.length = i → (∀ w ∈ rest, w.length ≤ 900000) →
    iter f13_p1_st f (f13_p1_y (pre ++ rest) k (i : Int) 0 k A acc) = some (f13_p1_o0_y 0 k A (acc ++ rest.map rn)) := by
  have hl := shp_len hm
  obtain ⟨c1, c2, _⟩ := counts hm
  intro rest
  induction rest with
  | nil =>
    intro pre i acc f hp hi hf ha hw
    obtain ⟨f, rfl⟩ : ∃ j, f = j + 1 := ⟨f - 1, by simp at hf; omega⟩
    rw [iter, f13_p1_eq, c2, Option.bind_some, show decide ((i : Int) < x.2.2) = false from by simp at hi; simp; omega, cond_false]
    simp
  | cons w rest ih =>
    intro pre i acc f hp hi hf ha hw
    obtain ⟨f, rfl⟩ : ∃ j, f = j + 1 := ⟨f - 1, by omega⟩
    have hi2 : (i : Int) + (rest.length + 1) = x.2.2 := by simpa using hi
    have hww := hw w (by simp)
    rw [iter, f13_p1_eq, c2, Option.bind_some]
    dsimp only
    rw [show decide ((i : Int) < x.2.2) = true from by simp; omega, cond_true, c1, Option.bind_some]
    dsimp only
    rw [show IntKind.i64.wrap (IntKind.i64.wrap (1 + x.2.1) + (i : Int)) = (pre.length : Int) from by rw [wrap64 (x := 1 + x.2.1) (by omega) (by omega), wrap64 (by omega) (by omega), hp], nth_pre, Option.bind_some, (rn_eq w hww).1, Option.bind_some, appOk, if_pos (by simp; omega), inc i (by omega)]
    have := ih (pre ++ [w]) (i + 1) (acc ++ [rn w]) f (by simp; omega) (by omega) (by simp at hf; omega) (by simp [ha]) fun w hw' => hw w (by simp [hw'])
    rw [show pre ++ w :: rest = (pre ++ [w]) ++ rest from by simp, this]
    simp
theorem k_other (k : Int) (x : Shp) (hm : (k, x) ∈ shp) (w : List UInt8) (ws : List (List UInt8)) (h : ¬ (x.1 = w ∧ ((w :: ws).length : Int) = 1 + x.2.1 + x.2.2)) :
    f13_p3_F (f13_p3_y (w :: ws) k 0) = some (.inr (f13_p3_o1_y (w :: ws) k 0)) := by
  have hl := shp_len hm
  obtain ⟨c1, c2, c3⟩ := counts hm
  rw [f13_p3_eq, show nth (w :: ws) (0 : Int) = some w from rfl, Option.bind_some, c3, Option.bind_some]
  dsimp only
  by_cases hw : w = x.1
  · rw [show (w != x.1) = false from by simpa using hw, cond_false, c1, Option.bind_some, c2, Option.bind_some]
    dsimp only
    rw [show IntKind.i64.wrap (IntKind.i64.wrap (1 + x.2.1) + x.2.2) = 1 + x.2.1 + x.2.2 from by rw [wrap64 (x := 1 + x.2.1) (by omega) (by omega), wrap64 (by omega) (by omega)]]
    rw [show (((w :: ws).length : Int) != 1 + x.2.1 + x.2.2) = true from by simp only [bne_iff_ne, ne_eq]; exact fun e => h ⟨hw.symm, e⟩, cond_true]
  · rw [show (w != x.1) = true from by simpa using hw, cond_true]
theorem k_this (k : Int) (x : Shp) (hm : (k, x) ∈ shp) (w : List UInt8) (ws : List (List UInt8)) (hw : x.1 = w) (hn : ((w :: ws).length : Int) = 1 + x.2.1 + x.2.2) (hsm : ∀ v ∈ ws, v.length ≤ 900000) :
    f13_p3_F (f13_p3_y (w :: ws) k 0) = some (.inl (match rtx (ws.take x.2.1.toNat) with | some ts => f13_p3_o0_y k ts ((ws.drop x.2.1.toNat).map rn) | none => f13_p3_o0_y 0 [] [])) := by
  have hl := shp_len hm
  obtain ⟨c1, c2, c3⟩ := counts hm
  rw [f13_p3_eq, show nth (w :: ws) (0 : Int) = some w from rfl, Option.bind_some, c3, Option.bind_some]
  dsimp only
  rw [show (w != x.1) = false from by simpa using hw.symm, cond_false, c1, Option.bind_some, c2, Option.bind_some]
  dsimp only
  rw [show IntKind.i64.wrap (IntKind.i64.wrap (1 + x.2.1) + x.2.2) = 1 + x.2.1 + x.2.2 from by rw [wrap64 (x := 1 + x.2.1) (by omega) (by omega), wrap64 (by omega) (by omega)]]
  rw [show (((w :: ws).length : Int) != 1 + x.2.1 + x.2.2) = false from by rw [hn]; simp, cond_false]
  have hlen : (ws.length : Int) = x.2.1 + x.2.2 := by simp only [List.length_cons] at hn; omega
  obtain ⟨T, hT⟩ := Int.eq_ofNat_of_zero_le hl.2.2.2.1
  rw [hT, Int.toNat_natCast]
  have hTl : T ≤ ws.length := by omega
  have hsplit : w :: ws = [w] ++ (ws.take T ++ ws.drop T) := by simp
  have t := t_loop k x hm (ws.drop T) (ws.take T) [w] 0 [] (fuelOf f13_p2_sh (f13_p2_y (w :: ws) k 0 0 k [])) rfl (by rw [List.length_take, hT]; omega) (by rw [fuel_def, List.length_take]; omega) rfl fun v hv => hsm v (List.mem_of_mem_take hv)
  rw [← hsplit] at t
  rw [show go f13_p2_st (f13_p2_y (w :: ws) k 0 0 k []) = _ from t, Option.bind_some]
  cases hr : rtx (ws.take T) with
  | none =>
    dsimp only
    simp only [f13_p2_o1_r0_0_y]
  | some ts =>
    dsimp only
    simp only [f13_p2_o0_x3_y, f13_p2_o0_x4_y, f13_p2_o0_r0_0_y, f13_p2_o0_r1_0_y, f13_p2_o0_l0_y, List.nil_append]
    have n := n_loop k x hm ts (ws.drop T) ([w] ++ ws.take T) 0 [] (fuelOf f13_p1_sh (f13_p1_y (w :: ws) k 0 0 k ts [])) (by simp only [List.length_append, List.length_cons, List.length_nil, List.length_take]; omega) (by rw [List.length_drop]; omega) (by rw [fuel_def, List.length_drop]; omega) rfl fun v hv => hsm v (List.mem_of_mem_drop hv)
    rw [List.append_assoc, ← hsplit, List.nil_append] at n
    rw [show go f13_p1_st (f13_p1_y (w :: ws) k 0 0 k ts []) = _ from n, Option.bind_some]
    simp only [f13_p1_o0_r0_0_y, f13_p1_o0_r1_0_y, f13_p1_o0_l0_y, f13_p1_o0_l1_y]
theorem shp_at : ∀ i, i < 8 → ∃ x, (((i + 1 : Nat) : Int), x) ∈ shp := by
  intro i hi
  have : ∀ j : Fin 8, ∃ y ∈ shp, y.1 = ((j.val + 1 : Nat) : Int) := by decide
  obtain ⟨y, hy, e⟩ := this ⟨i, hi⟩
  exact ⟨y.2, by rw [← e]; exact hy⟩
theorem shp_rng {k : Int} {x : Shp} (h : (k, x) ∈ shp) : ∃ i : Nat, i < 8 ∧ k = ((i + 1 : Nat) : Int) := by
  rcases look_cases k with ⟨hn, hk⟩ | ⟨h1, h2, _⟩
  · rw [look_mem h] at hn; cases hn
  · exact ⟨(k - 1).toNat, by omega, by omega⟩
theorem rdeed_eq (s : List UInt8) (hs : s.length ≤ 900000) : ∃ d : Deed, f13_F (s, ()) = some ((d.1, (d.2.1, (d.2.2, ()))), ()) ∧ d.2.1.length ≤ 900000 ∧ d.2.2.length ≤ 900000 ∧ (isDeed d = true → line d = s) ∧ (∀ d0 : Deed, isDeed d0 = true → s = line d0 → d = d0) := by
  obtain ⟨w, ws, hW⟩ : ∃ w ws, splitC 32 s = w :: ws := by
    cases h : splitC 32 s with
    | nil => exact absurd h (splitC_ne s)
    | cons w ws => exact ⟨w, ws, rfl⟩
  have hle := splitC_le (c := 32) s
  rw [hW] at hle
  have hsm : ∀ v ∈ ws, v.length ≤ 900000 := fun v hv => by have := hle v (by simp [hv]); omega
  rw [f13_eq, rsplit_eq s hs, Option.bind_some]
  dsimp only
  rw [hW]
  have hback : ∀ d0 : Deed, isDeed d0 = true → s = line d0 → ∃ x0, (d0.1, x0) ∈ shp ∧ x0.1 = w ∧ ws = d0.2.1.map (fun s => 120 :: hex s) ++ d0.2.2.map itoa ∧ (d0.2.1.length : Int) = x0.2.1 ∧ (d0.2.2.length : Int) = x0.2.2 ∧ ∀ n ∈ d0.2.2, 0 ≤ n ∧ n ≤ 1099511627776 := fun d0 hd0 hs0 => by
    obtain ⟨x0, hm0, hsp, g1, g2, g4⟩ := split_line hd0
    rw [← hs0, hW] at hsp
    simp only [List.cons.injEq] at hsp
    exact ⟨x0, hm0, hsp.1.symm, hsp.2, g1, g2, g4⟩
  have hlen0 : ∀ d0 : Deed, ∀ x0 : Shp, ws = d0.2.1.map (fun s => 120 :: hex s) ++ d0.2.2.map itoa → (d0.2.1.length : Int) = x0.2.1 → (d0.2.2.length : Int) = x0.2.2 → ((w :: ws).length : Int) = 1 + x0.2.1 + x0.2.2 := fun d0 x0 e g1 g2 => by
    rw [e]; simp only [List.length_cons, List.length_append, List.length_map]; omega
  by_cases hex : ∃ q ∈ shp, q.2.1 = w ∧ ((w :: ws).length : Int) = 1 + q.2.2.1 + q.2.2.2
  · obtain ⟨⟨k, x⟩, hm, hw, hn⟩ := hex
    dsimp only at hw hn
    obtain ⟨i, hi8, rfl⟩ := shp_rng hm
    have hgo : go f13_p4_st (f13_p4_y (w :: ws) 1 0) = some (.inr (match rtx (ws.take x.2.1.toNat) with | some ts => f13_p4_o1_y ((i + 1 : Nat) : Int) ts ((ws.drop x.2.1.toNat).map rn) | none => f13_p4_o1_y 0 [] [])) := by
      refine go_seq (y := fun j => f13_p4_y (w :: ws) ((j + 1 : Nat) : Int) 0) (n := i) (fun j hj rec => ?_) (fun rec => ?_) (by rw [fuel_def]; omega)
      · rw [f13_p4_eq, show decide (((j + 1 : Nat) : Int) < 9) = true from by simp; omega, cond_true]
        obtain ⟨y, hy⟩ := shp_at j (by omega)
        rw [k_other _ y hy w ws (fun he => by
          have := shp_one _ hy _ hm (by dsimp only; rw [he.1, hw])
          simp only [Prod.mk.injEq] at this
          omega), Option.bind_some]
        dsimp only
        simp only [f13_p3_o1_x3_y, f13_p3_o1_x4_y, f13_p3_o1_r0_0_y]
        rw [inc (j + 1) (by omega)]
      · rw [f13_p4_eq, show decide (((i + 1 : Nat) : Int) < 9) = true from by simp; omega, cond_true, k_this _ x hm w ws hw hn hsm, Option.bind_some]
        cases rtx (ws.take x.2.1.toNat) with
        | none =>
          dsimp only
          simp only [f13_p3_o0_r0_0_y, f13_p3_o0_l0_y, f13_p3_o0_l1_y]
        | some ts =>
          dsimp only
          simp only [f13_p3_o0_r0_0_y, f13_p3_o0_l0_y, f13_p3_o0_l1_y]
    rw [hgo, Option.bind_some]
    have hd0 : ∀ d0 : Deed, isDeed d0 = true → s = line d0 → d0.1 = ((i + 1 : Nat) : Int) ∧ ws.take x.2.1.toNat = d0.2.1.map (fun s => 120 :: hex s) ∧ ws.drop x.2.1.toNat = d0.2.2.map itoa ∧ ∀ n ∈ d0.2.2, 0 ≤ n ∧ n ≤ 1099511627776 := fun d0 h1 h2 => by
      obtain ⟨x0, hm0, q1, q2, q3, q4, q5⟩ := hback d0 h1 h2
      have := shp_one (((i + 1 : Nat) : Int), x) hm (d0.1, x0) hm0 (by dsimp only; rw [hw, q1])
      simp only [Prod.mk.injEq] at this
      obtain ⟨e1, e2⟩ := this
      subst e2
      have hT : x.2.1.toNat = (d0.2.1.map fun s => 120 :: hex s).length := by rw [List.length_map]; omega
      refine ⟨e1.symm, ?_, ?_, q5⟩
      · rw [q2, hT, List.take_left]
      · rw [q2, hT, List.drop_left]
    cases hr : rtx (ws.take x.2.1.toNat) with
    | none =>
      dsimp only
      simp only [f13_p4_o1_r0_0_y, f13_p4_o1_l0_y, f13_p4_o1_l1_y]
      refine ⟨(0, ([], [])), rfl, by simp, by simp, fun h => by simp [isDeed, show look 0 = none from rfl] at h, fun d0 h1 h2 => ?_⟩
      obtain ⟨_, q, _⟩ := hd0 d0 h1 h2
      rw [q, rtx_map] at hr
      cases hr
    | some ts =>
      dsimp only
      simp only [f13_p4_o1_r0_0_y, f13_p4_o1_l0_y, f13_p4_o1_l1_y]
      have hlen : (ws.length : Int) = x.2.1 + x.2.2 := by simp only [List.length_cons] at hn; omega
      have hl := shp_len hm
      refine ⟨(((i + 1 : Nat) : Int), (ts, (ws.drop x.2.1.toNat).map rn)), rfl, ?_, ?_, fun h => ?_, fun d0 h1 h2 => ?_⟩
      · dsimp only; rw [rtx_len _ _ hr, List.length_take]; omega
      · dsimp only; rw [List.length_map, List.length_drop]; omega
      · obtain ⟨x1, hx1, hm1, g1, g2, g3, g4⟩ := isDeed_iff h
        dsimp only at hx1 g1 g2 g3 g4 hm1
        have hxx := shp_two _ hm _ hm1 rfl
        simp only [Prod.mk.injEq, true_and] at hxx
        subst hxx
        have e : wordsOf (((i + 1 : Nat) : Int), (ts, (ws.drop x.2.1.toNat).map rn)) x = w :: ws := by
          unfold wordsOf
          dsimp only
          rw [hw, ← rtx_back _ _ hr, List.map_map]
          have : ∀ v ∈ ws.drop x.2.1.toNat, (itoa ∘ rn) v = id v := fun v hv => (rn_eq v (hsm v (List.mem_of_mem_drop hv))).2.1 (g4 (rn v) (List.mem_map_of_mem hv)).1
          rw [List.map_congr_left this, List.map_id, List.take_append_drop]
        unfold line
        rw [hx1]
        dsimp only [Option.getD_some]
        rw [e, ← hW, join_splitC s.length s (Nat.le_refl _)]
      · obtain ⟨q0, q1, q2, q3⟩ := hd0 d0 h1 h2
        rw [q1, rtx_map, Option.some.injEq] at hr
        have : (ws.drop x.2.1.toNat).map rn = d0.2.2 := by
          rw [q2, List.map_map]
          have : ∀ n ∈ d0.2.2, (rn ∘ itoa) n = id n := fun n hn => (rn_eq (itoa n) (by have := itoa_le (q3 n hn); omega)).2.2 n (q3 n hn) rfl
          rw [List.map_congr_left this, List.map_id]
        rw [this, ← q0, ← hr]
  · have hgo : go f13_p4_st (f13_p4_y (w :: ws) 1 0) = some (.inl (f13_p4_o0_y 0)) := by
      refine go_seq (y := fun j => f13_p4_y (w :: ws) ((j + 1 : Nat) : Int) 0) (n := 8) (fun j hj rec => ?_) (fun rec => ?_) (by rw [fuel_def]; omega)
      · rw [f13_p4_eq, show decide (((j + 1 : Nat) : Int) < 9) = true from by simp; omega, cond_true]
        obtain ⟨y, hy⟩ := shp_at j (by omega)
        rw [k_other _ y hy w ws (fun he => hex ⟨_, hy, he⟩), Option.bind_some]
        dsimp only
        simp only [f13_p3_o1_x3_y, f13_p3_o1_x4_y, f13_p3_o1_r0_0_y]
        rw [inc (j + 1) (by omega)]
      · rw [f13_p4_eq, show decide (((8 + 1 : Nat) : Int) < 9) = false from rfl, cond_false]
    rw [hgo, Option.bind_some]
    refine ⟨(0, ([], [])), rfl, by simp, by simp, fun h => by simp [isDeed, show look 0 = none from rfl] at h, fun d0 h1 h2 => ?_⟩
    obtain ⟨x0, hm0, q1, q2, q3, q4, q5⟩ := hback d0 h1 h2
    exact (hex ⟨_, hm0, q1, hlen0 d0 x0 q2 q3 q4⟩).elim
end Go.Pe.Tryz
end
section
namespace Go.Pe.Tryz
open Go.Proofs Go.RowKit
open Go.Lib (join itoa joinTail decDigits)
set_option maxRecDepth 100000
set_option linter.unusedSimpArgs false
set_option linter.unusedVariables false
noncomputable def dd (w : List UInt8) : Option Deed := open Classical in if h : ∃ d : Deed, isDeed d = true ∧ line d = w then some h.choose else none
theorem line_inj {d d' : Deed} (h : isDeed d = true) (h' : isDeed d' = true) (e : line d = line d') : d = d' := by
  obtain ⟨d0, ok, _, _, h3⟩ := deed_eq (line d) (by have := line_len h; omega)
  exact (h3 d h rfl).2.symm.trans (h3 d' h' e).2
theorem dd_some {w : List UInt8} {d : Deed} (h : dd w = some d) : isDeed d = true ∧ line d = w := by
  unfold dd at h
  split at h
  · rename_i hx
    cases h
    exact hx.choose_spec
  · cases h
theorem dd_of {d : Deed} (h : isDeed d = true) : dd (line d) = some d := by
  unfold dd
  rw [dif_pos ⟨d, h, rfl⟩]
  have := (⟨d, h, rfl⟩ : ∃ d' : Deed, isDeed d' = true ∧ line d' = line d).choose_spec
  rw [line_inj this.1 h this.2]
noncomputable def pl : List (List UInt8) → Nat → List Deed → Nat ⊕ List Deed
  | [], no, _ => .inl no
  | [w], no, D => if w = [] then .inr D else .inl no
  | w :: v :: ws, no, D => match dd w with
    | some d => if D.length = 200 then .inl no else pl (v :: ws) (no + 1) (D ++ [d])
    | none => .inl no
theorem pl_cons (w : List UInt8) (l : List (List UInt8)) (h : l ≠ []) (no : Nat) (D : List Deed) : pl (w :: l) no D = match dd w with
    | some d => if D.length = 200 then .inl no else pl l (no + 1) (D ++ [d])
    | none => .inl no := by
  cases l with
  | nil => exact absurd rfl h
  | cons v ws => rfl
theorem plines (L : List UInt8) (li cl : Int) (S : List (List UInt8)) : ∀ (m : Nat) (rest : List UInt8) (D : List Deed) (no k : Nat), D.length + m = 201 → m + 1 ≤ k → rest.length ≤ 900000 → D.length ≤ 200 → no + m ≤ 1000 →
    iter f4_p1_st k (f4_p1_y rest (no : Int) [] 0 0 L li cl S D) = some (match pl (splitC 10 rest) no D with | .inl no' => .inr (f4_p1_o1_y 250 (no' : Int) [] 0 0) | .inr D' => .inl (f4_p1_o0_y [] 0 0 L li cl S D')) := by
  intro m
  induction m with
  | zero => intro rest D no k h1 h2 h3 h5 h6; omega
  | succ m ih =>
    intro rest D no k h1 h2 h3 h5 h6
    obtain ⟨k, rfl⟩ : ∃ j, k = j + 1 := ⟨k - 1, by omega⟩
    rw [iter, f4_p1_eq]
    by_cases hr : rest = []
    · subst hr
      rw [show (([] : List UInt8) != []) = false from rfl, cond_false, show splitC 10 ([] : List UInt8) = [[]] from rfl, pl, if_pos rfl]
    · rw [show (rest != []) = true from by simpa using hr, cond_true, cutF_eq rest (by omega), Option.bind_some]
      by_cases hc : (10 : UInt8) ∈ rest
      · obtain ⟨a, b, rfl, ha⟩ := mem_part hc
        rw [cut_at ha, splitC_at ha, pl_cons _ _ (splitC_ne b)]
        dsimp only
        simp only [List.length_append, List.length_cons] at h3
        obtain ⟨d, ok, e1, e2, e3⟩ := deed_eq a (by omega)
        rw [e1, Option.bind_some, f4_p0_eq]
        dsimp only
        rw [Bool.not_true, cond_false]
        cases ok with
        | false =>
          rw [Bool.not_false, cond_true, Option.bind_some]
          simp only [f4_p0_o0_x6_y, f4_p0_o0_x10_y, f4_p0_o0_x57_y, f4_p0_o0_r0_1_y, f4_p0_o0_r0_2_y, f4_p0_o0_r0_3_y, f4_p0_o0_r1_1_y, f4_p0_o0_r1_2_y, f4_p0_o0_r1_3_y, f4_p0_o0_r2_0_y, f4_p0_o0_r2_1_y, f4_p0_o0_r2_2_y, f4_p0_o0_l0_y, f4_p0_o0_l1_y, cond_true]
          cases hd : dd a with
          | none => rfl
          | some d0 =>
            obtain ⟨q1, q2⟩ := dd_some hd
            have := (e3 d0 q1 q2.symm).1
            cases this
        | true =>
          obtain ⟨g1, g2⟩ := e2 rfl
          rw [Bool.not_true, cond_false, Option.bind_some, ← g2, dd_of g1]
          simp only [f4_p0_o0_x6_y, f4_p0_o0_x10_y, f4_p0_o0_x57_y, f4_p0_o0_r0_1_y, f4_p0_o0_r0_2_y, f4_p0_o0_r0_3_y, f4_p0_o0_r1_1_y, f4_p0_o0_r1_2_y, f4_p0_o0_r1_3_y, f4_p0_o0_r2_0_y, f4_p0_o0_r2_1_y, f4_p0_o0_r2_2_y, f4_p0_o0_l0_y, f4_p0_o0_l1_y]
          by_cases h200 : D.length = 200
          · rw [show ((D.length : Int) == 200) = true from by rw [h200]; rfl, cond_true, if_pos h200]
          · rw [show ((D.length : Int) == 200) = false from by simp; omega, cond_false, appOk, if_pos (by simp; omega), inc no (by omega), if_neg h200]
            exact ih b (D ++ [(d.1, (d.2.1, d.2.2))]) (no + 1) k (by simp; omega) (by omega) (by omega) (by simp; omega) (by omega)
      · rw [cut_none hc, splitC_none hc]
        dsimp only
        obtain ⟨d, ok, e1, e2, e3⟩ := deed_eq rest h3
        rw [e1, Option.bind_some, f4_p0_eq]
        dsimp only
        rw [Bool.not_false, cond_true, Option.bind_some, pl, if_neg hr]
        simp only [f4_p0_o0_x6_y, f4_p0_o0_x10_y, f4_p0_o0_x57_y, f4_p0_o0_r0_1_y, f4_p0_o0_r0_2_y, f4_p0_o0_r0_3_y, f4_p0_o0_r1_1_y, f4_p0_o0_r1_2_y, f4_p0_o0_r1_3_y, f4_p0_o0_r2_0_y, f4_p0_o0_r2_1_y, f4_p0_o0_r2_2_y, f4_p0_o0_l0_y, f4_p0_o0_l1_y, cond_true]
theorem rplines (s L : List UInt8) (li cl : Int) (S : List (List UInt8)) (hs : s.length ≤ 900000) : ∀ (r pre t : List UInt8) (D : List Deed) (no k : Nat), s = pre ++ r → t.length + r.length ≤ 900000 → r.length + 1 ≤ k → 2 ≤ no → no ≤ pre.length + 2 → D.length ≤ 200 →
    (∃ t' no' D', iter f5_p3_st k (f5_p3_y s t (no : Int) (pre.length : Int) [] 0 0 S L li cl D) = some (.inl (f5_p3_o0_y t' ((no' : Nat) : Int) [] 0 0 S L li cl D')) ∧ 2 ≤ no' ∧ pl (glue t (splitC 10 r)) no D = (if t' = [] then .inr D' else .inl no')) ∨
    (∃ no' : Nat, iter f5_p3_st k (f5_p3_y s t (no : Int) (pre.length : Int) [] 0 0 S L li cl D) = some (.inr (f5_p3_o1_y (no' : Int) [] 0 0)) ∧ 2 ≤ no' ∧ pl (glue t (splitC 10 r)) no D = .inl no') := by
  intro r
  induction r with
  | nil =>
    intro pre t D no k hp ht hk hno hno2 hD
    obtain ⟨k, rfl⟩ : ∃ j, k = j + 1 := ⟨k - 1, by simp at hk; omega⟩
    refine .inl ⟨t, no, D, ?_, hno, ?_⟩
    · rw [iter, f5_p3_eq, hp, List.append_nil, lt_false, cond_false]
    · show pl [t ++ []] no D = _
      rw [List.append_nil, pl]
  | cons c r ih =>
    intro pre t D no k hp ht hk hno hno2 hD
    obtain ⟨k, rfl⟩ : ∃ j, k = j + 1 := ⟨k - 1, by omega⟩
    have hsl : s.length = pre.length + (r.length + 1) := by rw [hp]; simp
    have hnth : nth s (pre.length : Int) = some c := by rw [hp]; exact nth_pre pre c r
    have hp2 : s = (pre ++ [c]) ++ r := by rw [hp]; simp
    simp only [List.length_cons] at ht hk
    rw [iter, f5_p3_eq, show decide ((pre.length : Int) < (s.length : Int)) = true from by simp; omega, cond_true, f5_p2_eq, hnth, Option.bind_some]
    by_cases hc : c = 10
    · subst hc
      rw [show (((10 : UInt8).toNat : Int) != 10) = false from rfl, cond_false, f5_p1_eq, show ((no : Int) == 1) = false from by simp; omega, cond_false]
      have hpl : glue t (splitC 10 (10 :: r)) = t :: splitC 10 r := by rw [splitC, if_pos rfl, glue, List.append_nil]
      rw [hpl, pl_cons _ _ (splitC_ne r)]
      obtain ⟨d, e1, g1, g2, e2, e3⟩ := rdeed_eq t (by omega)
      rw [e1, Option.bind_some, f5_p0_eq, risdeed d.1 d.2.1 d.2.2 g1 g2, Option.bind_some]
      dsimp only
      cases hd : isDeed (d.1, (d.2.1, d.2.2)) with
      | false =>
        rw [Bool.not_false, cond_true, Option.bind_some]
        simp only [f5_p0_o0_x0_y, f5_p0_o0_x6_y, f5_p0_o0_x7_y, f5_p0_o0_x45_y, f5_p0_o0_r0_1_y, f5_p0_o0_r0_2_y, f5_p0_o0_r0_3_y, f5_p0_o0_r1_0_y, f5_p0_o0_r1_1_y, f5_p0_o0_r1_2_y, f5_p0_o0_r1_3_y, f5_p0_o0_r2_0_y, f5_p0_o0_r2_1_y, f5_p0_o0_r2_2_y, f5_p0_o0_l1_y, cond_true, Option.bind_some, f5_p1_o0_x3_y, f5_p1_o0_r0_1_y, f5_p1_o0_r0_2_y, f5_p1_o0_r0_3_y, f5_p2_o0_x3_y, f5_p2_o0_r0_1_y, f5_p2_o0_r0_2_y, f5_p2_o0_r0_3_y]
        refine .inr ⟨no, rfl, hno, ?_⟩
        cases hdd : dd t with
        | none => rfl
        | some d0 =>
          obtain ⟨q1, q2⟩ := dd_some hdd
          have := e3 d0 q1 q2.symm
          rw [← this] at q1
          rw [show (d.1, (d.2.1, d.2.2)) = d from rfl, q1] at hd; cases hd
      | true =>
        have hd' : isDeed d = true := hd
        have hl := e2 hd'
        rw [Bool.not_true, cond_false, Option.bind_some]
        simp only [f5_p0_o0_x0_y, f5_p0_o0_x6_y, f5_p0_o0_x7_y, f5_p0_o0_x45_y, f5_p0_o0_r0_1_y, f5_p0_o0_r0_2_y, f5_p0_o0_r0_3_y, f5_p0_o0_r1_0_y, f5_p0_o0_r1_1_y, f5_p0_o0_r1_2_y, f5_p0_o0_r1_3_y, f5_p0_o0_r2_0_y, f5_p0_o0_r2_1_y, f5_p0_o0_r2_2_y, f5_p0_o0_l1_y]
        have hdd : dd t = some d := by rw [← hl]; exact dd_of hd'
        rw [hdd]
        dsimp only
        by_cases h200 : D.length = 200
        · rw [show ((D.length : Int) == 200) = true from by rw [h200]; rfl, cond_true, if_pos h200]
          simp only [Option.bind_some, f5_p1_o0_x3_y, f5_p1_o0_r0_1_y, f5_p1_o0_r0_2_y, f5_p1_o0_r0_3_y, f5_p2_o0_x3_y, f5_p2_o0_r0_1_y, f5_p2_o0_r0_2_y, f5_p2_o0_r0_3_y]
          exact .inr ⟨no, rfl, hno, rfl⟩
        · rw [show ((D.length : Int) == 200) = false from by simp; omega, cond_false, appOk, if_pos (by simp; omega), if_neg h200]
          simp only [Option.bind_some, f5_p1_o1_x0_y, f5_p1_o1_x6_y, f5_p1_o1_x7_y, f5_p1_o1_r0_1_y, f5_p1_o1_r0_2_y, f5_p1_o1_r0_3_y, f5_p1_o1_r1_0_y, f5_p1_o1_r1_1_y, f5_p1_o1_r1_2_y, f5_p1_o1_r1_3_y, f5_p1_o1_l1_y, f5_p2_o1_x0_y, f5_p2_o1_x5_y, f5_p2_o1_x6_y, f5_p2_o1_x7_y, f5_p2_o1_r0_1_y, f5_p2_o1_r0_2_y, f5_p2_o1_r0_3_y, f5_p2_o1_r1_0_y, f5_p2_o1_r1_1_y, f5_p2_o1_r1_2_y, f5_p2_o1_r1_3_y, f5_p2_o1_l1_y]
          rw [inc no (by omega), inc pre.length (by omega), show ((pre.length + 1 : Nat) : Int) = ((pre ++ [(10 : UInt8)]).length : Int) from by simp]
          have := ih (pre ++ [10]) [] (D ++ [(d.1, (d.2.1, d.2.2))]) (no + 1) k hp2 (by simp; omega) (by omega) (by omega) (by simp; omega) (by simp; omega)
          rw [glue_nil _ (splitC_ne r)] at this
          exact this
    · have hcb : ((c.toNat : Int) != 10) = true := by
        simp only [bne_iff_ne, ne_eq]
        intro e
        exact hc (UInt8.toNat_inj.1 (by show c.toNat = 10; omega))
      rw [hcb, cond_true, inc pre.length (by omega), cutMid1 s pre.length (by omega), if_pos (by simp; omega), Option.bind_some]
      dsimp only
      simp only [f5_p2_o1_x0_y, f5_p2_o1_x5_y, f5_p2_o1_x6_y, f5_p2_o1_x7_y, f5_p2_o1_r0_1_y, f5_p2_o1_r0_2_y, f5_p2_o1_r0_3_y, f5_p2_o1_r1_0_y, f5_p2_o1_r1_1_y, f5_p2_o1_r1_2_y, f5_p2_o1_r1_3_y, f5_p2_o1_l1_y]
      have hget : s[pre.length]'(by omega) = c := by
        have : s[pre.length]? = some c := by rw [hp, List.getElem?_append_right (Nat.le_refl _)]; simp
        rw [List.getElem?_eq_getElem (by omega)] at this
        simpa using this
      rw [hget, inc pre.length (by omega), show ((pre.length + 1 : Nat) : Int) = ((pre ++ [c]).length : Int) from by simp, glue_snoc hc]
      exact ih (pre ++ [c]) (t ++ [c]) D no k hp2 (by simp; omega) (by omega) hno (by simp; omega) hD
theorem rfirst (s : List UInt8) (hs : s.length ≤ 900000) : ∀ (a pre t r : List UInt8) (k : Nat), s = pre ++ (a ++ r) → (10 : UInt8) ∉ a → t.length + a.length ≤ 900000 → a.length + 1 ≤ k →
    iter f5_p3_st k (f5_p3_y s t 1 (pre.length : Int) [] 0 0 [] [] 0 0 []) = iter f5_p3_st (k - a.length) (f5_p3_y s (t ++ a) 1 ((pre ++ a).length : Int) [] 0 0 [] [] 0 0 []) := by
  intro a
  induction a with
  | nil => intro pre t r k hp ha ht hk; simp
  | cons c a ih =>
    intro pre t r k hp ha ht hk
    obtain ⟨k, rfl⟩ : ∃ j, k = j + 1 := ⟨k - 1, by omega⟩
    have hsl : s.length = pre.length + (a.length + 1 + r.length) := by rw [hp]; simp; omega
    have hnth : nth s (pre.length : Int) = some c := by rw [hp]; exact nth_pre pre c (a ++ r)
    simp only [List.mem_cons, not_or] at ha
    simp only [List.length_cons] at ht hk
    have hcb : ((c.toNat : Int) != 10) = true := by
      simp only [bne_iff_ne, ne_eq]
      intro e
      exact ha.1 (UInt8.toNat_inj.1 (by show 10 = c.toNat; omega))
    have hget : s[pre.length]'(by omega) = c := by
      have : s[pre.length]? = some c := by rw [hp, List.getElem?_append_right (Nat.le_refl _)]; simp
      rw [List.getElem?_eq_getElem (by omega)] at this
      simpa using this
    rw [iter, f5_p3_eq, show decide ((pre.length : Int) < (s.length : Int)) = true from by simp; omega, cond_true, f5_p2_eq, hnth, Option.bind_some, hcb, cond_true, inc pre.length (by omega), cutMid1 s pre.length (by omega), if_pos (by simp; omega), Option.bind_some]
    dsimp only
    simp only [f5_p2_o1_x0_y, f5_p2_o1_x5_y, f5_p2_o1_x6_y, f5_p2_o1_x7_y, f5_p2_o1_r0_1_y, f5_p2_o1_r0_2_y, f5_p2_o1_r0_3_y, f5_p2_o1_r1_0_y, f5_p2_o1_r1_1_y, f5_p2_o1_r1_2_y, f5_p2_o1_r1_3_y, f5_p2_o1_l1_y]
    rw [hget, inc pre.length (by omega), show ((pre.length + 1 : Nat) : Int) = ((pre ++ [c]).length : Int) from by simp]
    rw [ih (pre ++ [c]) (t ++ [c]) r k (by rw [hp]; simp) ha.2 (by simp; omega) (by omega)]
    simp
theorem pl_small : ∀ (l : List (List UInt8)) (no : Nat) (D D' : List Deed), (∀ d ∈ D, isDeed d = true) → D.length ≤ 200 → pl l no D = .inr D' → (∀ d ∈ D', isDeed d = true) ∧ D'.length ≤ 200
  | [], no, D, D', h0, h1, h => by simp [pl] at h
  | [w], no, D, D', h0, h1, h => by
    simp only [pl] at h
    split at h
    · simp only [Sum.inr.injEq] at h; subst h; exact ⟨h0, h1⟩
    · cases h
  | w :: v :: ws, no, D, D', h0, h1, h => by
    rw [pl_cons _ _ (by simp)] at h
    split at h
    · rename_i d hd
      split at h
      · cases h
      · exact pl_small (v :: ws) _ _ D' (fun x hx => by
          rcases List.mem_append.1 hx with hx | hx
          · exact h0 x hx
          · simp only [List.mem_singleton] at hx; subst hx; exact (dd_some hd).1) (by simp; omega) h
    · cases h
theorem both (s : List UInt8) (hs : s.length ≤ 100000) :
    (∃ no : Nat, 1 ≤ no ∧ f4_F (s, ()) = some (([], ([], (0, (0, ([], ()))))), (250, ((no : Int), ()))) ∧ f5_F (s, ()) = some (([], ([], (0, (0, ([], ()))))), ((no : Int), ()))) ∨
    (∃ S L li cl D, f4_F (s, ()) = some ((S, (L, (li, (cl, (D, ()))))), (0, (0, ()))) ∧ f5_F (s, ()) = some ((S, (L, (li, (cl, (D, ()))))), (0, ())) ∧ right S L li cl D = true) := by
  rw [f4_eq, f5_eq, cutF_eq s (by omega), Option.bind_some]
  have hgo : ∀ (a r : List UInt8), s = a ++ r → (10 : UInt8) ∉ a → ∃ k, r.length + 1 ≤ k ∧ go f5_p3_st (f5_p3_y s [] 1 0 [] 0 0 [] [] 0 0 []) = iter f5_p3_st k (f5_p3_y s a 1 (a.length : Int) [] 0 0 [] [] 0 0 []) := fun a r hp ha => by
    have hl : s.length = a.length + r.length := by rw [hp]; simp
    have := rfirst s (by omega) a [] [] r (fuelOf f5_p3_sh (f5_p3_y s [] 1 0 [] 0 0 [] [] 0 0 [])) (by simpa using hp) ha (by simp; omega) (by rw [fuel_def]; omega)
    exact ⟨_, by rw [fuel_def]; omega, this⟩
  by_cases hc : (10 : UInt8) ∈ s
  · obtain ⟨a, b, hp, ha⟩ := mem_part hc
    have hsl : s.length = a.length + (b.length + 1) := by rw [hp]; simp
    obtain ⟨k, hk, hg⟩ := hgo a (10 :: b) hp ha
    rw [hg, show Lib.cut s [10] = (a, b, true) from by rw [hp]; exact cut_at ha]
    dsimp only
    simp only [List.length_cons] at hk
    obtain ⟨k, rfl⟩ : ∃ j, k = j + 1 := ⟨k - 1, by omega⟩
    have hnth : nth s (a.length : Int) = some 10 := by rw [hp]; exact nth_pre a 10 b
    rw [iter, f5_p3_eq, show decide ((a.length : Int) < (s.length : Int)) = true from by simp; omega, cond_true, f5_p2_eq, hnth, Option.bind_some, show (((10 : UInt8).toNat : Int) != 10) = false from rfl, cond_false, f5_p1_eq, show ((1 : Int) == 1) = true from rfl, cond_true]
    obtain ⟨S, L, li, cl, ok, e1, e2, e3⟩ := begin_eq a (by omega)
    obtain ⟨S', L', li', cl', r1, r2, r3, r4⟩ := rbegin_eq a (by omega)
    rw [e1, r1, Option.bind_some, Option.bind_some, f4_p2_eq, Bool.not_true, cond_false, Option.bind_some]
    simp only [h9_o_x0_1_y, h9_o_x0_2_y, h9_o_x0_3_y, h9_o_x1_y, h9_o_l0_y, f4_p2_o0_x6_y, f4_p2_o0_x29_y, f4_p2_o0_r0_1_y, f4_p2_o0_r0_2_y, f4_p2_o0_r0_3_y, f4_p2_o0_r1_1_y, f4_p2_o0_r1_2_y, f4_p2_o0_r1_3_y, f4_p2_o0_l0_y, h11_o_x0_1_y, h11_o_x0_2_y, h11_o_x0_3_y, h11_o_l0_y]
    rw [rbegins_eq S' L' li' cl' [] (by omega), Option.bind_some]
    dsimp only
    cases ok with
    | false =>
      have hb : begins S' L' li' cl' = false := by
        cases hb : begins S' L' li' cl' with
        | false => rfl
        | true =>
          have := (e3 S' L' li' cl' hb (r3 hb).symm).1
          cases this
      rw [hb]
      simp only [Bool.not_false, cond_true, Option.bind_some, f5_p1_o0_x3_y, f5_p1_o0_r0_1_y, f5_p1_o0_r0_2_y, f5_p1_o0_r0_3_y, f5_p2_o0_x3_y, f5_p2_o0_r0_1_y, f5_p2_o0_r0_2_y, f5_p2_o0_r0_3_y, f5_p3_o1_x3_y, f5_p3_o1_r0_1_y, f5_p3_o1_r0_2_y, f5_p3_o1_r0_3_y]
      exact .inl ⟨1, Nat.le_refl _, rfl, rfl⟩
    | true =>
      obtain ⟨g1, g2⟩ := e2 rfl
      obtain ⟨rfl, rfl, rfl, rfl⟩ := r4 S L li cl g1 g2.symm
      rw [g1]
      simp only [Bool.not_true, cond_false, Option.bind_some, f5_p1_o1_x0_y, f5_p1_o1_x6_y, f5_p1_o1_x7_y, f5_p1_o1_r0_1_y, f5_p1_o1_r0_2_y, f5_p1_o1_r0_3_y, f5_p1_o1_r1_0_y, f5_p1_o1_r1_1_y, f5_p1_o1_r1_2_y, f5_p1_o1_r1_3_y, f5_p1_o1_l1_y, f5_p2_o1_x0_y, f5_p2_o1_x5_y, f5_p2_o1_x6_y, f5_p2_o1_x7_y, f5_p2_o1_r0_1_y, f5_p2_o1_r0_2_y, f5_p2_o1_r0_3_y, f5_p2_o1_r1_0_y, f5_p2_o1_r1_1_y, f5_p2_o1_r1_2_y, f5_p2_o1_r1_3_y, f5_p2_o1_l1_y]
      rw [show IntKind.i64.wrap ((1 : Int) + 1) = ((2 : Nat) : Int) from by decide, inc a.length (by omega), show ((a.length + 1 : Nat) : Int) = ((a ++ [(10 : UInt8)]).length : Int) from by simp]
      have p1 := plines L' li' cl' S' 201 b [] 2 (fuelOf f4_p1_sh (f4_p1_y b ((2 : Nat) : Int) [] 0 0 L' li' cl' S' [])) (by simp) (by rw [fuel_def]; omega) (by omega) (by simp) (by omega)
      have p2 := rplines s L' li' cl' S' (by omega) b (a ++ [10]) [] [] 2 k (by rw [hp]; simp) (by simp; omega) (by omega) (by omega) (by simp) (by simp)
      rw [glue_nil _ (splitC_ne b)] at p2
      have e0 : go f4_p1_st (f4_p1_y b (2 : Int) ([] : List UInt8) (0 : Int) (0 : Int) L' li' cl' S' ([] : List Deed)) = _ := p1
      rw [e0, Option.bind_some]
      rcases p2 with ⟨t', no', D', q1, q2, q3⟩ | ⟨no', q1, q2, q3⟩
      · rw [q1, Option.bind_some, q3]
        dsimp only
        simp only [f5_p3_o0_x5_y, f5_p3_o0_x6_y, f5_p3_o0_r0_1_y, f5_p3_o0_r0_2_y, f5_p3_o0_r0_3_y, f5_p3_o0_r1_0_y, f5_p3_o0_r1_1_y, f5_p3_o0_r1_2_y, f5_p3_o0_r1_3_y, f5_p3_o0_l1_y]
        rw [f5_p4_eq]
        by_cases ht : t' = []
        · subst ht
          rw [if_pos rfl] at q3 ⊢
          dsimp only
          simp only [f4_p1_o0_r0_1_y, f4_p1_o0_r0_2_y, f4_p1_o0_r0_3_y, f4_p1_o0_r1_1_y, f4_p1_o0_r1_2_y, f4_p1_o0_r1_3_y, f4_p1_o0_l0_y, f4_p1_o0_l1_y]
          rw [show (([] : List UInt8) != []) = false from rfl, cond_false, Option.bind_some]
          simp only [f5_p4_o0_x6_y, f5_p4_o0_x61_y, f5_p4_o0_r0_1_y, f5_p4_o0_r0_2_y, f5_p4_o0_r0_3_y, f5_p4_o0_r1_0_y, f5_p4_o0_r1_1_y, f5_p4_o0_r1_2_y, f5_p4_o0_r1_3_y, f5_p4_o0_l1_y]
          rw [show ((no' : Int) == 1) = false from by simp; omega, cond_false]
          obtain ⟨k1, k2⟩ := pl_small _ _ _ _ (by simp) (by simp) q3
          refine .inr ⟨S', L', li', cl', D', rfl, rfl, ?_⟩
          unfold right
          rw [g1]
          simp only [Bool.true_and, Bool.and_eq_true, decide_eq_true_eq, List.all_eq_true]
          exact ⟨by omega, k1⟩
        · rw [if_neg ht]
          dsimp only
          simp only [f4_p1_o1_x3_y, f4_p1_o1_x4_y, f4_p1_o1_r0_1_y, f4_p1_o1_r0_2_y, f4_p1_o1_r0_3_y]
          rw [show (t' != []) = true from by simpa using ht, cond_true, Option.bind_some]
          simp only [f5_p4_o0_x6_y, f5_p4_o0_x61_y, f5_p4_o0_r0_1_y, f5_p4_o0_r0_2_y, f5_p4_o0_r0_3_y, f5_p4_o0_r1_0_y, f5_p4_o0_r1_1_y, f5_p4_o0_r1_2_y, f5_p4_o0_r1_3_y, f5_p4_o0_l1_y, cond_true]
          exact .inl ⟨no', by omega, rfl, rfl⟩
      · rw [q1, Option.bind_some, q3]
        dsimp only
        simp only [f4_p1_o1_x3_y, f4_p1_o1_x4_y, f4_p1_o1_r0_1_y, f4_p1_o1_r0_2_y, f4_p1_o1_r0_3_y, f5_p3_o1_x3_y, f5_p3_o1_r0_1_y, f5_p3_o1_r0_2_y, f5_p3_o1_r0_3_y]
        exact .inl ⟨no', by omega, rfl, rfl⟩
  · obtain ⟨k, hk, hg⟩ := hgo s [] (by simp) hc
    rw [hg, cut_none hc]
    dsimp only
    obtain ⟨k, rfl⟩ : ∃ j, k = j + 1 := ⟨k - 1, by simp at hk; omega⟩
    obtain ⟨S, L, li, cl, ok, e1, e2, e3⟩ := begin_eq s (by omega)
    rw [e1, Option.bind_some, f4_p2_eq, Bool.not_false, cond_true, Option.bind_some, iter, f5_p3_eq, lt_false, cond_false, Option.bind_some]
    dsimp only
    simp only [h9_o_x0_1_y, h9_o_x0_2_y, h9_o_x0_3_y, h9_o_x1_y, h9_o_l0_y, f4_p2_o0_x6_y, f4_p2_o0_x29_y, f4_p2_o0_r0_1_y, f4_p2_o0_r0_2_y, f4_p2_o0_r0_3_y, f4_p2_o0_r1_1_y, f4_p2_o0_r1_2_y, f4_p2_o0_r1_3_y, f4_p2_o0_l0_y, f5_p3_o0_x5_y, f5_p3_o0_x6_y, f5_p3_o0_r0_1_y, f5_p3_o0_r0_2_y, f5_p3_o0_r0_3_y, f5_p3_o0_r1_0_y, f5_p3_o0_r1_1_y, f5_p3_o0_r1_2_y, f5_p3_o0_r1_3_y, f5_p3_o0_l1_y, cond_true]
    rw [f5_p4_eq]
    refine .inl ⟨1, Nat.le_refl _, rfl, ?_⟩
    by_cases h0 : s = []
    · subst h0
      rw [show (([] : List UInt8) != []) = false from rfl, cond_false, Option.bind_some]
      simp only [f5_p4_o0_x6_y, f5_p4_o0_x61_y, f5_p4_o0_r0_1_y, f5_p4_o0_r0_2_y, f5_p4_o0_r0_3_y, f5_p4_o0_r1_0_y, f5_p4_o0_r1_1_y, f5_p4_o0_r1_2_y, f5_p4_o0_r1_3_y, f5_p4_o0_l1_y]
      rfl
    · rw [show (s != []) = true from by simpa using h0, cond_true, Option.bind_some]
      simp only [f5_p4_o0_x6_y, f5_p4_o0_x61_y, f5_p4_o0_r0_1_y, f5_p4_o0_r0_2_y, f5_p4_o0_r0_3_y, f5_p4_o0_r1_0_y, f5_p4_o0_r1_1_y, f5_p4_o0_r1_2_y, f5_p4_o0_r1_3_y, f5_p4_o0_l1_y, cond_true]
      rfl
theorem lawReads (s0 : List UInt8) : f3_F (s0, ()) = some (true, ()) := by
  rw [f3_eq, show (12000 : Int) = ((12000 : Nat) : Int) from rfl, min_take]
  have hs : (s0.take 12000).length ≤ 100000 := by simp; omega
  generalize s0.take 12000 = s at hs ⊢
  rcases both s hs with ⟨no, h0, h1, h2⟩ | ⟨S, L, li, cl, D, h1, h2, h3⟩
  · rw [h1, h2, Option.bind_some, Option.bind_some]
    dsimp only
    rw [show decide ((no : Int) > 0) = true from by simp; omega, cond_true, alive_eq, Option.bind_some]
    dsimp only
    rw [cond_true, show ((250 : Int) == 250) = true from rfl, cond_true, show ((no : Int) == (no : Int)) = true from by simp, cond_true]
    have := like_refl [] [] 0 0 [] (by decide) ⟨by decide, by simp⟩
    rw [this, Option.bind_some]
  · rw [h1, h2, Option.bind_some, Option.bind_some]
    dsimp only
    obtain ⟨k1, k2⟩ := right_small h3
    rw [show decide ((0 : Int) > 0) = false from rfl, cond_false, alive_eq, Option.bind_some]
    dsimp only
    rw [cond_true, show ((0 : Int) == 0) = true from rfl, cond_true, cond_true, like_refl S L li cl D k1 k2, Option.bind_some]
end Go.Pe.Tryz
end
section
set_option linter.unusedSectionVars false
set_option linter.unusedVariables false
set_option linter.unusedSimpArgs false
namespace Go.Pe.Tryz
open Go.Proofs Go.RowKit
variable {H : Type} {enc : TypeId × Value → H}
theorem returns_both {a : Assume} {C : Checked} {os : Os} {f : FuncId} {fn : Func} {s : ChangeSpec} {conds : List PathCond} {apart fresh handsOn again : Bool} {X : World → Array Value → Prop}
    (hX : ∀ (w w' : World) (args : Array Value), w.heap = w'.heap → X w args → X w' args)
    (own : ownKnob C.prog.godebug = none) (started : os.Started) (noInit : C.prog.inits.idxOf? f = none) (hfn : C.prog.funcs[f]? = some fn)
    (witness : ∃ (w : World) (tape : Tape) (i : Input), w.os = os ∧ (w.forCall tape i).Shaped C.prog ∧ i.vars = [] ∧ Input.okWide C.prog (w.forCall tape i) .any w.heap.size f i ∧
      ((s.pre enc C.prog fn conds apart (w.forCall tape i).memory i.args ∧ X (w.forCall tape i).memory i.args) ∧ sizedMet enc C.prog fn (OpenSpec.ofChange s) apart (w.forCall tape i).memory i.args) ∧ a.holds C.prog (lone (Frame.enter C.prog f i.args .normal) [] (w.forCall tape i)))
    (contract : ∀ (W : World) (base : Nat) (args : Array Value) (ds gs : List (DataW H)) (before : List MemPlace),
      (∀ (j : Nat) t v, fn.params[j]? = some t → args[j]? = some v → Value.okWide C.prog W .any base t v) →
      DataW.Whole enc C.prog fn.params.toList s.vars apart W args.toList ds gs before →
      conds.all (PathCond.test C.prog ⟨fn.params.toList, ds, s.plain.varTypes C.prog, gs⟩) = true →
      (DataW.weightsEach C.prog (fn.params.toList ++ s.plain.varTypes C.prog) (ds ++ gs)).all (· ≤ reachBytes) = true → X W args → W.ShapedOpen C.prog →
      a.holds C.prog (lone (Frame.enter C.prog f args .normal) [] W) →
      Calls C.prog f args W fun e W' => ∃ v, e = .returned v ∧ s.post enc C.prog fn apart fresh handsOn again W args v W') :
    ReturnsInHanded a C os f .any (fun w args => (s.pre enc C.prog fn conds apart w args ∧ X w args) ∧ sizedMet enc C.prog fn (OpenSpec.ofChange s) apart w args) (s.post enc C.prog fn apart fresh handsOn again) := by
  refine returnsInHanded_of_calls own started noInit witness ?_
  intro w tape i _ hsh _ hok hpre hholds
  obtain ⟨_, _, _, fn', hfn', _, _, _, _, hval⟩ := hok
  have e : fn' = fn := Option.some.inj (hfn'.symm.trans hfn)
  subst e
  obtain ⟨⟨⟨ds, gs, before, hw, hc⟩, hx⟩, hz⟩ := hpre
  have hw' := DataW.Whole.of_heap (w' := w.forCall tape i) (by rfl) hw
  refine (contract (w.forCall tape i) w.heap.size i.args ds gs before hval hw' hc (hz.weights hw) (hX _ _ _ (by rfl) hx) hsh hholds).mono fun e W' ⟨v, he, hp⟩ => ?_
  subst he
  exact ChangeSpec.post_blind hp
theorem tab_of_reads {w : World} (h : Lib.VarReads Tryz.prog w "internal/strconv.uint64pow10" (Lib.tabData .u64 Lib.pow10Tab)) : Lib.TabIs Tryz.prog w "internal/strconv.uint64pow10" .u64 Lib.pow10Tab := by
  obtain ⟨g', t', cs, fuel, p, hg', ht', hvar, hd⟩ := h
  obtain rfl := Option.some.inj ((show Tryz.prog.globalNamed "internal/strconv.uint64pow10" = some 5 by kernel_rfl).symm.trans hg')
  obtain rfl := Option.some.inj ((show (Tryz.prog.globals[5]?).map (·.type) = some 134 by kernel_rfl).symm.trans ht')
  unfold Lib.TabIs
  rw [hvar, ← Lib.cells_of_tab (n := 20) (e := 111) (show Tryz.prog.underlying 134 = some (.array 20 111) by kernel_rfl) (show Tryz.prog.underlying 111 = some (.int .u64) by kernel_rfl) (by kernel_rfl) (by kernel_rfl) hd]
theorem trod_ifc {P : Program} {w : World} {enc : TypeId × Value → Unit} {sp : Nat → Bool} {t : TypeId} {ms : Array (String × TypeId)} (hi : P.underlying t = some (.interface ms)) {d : DataW Unit} {p : List MemPlace} : ∀ {fuel : Nat} {cs : List Value}, DataW.trod enc P w 0 sp false fuel t cs = some (d, p) → ∃ v, cs = [v] ∧ (v = .nilIface ∨ ∃ te pe, v = .iface te pe)
  | 0, _, h => by simp [DataW.trod] at h
  | fuel + 1, [], h => by simp [DataW.trod, hi] at h
  | fuel + 1, [v], h => by cases v <;> simp [DataW.trod, hi] at h ⊢
  | fuel + 1, v :: v' :: r, h => by simp [DataW.trod, hi] at h
theorem ifc_of_reads {w : World} {n : String} {g : Nat} {d : DataW Unit} (hg : Tryz.prog.globalNamed n = some g) (ht : (Tryz.prog.globals[g]?).map (·.type) = some 71) (h : Lib.VarReads Tryz.prog w n d) : IfcAt w g := by
  obtain ⟨g', t', cs, fuel, p, hg', ht', hvar, hd⟩ := h
  obtain rfl := Option.some.inj (hg.symm.trans hg')
  obtain rfl := Option.some.inj (ht.symm.trans ht')
  obtain ⟨v, hv, hk⟩ := trod_ifc Tryz.underlying71 hd
  have h0 := World.var?_cell hg hvar 0
  have e : cs = #[v] := Array.ext' (by simpa using hv)
  subst e
  exact ⟨v, by simpa using h0, hk⟩
theorem inv_of {w : World} {l : List (String × DataW Unit)} {d1 d2 : DataW Unit} (hn : (l.all fun x => x.2.handleName?.isNone) = true) (hL : laidMetH Tryz.prog l w) (hm : ("internal/strconv.uint64pow10", (Lib.tabData .u64 Lib.pow10Tab : DataW Unit)) ∈ l)
    (h1 : ("strconv.ErrSyntax", d1) ∈ l) (h2 : ("strconv.ErrRange", d2) ∈ l) (hs : w.ShapedOpen Tryz.prog) : Inv w := by
  rw [MakeChecks.laidMetH_plain _ _ _ hn] at hL
  exact ⟨cell_of_shapedOpen_int (P := Tryz.prog) (g := 0) (t := 3) (zero := #[.int .i64 0]) hs (of_decide_eq_true (by kernel_rfl)) (by kernel_rfl) rfl (by kernel_rfl) (by kernel_rfl) (by kernel_rfl), tab_of_reads (Lib.laidMet.reads hL hm),
    ifc_of_reads (by kernel_rfl) (by kernel_rfl) (Lib.laidMet.reads hL h1), ifc_of_reads (by kernel_rfl) (by kernel_rfl) (Lib.laidMet.reads hL h2)⟩
end Go.Pe.Tryz
end
section
namespace Go.Pe
open Go.RowKit Go.ChangeShapes
def All (w : World) (b : Nat) : Prop := b < w.heap.size
theorem cell_lt {w : World} {a : Addr} {v : Value} (h : w.cell? a = some v) : a.block < w.heap.size ∧ a.spot = none := by
  unfold World.cell? at h
  split at h
  · rename_i c el t hb
    refine ⟨(Array.getElem?_eq_some_iff.1 hb).1, ?_⟩
    split at h
    · cases h
    · rename_i hs; simpa using hs
  · cases h
theorem add_spot {a : Addr} (h : a.spot = none) (n : Nat) : a.add n = ⟨a.block, a.off + n, none⟩ := by
  unfold Addr.add
  split
  · rename_i e; subst e; cases a; simp_all
  · rfl
theorem decTys_enc : ∀ (ts : List Ty) (x : tysDen ts), decTys ts (encTys ts x) = some x
  | [], _ => rfl
  | t :: ts, x => by simp only [encTys, decTys, asTy, dite_true, Option.bind_some, decTys_enc ts x.2]
theorem KD.dec_enc : ∀ (k : KD) (x : k.den), k.dec (k.enc x) = some x
  | .one t, x => by simp only [KD.enc, KD.dec, asTy, dite_true]
  | .agg ts, x => by simp only [KD.enc, KD.dec, decTys_enc]
theorem decArgs_enc : ∀ (ks : List KD) (x : argsDen ks), decArgs ks (encArgs ks x) = some x
  | [], _ => rfl
  | k :: ks, x => by simp only [encArgs, decArgs, KD.dec_enc, Option.bind_some, decArgs_enc ks x.2]
theorem law_walk [GI] {P : Program} {f : Nat} {ps : List KD} {F : argsDen ps → Option (argsDen [.one .bool])} (h : Sound P f (pfun F)) (y : argsDen ps) (hF : F y = some (true, ())) {w : World} {vs : List Value} (hgi : GI.inv w)
    (hrep : RepAVs (c0 (All w) w) (encArgs ps y) vs) : Calls P f vs.toArray w fun e w' => e = .returned (.bool true) ∧ Below w.heap.size w w' := by
  obtain ⟨av, hK, _, hc⟩ := h.2 AV (encArgs ps y) some (.d .bool true) (by simp only [pfun, decArgs_enc, Option.bind_some, hF]; rfl) (All w) w vs (fun b hb => hb) hgi (encArgs_closed ps y) hrep
  cases hK
  refine hc.mono fun e w' ⟨v, he, hb, hr⟩ => ?_
  simp only [RepAV, Rep, List.cons.injEq, and_true] at hr
  subst hr
  exact ⟨he, hb⟩
end Go.Pe
end
section
namespace Go.Pe
open Go.RowKit Go.ChangeShapes Go.WideShapes
set_option linter.unusedSectionVars false
variable [GI]

inductive WfV (N : Nat) : V → Prop
  | mk (kind n : Int) (s : List UInt8) (items : List V) (keys : List (List UInt8)) (hk : (Lit.int .i64 kind).wf = true) (hn : (Lit.int .i64 n).wf = true) (hs : s.length ≤ N) (hi : items.length ≤ N) (hks : keys.length ≤ N)
      (hit : ∀ i (h : i < items.length), WfV N items[i]) (hkl : ∀ k ∈ keys, k.length ≤ N) : WfV N (.mk kind n s items keys)
def Wf (N : Nat) : (t : Ty) → t.den → Prop
  | .bool, _ => True
  | .int k, n => (Lit.int k n).wf = true
  | .str, s => s.length ≤ N
  | .list e, xs => xs.length ≤ N ∧ ∀ x ∈ xs, Wf N e x
  | .unit, _ => True
  | .prod a b, x => Wf N a x.1 ∧ Wf N b x.2
  | .value, x => WfV N x

def layTys (P : Program) (f : Nat → Option Ty) (total : Nat) : Nat → List (Nat × Nat) → Option Ty
  | off, [] => if off = total then some .unit else none
  | off, [(t, o)] => if o = off ∧ off + P.cellsOf t = total then (f t).bind fun a => if a.size = P.cellsOf t then some a else none else none
  | off, (t, o) :: r => if o = off then (f t).bind fun a => if a.size = P.cellsOf t then (layTys P f total (off + P.cellsOf t) r).bind fun b => some (.prod a b) else none else none
def isInt64 (P : Program) (t : Nat) : Bool := match P.underlying t with | some (.int .i64) => true | _ => false
def isString (P : Program) (t : Nat) : Bool := match P.underlying t with | some .string => true | _ => false
def sliceEl (P : Program) (t : Nat) : Option Nat := match P.underlying t with | some (.slice e) => some e | _ => none
def vtOk (P : Program) (vt : Nat) : Bool :=
  match P.underlying vt with
  | some (.struct fs) => (match fs.toList.map fun f => (f.type, f.offset) with
    | [(t1, 0), (t2, 1), (t3, 2), (t4, 3), (t5, 4)] => isInt64 P t1 && isInt64 P t2 && isString P t3 && (match sliceEl P t4 with | some e => Nat.beq e vt | none => false) && (match sliceEl P t5 with | some e => isString P e && Nat.beq (P.cellsOf e) 1 && Nat.ble 1 (P.bytesOf e) | none => false) &&
      Nat.beq (P.cellsOf t1) 1 && Nat.beq (P.cellsOf t2) 1 && Nat.beq (P.cellsOf t3) 1 && Nat.beq (P.cellsOf t4) 1 && Nat.beq (P.cellsOf t5) 1 && Nat.beq (P.cellsOf vt) 5 && Nat.ble 1 (P.bytesOf vt)
    | _ => false)
  | _ => false
def lay (P : Program) (vt : Nat) : Nat → Nat → Option Ty
  | 0, _ => none
  | n + 1, t => if t = vt then (if vtOk P vt = true then some .value else none) else match P.underlying t with
    | some .bool => some .bool
    | some (.int k) => some (.int k)
    | some .string => some .str
    | some (.slice e) => if 1 ≤ P.bytesOf e ∧ 1 ≤ P.cellsOf e then (lay P vt n e).bind fun ty => if ty.size = P.cellsOf e then some (.list ty) else none else none
    | some (.struct fs) => layTys P (lay P vt n) (P.cellsOf t) 0 (fs.toList.map fun f => (f.type, f.offset))
    | _ => none

section
variable {H : Type} {enc : TypeId × Value → H} {P : Program} {w : World} {base : Nat} {spare : Nat → Bool} {held : Bool} {N vt : Nat}

theorem rows_of {α : Type} {R : α → List Value → Prop} {W : α → Prop} {sz blk : Nat} : ∀ (len off : Nat), (∀ i, i < len → ∃ x c, R x c ∧ W x ∧ c.length = sz ∧ ∀ j, j < sz → w.cell? ⟨blk, off + i * sz + j, none⟩ = c[j]?) →
    ∃ (xs : List α) (us : List Value), xs.length = len ∧ (∀ x ∈ xs, W x) ∧ us.length = len * sz ∧ CellsAt w ⟨blk, off, none⟩ us ∧ RepAll R xs us
  | 0, off, _ => ⟨[], [], rfl, by simp, by simp, fun j hj => by simp at hj, rfl⟩
  | len + 1, off, h => by
    obtain ⟨x, c, h1, h2, h3, h4⟩ := h 0 (by omega)
    obtain ⟨xs, us, g1, g2, g3, g4, g5⟩ := rows_of len (off + sz) fun i hi => by
      obtain ⟨x, c, h1, h2, h3, h4⟩ := h (i + 1) (by omega)
      refine ⟨x, c, h1, h2, h3, fun j hj => ?_⟩
      rw [← h4 j hj, show off + sz + i * sz + j = off + (i + 1) * sz + j by rw [Nat.succ_mul]; omega]
    refine ⟨x :: xs, c ++ us, by simp [g1], by simpa using ⟨h2, g2⟩, by simp [g3, h3, Nat.succ_mul]; omega, fun j hj => ?_, c, us, rfl, h1, g5⟩
    simp only [List.length_append] at hj
    rcases Nat.lt_or_ge j sz with hl | hl
    · rw [List.getElem?_append_left (by omega), ← h4 j hl]; simp
    · rw [List.getElem?_append_right (by omega)]
      have := g4 (j - c.length) (by omega)
      simp only at this
      rw [← this, show off + sz + (j - c.length) = off + j by omega]

theorem slice_rep {ty : Ty} {e t fuel : Nat} {cs : List Value} {d : DataW H} {ps : List MemPlace} (ht : P.underlying t = some (.slice e)) (hb : 1 ≤ P.bytesOf e) (hc : 1 ≤ P.cellsOf e) (hsz : ty.size = P.cellsOf e)
    (ih : ∀ m, m < fuel → ∀ (cs : List Value) (d : DataW H) (ps : List MemPlace), DataW.trod enc P w base spare held m e cs = some (d, ps) → (∀ m ∈ d.weights P e, m ≤ N) → ∃ x, Rep (All w) w ty x cs ∧ Wf N ty x)
    (h : DataW.trod enc P w base spare held fuel t cs = some (d, ps)) (hw : ∀ m ∈ d.weights P t, m ≤ N) : ∃ x, Rep (All w) w (.list ty) x cs ∧ Wf N (.list ty) x := by
  rcases DataW.trod_slice ht h with ⟨rfl, hx⟩ | ⟨a, len, cap, elems, rest, n, hf, rfl, hx, _, hlc, _, hel, hat, _, _⟩
  · exact ⟨[], ⟨_, rfl, none, 0, rfl, Nat.le_refl _, .inl rfl⟩, by simp [Wf]⟩
  · have hd : d = .slice (elems.map (·.1)) (rest.map (·.1)) := congrArg Prod.fst hx
    subst hd
    simp only [DataW.weights, ht, List.mem_cons, List.mem_append] at hw
    have hlen : len ≤ N := by
      have := hw _ (.inl rfl)
      have h2 : len * 1 ≤ (elems.length + rest.length) * P.bytesOf e := Nat.mul_le_mul (by omega) hb
      simp only [List.length_map] at this
      omega
    have key : ∀ i, i < len → ∃ x c, Rep (All w) w ty x c ∧ Wf N ty x ∧ c.length = P.cellsOf e ∧ ∀ j, j < P.cellsOf e → w.cell? ((a.add (i * P.cellsOf e)).add j) = c[j]? := by
      intro i hi
      have h1 := hat i hi
      rw [List.getElem?_eq_getElem (by omega), Option.bind_eq_some_iff] at h1
      obtain ⟨c, hc1, hc2⟩ := h1
      obtain ⟨_, hc3, hc4⟩ := World.cells?_some hc1
      obtain ⟨x, hx1, hx2⟩ := ih n (by omega) c (elems[i]).1 (elems[i]).2 hc2 fun m hm => hw m (.inr (.inl (by
        have : ∀ (l : List (DataW H)) (d : DataW H), d ∈ l → m ∈ d.weights P e → m ∈ DataW.weightsAll P e l := by
          intro l; induction l with
          | nil => intro d hd; simp at hd
          | cons y l ih => intro d hd hm; simp only [DataW.weightsAll, List.mem_append]; exact (List.mem_cons.1 hd).elim (fun e => .inl (e ▸ hm)) (fun hd => .inr (ih d hd hm))
        exact this _ _ (List.mem_map_of_mem (List.getElem_mem (l := elems) (by omega))) hm)))
      exact ⟨x, c, hx1, hx2, hc3, hc4⟩
    rcases Nat.eq_zero_or_pos len with h0 | h0
    · subst h0
      exact ⟨[], ⟨_, rfl, some a, cap, rfl, by simp, .inl rfl⟩, by simp [Wf]⟩
    · obtain ⟨x, c, _, _, hcl, hcc⟩ := key 0 h0
      have h00 := hcc 0 (by omega)
      rw [List.getElem?_eq_getElem (by omega)] at h00
      have ha : a.block < w.heap.size ∧ a.spot = none := by
        have h1 : (a.add (0 * P.cellsOf e)).add 0 = a := by simp [Addr.add]
        rw [h1] at h00
        exact cell_lt h00
      obtain ⟨xs, us, g1, g2, g3, g4, g5⟩ := rows_of (w := w) (R := Rep (All w) w ty) (W := Wf N ty) (sz := P.cellsOf e) (blk := a.block) len a.off fun i hi => by
        obtain ⟨x, c, h1, h2, h3, h4⟩ := key i hi
        refine ⟨x, c, h1, h2, h3, fun j hj => ?_⟩
        rw [← h4 j hj, add_spot ha.2, add_spot rfl]
      refine ⟨xs, ⟨_, rfl, some a, cap, by rw [g1], by omega, .inr ⟨a, us, rfl, ha.2, ha.1, ?_, g5⟩⟩, ?_⟩
      · intro j hj
        exact g4 j hj
      · simp only [Wf]; exact ⟨by omega, g2⟩

theorem mem_each : ∀ {ts : List TypeId} {ds : List (DataW H)} {t d} {m : Nat}, m ∈ DataW.weights P t d → m ∈ DataW.weightsEach P (t :: ts) (d :: ds) := by
  intro ts ds t d m h
  simp only [DataW.weightsEach, List.mem_append]; exact .inl h
theorem mem_each' : ∀ {ts : List TypeId} {ds : List (DataW H)} {t d} {m : Nat}, m ∈ DataW.weightsEach P ts ds → m ∈ DataW.weightsEach P (t :: ts) (d :: ds) := by
  intro ts ds t d m h
  simp only [DataW.weightsEach, List.mem_append]; exact .inr h

theorem fields_rep {f : Nat → Option Ty} {fuel total : Nat} {cs : List Value} (hlen : cs.length = total)
    (ih : ∀ t ty (cs : List Value) (d : DataW H) (ps : List MemPlace), f t = some ty → DataW.trod enc P w base spare held fuel t cs = some (d, ps) → (∀ m ∈ d.weights P t, m ≤ N) → ∃ x, Rep (All w) w ty x cs ∧ Wf N ty x) :
    ∀ (fs : List Field) (off : Nat) (ty : Ty) (xs : List (DataW H × List MemPlace)), layTys P f total off (fs.map fun f => (f.type, f.offset)) = some ty →
      (fs.mapM fun f => DataW.trod enc P w base spare held fuel f.type ((cs.drop f.offset).take (P.cellsOf f.type))) = some xs →
      (∀ m ∈ DataW.weightsEach P (fs.map (·.type)) (xs.map (·.1)), m ≤ N) → ∃ x, Rep (All w) w ty x (cs.drop off) ∧ Wf N ty x
  | [], off, ty, xs, hl, hm, hw => by
    simp only [List.map_nil, layTys] at hl
    split at hl
    · rename_i ho; cases hl
      exact ⟨(), by simp only [Rep]; exact List.drop_of_length_le (by omega), trivial⟩
    · cases hl
  | [fd], off, ty, xs, hl, hm, hw => by
    simp only [List.map_cons, List.map_nil, layTys] at hl
    split at hl
    · rename_i ho
      simp only [Option.bind_eq_some_iff] at hl
      obtain ⟨a, ha, hl⟩ := hl
      split at hl
      · rename_i hs; cases hl
        simp only [List.mapM_cons, List.mapM_nil, Option.pure_def, Option.bind_eq_bind, Option.bind_eq_some_iff, Option.some.injEq] at hm
        obtain ⟨y, hy, ys, rfl, rfl⟩ := hm
        obtain ⟨x, h1, h2⟩ := ih fd.type _ _ y.1 y.2 ha hy fun m hm => hw m (by simpa [DataW.weightsEach] using hm)
        refine ⟨x, ?_, h2⟩
        rw [ho.1] at h1
        rwa [List.take_of_length_le (by rw [List.length_drop]; omega)] at h1
      · cases hl
    · cases hl
  | fd :: fd2 :: fs, off, ty, xs, hl, hm, hw => by
    simp only [List.map_cons, layTys] at hl
    split at hl
    · rename_i ho
      simp only [Option.bind_eq_some_iff] at hl
      obtain ⟨a, ha, hl⟩ := hl
      split at hl
      · rename_i hs
        simp only [Option.bind_eq_some_iff, Option.some.injEq] at hl
        obtain ⟨b, hb, rfl⟩ := hl
        rw [List.mapM_cons] at hm
        simp only [Option.pure_def, Option.bind_eq_bind, Option.bind_eq_some_iff, Option.some.injEq] at hm
        obtain ⟨y, hy, ys, hys, rfl⟩ := hm
        obtain ⟨x, h1, h2⟩ := ih fd.type _ _ y.1 y.2 ha hy fun m hm => hw m (by simp only [List.map_cons]; exact mem_each hm)
        obtain ⟨x', h3, h4⟩ := fields_rep hlen ih (fd2 :: fs) (off + P.cellsOf fd.type) b ys (by simpa only [List.map_cons] using hb) hys fun m hm => hw m (by simp only [List.map_cons] at hm ⊢; exact mem_each' hm)
        refine ⟨(x, x'), ⟨_, _, ?_, h1, h3⟩, h2, h4⟩
        rw [ho, ← List.drop_drop, List.take_append_drop]
      · cases hl
    · cases hl

theorem trod_bool {t fuel : Nat} {cs : List Value} {d : DataW H} {ps} (ht : P.underlying t = some .bool) (h : DataW.trod enc P w base spare held fuel t cs = some (d, ps)) : ∃ b, cs = [.bool b] := by
  cases fuel with
  | zero => simp [DataW.trod] at h
  | succ n => unfold DataW.trod at h; rw [ht] at h; split at h <;> simp_all
theorem trod_int {t fuel : Nat} {cs : List Value} {d : DataW H} {ps} {k} (ht : P.underlying t = some (.int k)) (h : DataW.trod enc P w base spare held fuel t cs = some (d, ps)) : ∃ n, cs = [.int k n] ∧ (Lit.int k n).wf = true := by
  cases fuel with
  | zero => simp [DataW.trod] at h
  | succ n => unfold DataW.trod at h; rw [ht] at h; split at h <;> simp_all
theorem trod_str {t fuel : Nat} {cs : List Value} {d : DataW H} {ps} (ht : P.underlying t = some .string) (h : DataW.trod enc P w base spare held fuel t cs = some (d, ps)) : ∃ s : ByteArray, cs = [.string s] ∧ d = .lit (.string s.data.toList) := by
  cases fuel with
  | zero => simp [DataW.trod] at h
  | succ n => unfold DataW.trod at h; rw [ht] at h; split at h <;> simp_all
theorem trod_struct {t fuel : Nat} {cs : List Value} {d : DataW H} {ps} {fs : Array Field} (ht : P.underlying t = some (.struct fs)) (h : DataW.trod enc P w base spare held fuel t cs = some (d, ps)) :
    ∃ n xs, fuel = n + 1 ∧ cs.length = P.cellsOf t ∧ (fs.toList.mapM fun f => DataW.trod enc P w base spare held n f.type ((cs.drop f.offset).take (P.cellsOf f.type))) = some xs ∧ d = .agg (xs.map (·.1)) := by
  cases fuel with
  | zero => simp [DataW.trod] at h
  | succ n =>
    unfold DataW.trod at h
    rw [ht] at h
    simp only at h
    split at h
    · rename_i hc
      simp only [Option.map_eq_some_iff] at h
      obtain ⟨xs, hx, he⟩ := h
      exact ⟨n, xs, rfl, hc, hx, (congrArg Prod.fst he).symm⟩
    · cases h

theorem str_rep {t fuel : Nat} {cs : List Value} {d : DataW H} {ps} (ht : P.underlying t = some .string) (h : DataW.trod enc P w base spare held fuel t cs = some (d, ps)) (hw : ∀ m ∈ d.weights P t, m ≤ N) : ∃ x, Rep (All w) w .str x cs ∧ Wf N .str x := by
  obtain ⟨s, rfl, rfl⟩ := trod_str ht h
  exact ⟨s.data.toList, by simp [Rep], hw _ (by simp [DataW.weights])⟩

theorem beq_imp {a b : Nat} (h : Nat.beq a b = true) : a = b := Nat.eq_of_beq_eq_true h
theorem value_rep (hv : vtOk P vt = true) : ∀ (fuel : Nat) (cs : List Value) (d : DataW H) (ps : List MemPlace), DataW.trod enc P w base spare held fuel vt cs = some (d, ps) → (∀ m ∈ d.weights P vt, m ≤ N) →
    ∃ x, Rep (All w) w .value x cs ∧ Wf N .value x := by
  intro fuel
  induction fuel using Nat.strongRecOn with
  | _ fuel IH =>
  intro cs d ps h hw
  unfold vtOk at hv
  split at hv
  · rename_i fs hfs
    split at hv
    · rename_i t1 t2 t3 t4 t5 hl
      simp only [Bool.and_eq_true] at hv
      obtain ⟨⟨⟨⟨⟨⟨⟨⟨⟨⟨⟨v1, v2⟩, v3⟩, v4⟩, v5⟩, c1⟩, c2⟩, c3⟩, c4⟩, c5⟩, c6⟩, c7⟩ := hv
      have c1 := beq_imp c1; have c2 := beq_imp c2; have c3 := beq_imp c3; have c4 := beq_imp c4; have c5 := beq_imp c5; have c6 := beq_imp c6
      have c7 := Nat.le_of_ble_eq_true c7
      have u1 : P.underlying t1 = some (.int .i64) := by unfold isInt64 at v1; split at v1; assumption; cases v1
      have u2 : P.underlying t2 = some (.int .i64) := by unfold isInt64 at v2; split at v2; assumption; cases v2
      have u3 : P.underlying t3 = some .string := by unfold isString at v3; split at v3; assumption; cases v3
      have u4 : P.underlying t4 = some (.slice vt) := by
        unfold sliceEl at v4
        split at v4
        · rename_i e he
          split at he
          · rename_i e' hu; cases he; rw [hu, beq_imp v4]
          · cases he
        · cases v4
      obtain ⟨ts, u5, u6, c8, c9⟩ : ∃ ts, P.underlying t5 = some (.slice ts) ∧ P.underlying ts = some .string ∧ P.cellsOf ts = 1 ∧ 1 ≤ P.bytesOf ts := by
        unfold sliceEl at v5
        split at v5
        · rename_i e he
          split at he
          · rename_i e' hu; cases he
            simp only [Bool.and_eq_true] at v5
            refine ⟨e, hu, ?_, beq_imp v5.1.2, Nat.le_of_ble_eq_true v5.2⟩
            have v6 := v5.1.1
            unfold isString at v6; split at v6
            · assumption
            · cases v6
          · cases he
        · cases v5
      obtain ⟨n, xs, rfl, hlen, hm, rfl⟩ := trod_struct hfs h
      rcases fs with ⟨fl⟩
      have hl' : fl.map (fun f => (f.type, f.offset)) = [(t1, 0), (t2, 1), (t3, 2), (t4, 3), (t5, 4)] := hl
      rcases fl with _ | ⟨f1, _ | ⟨f2, _ | ⟨f3, _ | ⟨f4, _ | ⟨f5, _ | ⟨f6, fl⟩⟩⟩⟩⟩⟩ <;> simp only [List.map_cons, List.map_nil, List.cons.injEq, Prod.mk.injEq, reduceCtorEq, and_false, List.nil_eq, and_true] at hl'
      obtain ⟨⟨e1, o1⟩, ⟨e2, o2⟩, ⟨e3, o3⟩, ⟨e4, o4⟩, e5, o5⟩ := hl'
      simp only [List.mapM_cons, List.mapM_nil, Option.pure_def, Option.bind_eq_bind, Option.bind_eq_some_iff, Option.some.injEq, e1, e2, e3, e4, e5, o1, o2, o3, o4, o5, c1, c2, c3, c4, c5] at hm
      obtain ⟨y1, h1, z1, ⟨y2, h2, z2, ⟨y3, h3, z3, ⟨y4, h4, z4, ⟨y5, h5, z5, rfl, rfl⟩, rfl⟩, rfl⟩, rfl⟩, rfl⟩ := hm
      have hw' : ∀ m ∈ DataW.weightsEach P [t1, t2, t3, t4, t5] [y1.1, y2.1, y3.1, y4.1, y5.1], m ≤ N := by
        intro m hm
        apply hw
        simp only [DataW.weights, hfs]
        simpa [e1, e2, e3, e4, e5] using hm
      rw [c6] at hlen
      rcases cs with _ | ⟨a1, _ | ⟨a2, _ | ⟨a3, _ | ⟨a4, _ | ⟨a5, _ | ⟨a6, cs⟩⟩⟩⟩⟩⟩ <;> simp only [List.length_cons, List.length_nil] at hlen <;> try omega
      simp only [List.drop_succ_cons, List.drop_zero, List.take_succ_cons, List.take_zero] at h1 h2 h3 h4 h5
      obtain ⟨n1, q1, w1⟩ := trod_int u1 h1
      obtain ⟨n2, q2, w2⟩ := trod_int u2 h2
      obtain ⟨x3, r3, w3⟩ := str_rep (N := N) u3 h3 fun m hm => hw' m (by simp only [DataW.weightsEach, List.mem_append]; exact .inr (.inr (.inl hm)))
      obtain ⟨x4, r4, w4⟩ := slice_rep (N := N) (ty := .value) u4 c7 (by omega) (by rw [c6]; rfl) (fun m hm cs d ps h hw => IH m (by omega) cs d ps h hw) h4 fun m hm => hw' m (by simp only [DataW.weightsEach, List.mem_append]; exact .inr (.inr (.inr (.inl hm))))
      obtain ⟨x5, r5, w5⟩ := slice_rep (N := N) (ty := .str) u5 c9 (by omega) (by rw [c8]; rfl) (fun m hm cs d ps h hw => str_rep u6 h hw) h5 fun m hm => hw' m (by simp only [DataW.weightsEach, List.mem_append]; exact .inr (.inr (.inr (.inr (.inl hm)))))
      simp only [List.cons.injEq, and_true] at q1 q2
      subst q1; subst q2
      simp only [Rep, List.cons.injEq, and_true] at r3
      subst r3
      obtain ⟨v4', e4', a, cap, rfl, hcap, hmem⟩ := r4
      simp only [List.cons.injEq, and_true] at e4'
      subst e4'
      obtain ⟨v5', e5', hs5⟩ := r5
      simp only [List.cons.injEq, and_true] at e5'
      subst e5'
      have w4' : x4.length ≤ N ∧ ∀ x ∈ x4, WfV N x := by simpa only [Wf] using w4
      have w5' : x5.length ≤ N ∧ ∀ x ∈ x5, x.length ≤ N := by simpa only [Wf] using w5
      refine ⟨.mk n1 n2 x3 x4 x5, ?_, ?_⟩
      · simp only [Rep]
        have hs5' : SliceRep (All w) w (fun k vs => vs = [Value.string ⟨k.toArray⟩]) x5 a5 := by
          refine hs5.imp (fun _ h => h) (fun _ _ => rfl) fun x u h => by simpa only [Rep] using h
        rcases hmem with rfl | ⟨ad, us, rfl, hsp, hA, hcells, hall⟩
        · exact .mk n1 n2 x3 [] x5 a cap a5 (fun _ => []) hcap (.inl rfl) (fun i h => by simp at h) hs5'
        · have hsz : ∀ (x : V) (u : List Value), Rep (All w) w .value x u → u.length = 5 := fun x u h => RepV.length h
          have hul : us.length = x4.length * 5 := RepAll.length (sz := 5) hsz hall
          refine .mk n1 n2 x3 x4 x5 (some ad) cap a5 (fun i => (us.drop (i * 5)).take 5) hcap (.inr ⟨ad, rfl, hsp, hA, fun i hi => ⟨by simp [hul]; omega, fun j hj => ?_⟩⟩) (fun i hi => ?_) hs5'
          · rw [List.getElem?_take_of_lt hj, List.getElem?_drop]
            exact hcells (i * 5 + j) (by omega)
          · obtain ⟨p, u, q, he, hp, hr⟩ := RepAll.get (sz := 5) hsz i x4[i] hall (List.getElem?_eq_getElem hi)
            have hu := hsz _ _ hr
            rw [he, List.drop_append_of_le_length (by omega), List.drop_of_length_le (l := p) (by omega), List.nil_append, List.take_append_of_le_length (by omega), List.take_of_length_le (by omega)]
            simpa only [Rep] using hr
      · simp only [Wf]
        exact .mk _ _ _ _ _ w1 w2 w3 w4'.1 w5'.1 (fun i hi => w4'.2 _ (List.getElem_mem hi)) w5'.2
    · cases hv
  · cases hv

theorem trod_rep : ∀ (fuel n t : Nat) (ty : Ty) (cs : List Value) (d : DataW H) (ps : List MemPlace), lay P vt n t = some ty → DataW.trod enc P w base spare held fuel t cs = some (d, ps) → (∀ m ∈ d.weights P t, m ≤ N) →
    ∃ x, Rep (All w) w ty x cs ∧ Wf N ty x := by
  intro fuel
  induction fuel using Nat.strongRecOn with
  | _ fuel IH =>
  intro n t ty cs d ps hl h hw
  cases n with
  | zero => simp [lay] at hl
  | succ n =>
    unfold lay at hl
    split at hl
    · rename_i e; subst e
      split at hl
      · rename_i hv; cases hl; exact value_rep hv fuel cs d ps h hw
      · cases hl
    · split at hl
      · rename_i ht; cases hl
        obtain ⟨b, rfl⟩ := trod_bool ht h
        exact ⟨b, rfl, trivial⟩
      · rename_i k ht; cases hl
        obtain ⟨m, rfl, h1⟩ := trod_int ht h
        exact ⟨m, rfl, h1⟩
      · rename_i ht; cases hl
        exact str_rep ht h hw
      · rename_i e ht
        split at hl
        · rename_i hb
          simp only [Option.bind_eq_some_iff] at hl
          obtain ⟨ty', h1, hl⟩ := hl
          split at hl
          · rename_i hs; cases hl
            exact slice_rep ht hb.1 hb.2 hs (fun m hm cs d ps h hw => IH m hm n e ty' cs d ps h1 h hw) h hw
          · cases hl
        · cases hl
      · rename_i fs ht
        obtain ⟨m, xs, rfl, hlen, hm, rfl⟩ := trod_struct ht h
        have := fields_rep (N := N) hlen (fun t ty cs d ps h1 h2 h3 => IH m (by omega) n t ty cs d ps h1 h2 h3) fs.toList 0 ty xs hl hm fun m hm => hw m (by simpa only [DataW.weights, ht] using hm)
        simpa only [List.drop_zero] using this
      · cases hl

theorem open_one {t n : Nat} {v : Value} {ty : Ty} {d : DataW H} {ps} (hl : lay P vt n t = some ty) (h : DataW.Trod enc P w 0 spare held t v d ps) (hv : v.cells.toList = [v]) (hw : ∀ m ∈ d.weights P t, m ≤ N) :
    ∃ x, RepAV (c0 (All w) w) (.d ty x) v ∧ Wf N ty x := by
  obtain ⟨fuel, h⟩ := h
  obtain ⟨x, h1, h2⟩ := trod_rep fuel n t ty _ _ _ hl h hw
  refine ⟨x, ?_, h2⟩
  simp only [RepAV]
  rw [hv] at h1; exact h1
end
end Go.Pe
end
