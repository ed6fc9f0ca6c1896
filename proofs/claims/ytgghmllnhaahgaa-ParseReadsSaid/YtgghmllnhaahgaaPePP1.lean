/- The parser's small functions, told. -/
import Derived.Test.YtgghmllnhaahgaaPeGP2q
import Derived.Test.YtgghmllnhaahgaaPeTac
namespace Go.Pe.Try
open Go.Proofs Go.RowKit
set_option maxRecDepth 100000
set_option linter.unusedSimpArgs false
set_option linter.unusedVariables false
theorem next_eq (t : List UInt8) (n : Int) : h36_F (h36_y t n) = match t with | [] => some (.inr (h36_z_y 3)) | c :: _ => some (.inl (h36_o_y (c.toNat : Int) t n)) := by
  cases t with
  | nil => simp [h36_eq, h36_p0_eq, h12_eq]
  | cons c r => simp [h36_eq, h36_p0_eq, nth]
def digitB (c : UInt8) : Bool := decide (48 ≤ c.toNat) && decide (c.toNat ≤ 57)
theorem digit_eq (c : UInt8) : f37_F ((c.toNat : Int), ()) = some (digitB c, ()) := by
  rw [f37_eq]
  have h1 : ((c.toNat : Int) ≥ 48) ↔ 48 ≤ c.toNat := by omega
  have h2 : ((c.toNat : Int) ≤ 57) ↔ c.toNat ≤ 57 := by omega
  simp only [h1, h2, digitB]
  by_cases h : 48 ≤ c.toNat <;> simp [h]
theorem cutLo_one {S : Type} (c : UInt8) (r : List UInt8) (K : List UInt8 → Option S) : cutLo (c :: r) (1 : Int) K = K r := by
  unfold cutLo; rw [if_pos (by simp only [List.length_cons]; omega)]; rfl
theorem index_eq (S : List UInt8) (hS : S.length ≤ 1000) (c : UInt8) : f42_F (bytesOf S, ((c.toNat : Int), ())) = some (decide (c ∈ S), ()) := by
  have hstep : ∀ i, i < S.length → ∀ rec, (∃ h : i < S.length, S[i] ≠ c) → f46_p0_st rec (f46_p0_y (bytesOf S) (c.toNat : Int) (S.length : Int) (i : Int)) = rec (f46_p0_y (bytesOf S) (c.toNat : Int) (S.length : Int) ((i + 1 : Nat) : Int)) := by
    intro i hi rec hne
    obtain ⟨_, hne⟩ := hne
    rw [f46_p0_eq]
    have hlt : ((i : Int) < (S.length : Int)) := by omega
    have hn : nth (bytesOf S) (i : Int) = some ((S[i].toNat : Int)) := by rw [nth_nat, bytesOf, List.getElem?_map, List.getElem?_eq_getElem hi]; rfl
    have hc : ¬ ((c.toNat : Int) = (S[i].toNat : Int)) := fun e => hne (UInt8.toNat_inj.1 (by omega))
    simp only [hlt, decide_true, cond_true, hn, Option.bind_some]
    rw [show ((c.toNat : Int) == (S[i].toNat : Int)) = false by simpa using hc, cond_false, wrap64 (by omega) (by omega)]
    rfl
  rw [f42_eq, f46_eq]
  have hlen : ((bytesOf S).length : Int) = (S.length : Int) := by simp [bytesOf]
  rw [hlen]
  rcases first_bad (fun x => x ≠ c) S with hall | ⟨k, hk, h1, h2⟩
  · rw [show ((0 : Int)) = ((0 : Nat) : Int) from rfl, go_seq (y := fun i => f46_p0_y (bytesOf S) (c.toNat : Int) (S.length : Int) (i : Int)) (n := S.length) (r := some (.inl f46_p0_o0_y)) (fun i hi rec => hstep i hi rec ⟨hi, hall _ (List.getElem_mem hi)⟩) (fun rec => by rw [f46_p0_eq]; simp) (by rw [fuel_def]; omega)]
    have hnm : c ∉ S := fun h => hall c h rfl
    simp [hnm]
  · have h1 : S[k] = c := by simpa using h1
    rw [show ((0 : Int)) = ((0 : Nat) : Int) from rfl, go_seq (y := fun i => f46_p0_y (bytesOf S) (c.toNat : Int) (S.length : Int) (i : Int)) (n := k) (r := some (.inr (f46_p0_o1_y (k : Int)))) (fun i hi rec => hstep i (by omega) rec ⟨by omega, h2 i hi⟩) (fun rec => by
      rw [f46_p0_eq]
      have hlt : ((k : Int) < (S.length : Int)) := by omega
      have hn : nth (bytesOf S) (k : Int) = some ((c.toNat : Int)) := by rw [nth_nat, bytesOf, List.getElem?_map, List.getElem?_eq_getElem hk, h1]; rfl
      simp [hlt, hn]) (by rw [fuel_def]; omega)]
    have hm : c ∈ S := h1 ▸ List.getElem_mem hk
    simp [hm]
theorem take_eq (S : List UInt8) (hS : S.length ≤ 1000) (t : List UInt8) (n : Int) : h22_F (h22_y S t n) = match t with | [] => some (.inr (h22_z_y 3)) | c :: r => if c ∈ S then some (.inl (h22_o_y (c.toNat : Int) r n)) else some (.inr (h22_z_y 20)) := by
  rw [h22_eq, next_eq]
  cases t with
  | nil => simp
  | cons c r =>
    simp only [Option.bind_some, h36_o_x0_y, h36_o_r0_0_y, h36_o_r0_1_y]
    rw [h22_p0_eq, index_eq S hS]
    by_cases h : c ∈ S <;> simp [h, h12_eq, cutLo_one]
/-! ### Texts -/
def txt : List UInt8 → List UInt8 → Except Int (List UInt8 × List UInt8)
  | [], _ => .error 3
  | c :: r, acc => if c.toNat < 32 then .error 20 else if c = 34 then .ok (acc, r) else if c = 92 then
      match r with
      | [] => .error 3
      | c' :: r' => if c' = 34 ∨ c' = 92 then (if acc.length = 4000 then .error 2 else txt r' (acc ++ [c'])) else .error 20
    else if acc.length = 4000 then .error 2 else txt r (acc ++ [c])
theorem strOf_bytesOf (l : List UInt8) : strOf (bytesOf l) = l := by
  simp only [strOf, bytesOf, List.map_map]
  conv => rhs; rw [← List.map_id l]
  apply List.map_congr_left
  intro x _
  simp
/-- A text that begins here, its sign before it taken. -/
theorem txt_loop (n : Int) : ∀ (k : Nat) (t acc : List UInt8), acc.length ≤ 4000 → 4002 ≤ k + acc.length → iter h40_p3_st k (h40_p3_y t n (bytesOf acc)) = some (match txt t acc with
    | .error e => .inl (h40_p3_o0_y e)
    | .ok (s, r) => .inr (h40_p3_o1_y s r n)) := by
  intro k
  induction k with
  | zero => intro t acc h1 h2; omega
  | succ k ih =>
    intro t acc h1 h2
    have hlen : ((bytesOf acc).length : Int) = (acc.length : Int) := by simp [bytesOf]
    have hnx : ∀ c : UInt8, bytesOf acc ++ [(c.toNat : Int)] = bytesOf (acc ++ [c]) := fun c => by simp [bytesOf]
    have happ : ∀ c : UInt8, (bytesOf acc).length + [(c.toNat : Int)].length ≤ 4294967296 := fun c => by simp [bytesOf]; omega
    rw [iter, h40_p3_eq, next_eq]
    cases t with
    | nil => simp [txt]
    | cons c r =>
      simp only [Option.bind_some, h36_o_x0_y, h36_o_r0_0_y, h36_o_r0_1_y]
      rw [h40_p2_eq]
      unfold txt
      by_cases hc : c.toNat < 32
      · have : (c.toNat : Int) < 32 := by omega
        simp [this, hc, h12_eq]
      have hc' : ¬ ((c.toNat : Int) < 32) := by omega
      simp only [hc', decide_false, cond_false, Option.bind_some, hc, if_false, h40_p2_o0_x4_y, h40_p2_o0_r0_0_y, h40_p2_o0_r0_1_y, h40_p2_o0_l0_y]
      rw [cutLo_one, h40_p1_eq]
      have e34 : ((c.toNat : Int) == 34) = decide (c = 34) := by
        rw [Bool.eq_iff_iff]; simp only [beq_iff_eq, decide_eq_true_eq]; rw [← UInt8.toNat_inj]; simp only [UInt8.reduceToNat]; omega
      have e92 : ((c.toNat : Int) == 92) = decide (c = 92) := by
        rw [Bool.eq_iff_iff]; simp only [beq_iff_eq, decide_eq_true_eq]; rw [← UInt8.toNat_inj]; simp only [UInt8.reduceToNat]; omega
      rw [e34, e92]
      by_cases h34 : c = 34
      · simp [h34, strOf_bytesOf]
      by_cases h92 : c = 92
      · subst h92
        rw [take_eq _ (by simp)]
        cases r with
        | nil => simp
        | cons c' r' =>
          by_cases hm : c' = 34 ∨ c' = 92
          · have hm' : c' ∈ ([34, 92] : List UInt8) := by simpa using hm
            simp only [h34, decide_false, cond_false, decide_true, cond_true, hm', if_true, Option.bind_some, h22_o_x0_y, h22_o_r0_0_y, h22_o_r0_1_y, h40_p1_o1_x4_y, h40_p1_o1_r0_0_y, h40_p1_o1_r0_1_y, h40_p1_o1_l0_y, if_false, hm]
            rw [h40_p0_eq, hlen]
            by_cases h4 : acc.length = 4000
            · simp [h4, h12_eq]
            · have h4' : ((acc.length : Int) == 4000) = false := by simp; omega
              simp only [h4', cond_false, Option.bind_some, h4, if_false, h40_p0_o0_l0_y, h40_p0_o0_x4_y, h40_p0_o0_r0_0_y, h40_p0_o0_r0_1_y]
              rw [appOk_lt (happ c'), hnx, ih r' (acc ++ [c']) (by simp; omega) (by simp; omega)]
          · have hm' : c' ∉ ([34, 92] : List UInt8) := by simpa using hm
            simp [h34, hm', hm]
      · simp only [h34, h92, decide_false, cond_false, Option.bind_some, h40_p1_o1_x4_y, h40_p1_o1_r0_0_y, h40_p1_o1_r0_1_y, h40_p1_o1_l0_y, if_false]
        rw [h40_p0_eq, hlen]
        by_cases h4 : acc.length = 4000
        · simp [h4, h12_eq]
        · have h4' : ((acc.length : Int) == 4000) = false := by simp; omega
          simp only [h4', cond_false, Option.bind_some, h4, if_false, h40_p0_o0_l0_y, h40_p0_o0_x4_y, h40_p0_o0_r0_0_y, h40_p0_o0_r0_1_y]
          rw [appOk_lt (happ c), hnx, ih r (acc ++ [c]) (by simp; omega) (by simp; omega)]
theorem text_eq (t : List UInt8) (n : Int) : h40_F (h40_y t n) = some (match t with
    | [] => .inr (h40_z_y 3)
    | c :: r => if c = 34 then (match txt r [] with | .error e => .inr (h40_z_y e) | .ok (s, r) => .inl (h40_o_y s r n)) else .inr (h40_z_y 20)) := by
  rw [h40_eq, take_eq _ (by simp)]
  cases t with
  | nil => simp
  | cons c r =>
    by_cases h : c = 34
    · subst h
      simp only [List.mem_singleton, if_true, Option.bind_some, h22_o_r0_0_y, h22_o_r0_1_y]
      unfold go
      rw [show ([] : List Int) = bytesOf [] from rfl, txt_loop n _ r [] (by simp) (by rw [fuel_def]; simp; omega)]
      cases txt r [] with
      | error e => simp
      | ok p => simp
    · simp [h]
end Go.Pe.Try
