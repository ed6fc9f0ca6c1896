/- Several texts in one: PP1, PP2, PP3, PP4, PP5, PP6, PP7. -/
import Derived.Test.YtgghmllnhaahgaaPeGP2q
import Derived.Test.YtgghmllnhaahgaaPeTac
namespace Go.Pe.Try
open Go.Proofs Go.RowKit
set_option maxRecDepth 100000
set_option linter.unusedSimpArgs false
set_option linter.unusedVariables false
theorem next_eq (t : List UInt8) (n : Int) : h36_F (h36_y t n) = match t with | [] => some (.inr (h36_z_y 3)) | c :: _ => some (.inl (h36_o_y (c.toNat : Int) t n)) := by
  cases t with
  | nil => simp [h36_eq, h36_p0_eq, h12_eq]
  | cons c r => simp [h36_eq, h36_p0_eq, nth]
def digitB (c : UInt8) : Bool := decide (48 ≤ c.toNat) && decide (c.toNat ≤ 57)
theorem digit_eq (c : UInt8) : f37_F ((c.toNat : Int), ()) = some (digitB c, ()) := by
  rw [f37_eq]
  have h1 : ((c.toNat : Int) ≥ 48) ↔ 48 ≤ c.toNat := by omega
  have h2 : ((c.toNat : Int) ≤ 57) ↔ c.toNat ≤ 57 := by omega
  simp only [h1, h2, digitB]
  by_cases h : 48 ≤ c.toNat <;> simp [h]
theorem cutLo_one {S : Type} (c : UInt8) (r : List UInt8) (K : List UInt8 → Option S) : cutLo (c :: r) (1 : Int) K = K r := by
  unfold cutLo; rw [if_pos (by simp only [List.length_cons]; omega)]; rfl
theorem index_eq (S : List UInt8) (hS : S.length ≤ 1000) (c : UInt8) : f42_F (bytesOf S, ((c.toNat : Int), ())) = some (decide (c ∈ S), ()) := by
  have hstep : ∀ i, i < S.length → ∀ rec, (∃ h : i < S.length, S[i] ≠ c) → f46_p0_st rec (f46_p0_y (bytesOf S) (c.toNat : Int) (S.length : Int) (i : Int)) = rec (f46_p0_y (bytesOf S) (c.toNat : Int) (S.length : Int) ((i + 1 : Nat) : Int)) := by
    intro i hi rec hne
    obtain ⟨_, hne⟩ := hne
    rw [f46_p0_eq]
    have hlt : ((i : Int) < (S.length : Int)) := by omega
    have hn : nth (bytesOf S) (i : Int) = some ((S[i].toNat : Int)) := by rw [nth_nat, bytesOf, List.getElem?_map, List.getElem?_eq_getElem hi]; rfl
    have hc : ¬ ((c.toNat : Int) = (S[i].toNat : Int)) := fun e => hne (UInt8.toNat_inj.1 (by omega))
    simp only [hlt, decide_true, cond_true, hn, Option.bind_some]
    rw [show ((c.toNat : Int) == (S[i].toNat : Int)) = false by simpa using hc, cond_false, wrap64 (by omega) (by omega)]
    rfl
  rw [f42_eq, f46_eq]
  have hlen : ((bytesOf S).length : Int) = (S.length : Int) := by simp [bytesOf]
  rw [hlen]
  rcases first_bad (fun x => x ≠ c) S with hall | ⟨k, hk, h1, h2⟩
  · rw [show ((0 : Int)) = ((0 : Nat) : Int) from rfl, go_seq (y := fun i => f46_p0_y (bytesOf S) (c.toNat : Int) (S.length : Int) (i : Int)) (n := S.length) (r := some (.inl f46_p0_o0_y)) (fun i hi rec => hstep i hi rec ⟨hi, hall _ (List.getElem_mem hi)⟩) (fun rec => by rw [f46_p0_eq]; simp) (by rw [fuel_def]; omega)]
    have hnm : c ∉ S := fun h => hall c h rfl
    simp [hnm]
  · have h1 : S[k] = c := by simpa using h1
    rw [show ((0 : Int)) = ((0 : Nat) : Int) from rfl, go_seq (y := fun i => f46_p0_y (bytesOf S) (c.toNat : Int) (S.length : Int) (i : Int)) (n := k) (r := some (.inr (f46_p0_o1_y (k : Int)))) (fun i hi rec => hstep i (by omega) rec ⟨by omega, h2 i hi⟩) (fun rec => by
      rw [f46_p0_eq]
      have hlt : ((k : Int) < (S.length : Int)) := by omega
      have hn : nth (bytesOf S) (k : Int) = some ((c.toNat : Int)) := by rw [nth_nat, bytesOf, List.getElem?_map, List.getElem?_eq_getElem hk, h1]; rfl
      simp [hlt, hn]) (by rw [fuel_def]; omega)]
    have hm : c ∈ S := h1 ▸ List.getElem_mem hk
    simp [hm]
theorem take_eq (S : List UInt8) (hS : S.length ≤ 1000) (t : List UInt8) (n : Int) : h22_F (h22_y S t n) = match t with | [] => some (.inr (h22_z_y 3)) | c :: r => if c ∈ S then some (.inl (h22_o_y (c.toNat : Int) r n)) else some (.inr (h22_z_y 20)) := by
  rw [h22_eq, next_eq]
  cases t with
  | nil => simp
  | cons c r =>
    simp only [Option.bind_some, h36_o_x0_y, h36_o_r0_0_y, h36_o_r0_1_y]
    rw [h22_p0_eq, index_eq S hS]
    by_cases h : c ∈ S <;> simp [h, h12_eq, cutLo_one]
/-! ### Texts -/
def txt : List UInt8 → List UInt8 → Except Int (List UInt8 × List UInt8)
  | [], _ => .error 3
  | c :: r, acc => if c.toNat < 32 then .error 20 else if c = 34 then .ok (acc, r) else if c = 92 then
      match r with
      | [] => .error 3
      | c' :: r' => if c' = 34 ∨ c' = 92 then (if acc.length = 4000 then .error 2 else txt r' (acc ++ [c'])) else .error 20
    else if acc.length = 4000 then .error 2 else txt r (acc ++ [c])
theorem strOf_bytesOf (l : List UInt8) : strOf (bytesOf l) = l := by
  simp only [strOf, bytesOf, List.map_map]
  conv => rhs; rw [← List.map_id l]
  apply List.map_congr_left
  intro x _
  simp
/-- A text that begins here, its sign before it taken. -/
theorem txt_loop (n : Int) : ∀ (k : Nat) (t acc : List UInt8), acc.length ≤ 4000 → 4002 ≤ k + acc.length → iter h40_p3_st k (h40_p3_y t n (bytesOf acc)) = some (match txt t acc with
    | .error e => .inl (h40_p3_o0_y e)
    | .ok (s, r) => .inr (h40_p3_o1_y s r n)) := by
  intro k
  induction k with
  | zero => intro t acc h1 h2; omega
  | succ k ih =>
    intro t acc h1 h2
    have hlen : ((bytesOf acc).length : Int) = (acc.length : Int) := by simp [bytesOf]
    have hnx : ∀ c : UInt8, bytesOf acc ++ [(c.toNat : Int)] = bytesOf (acc ++ [c]) := fun c => by simp [bytesOf]
    have happ : ∀ c : UInt8, (bytesOf acc).length + [(c.toNat : Int)].length ≤ 4294967296 := fun c => by simp [bytesOf]; omega
    rw [iter, h40_p3_eq, next_eq]
    cases t with
    | nil => simp [txt]
    | cons c r =>
      simp only [Option.bind_some, h36_o_x0_y, h36_o_r0_0_y, h36_o_r0_1_y]
      rw [h40_p2_eq]
      unfold txt
      by_cases hc : c.toNat < 32
      · have : (c.toNat : Int) < 32 := by omega
        simp [this, hc, h12_eq]
      have hc' : ¬ ((c.toNat : Int) < 32) := by omega
      simp only [hc', decide_false, cond_false, Option.bind_some, hc, if_false, h40_p2_o0_x4_y, h40_p2_o0_r0_0_y, h40_p2_o0_r0_1_y, h40_p2_o0_l0_y]
      rw [cutLo_one, h40_p1_eq]
      have e34 : ((c.toNat : Int) == 34) = decide (c = 34) := by
        rw [Bool.eq_iff_iff]; simp only [beq_iff_eq, decide_eq_true_eq]; rw [← UInt8.toNat_inj]; simp only [UInt8.reduceToNat]; omega
      have e92 : ((c.toNat : Int) == 92) = decide (c = 92) := by
        rw [Bool.eq_iff_iff]; simp only [beq_iff_eq, decide_eq_true_eq]; rw [← UInt8.toNat_inj]; simp only [UInt8.reduceToNat]; omega
      rw [e34, e92]
      by_cases h34 : c = 34
      · simp [h34, strOf_bytesOf]
      by_cases h92 : c = 92
      · subst h92
        rw [take_eq _ (by simp)]
        cases r with
        | nil => simp
        | cons c' r' =>
          by_cases hm : c' = 34 ∨ c' = 92
          · have hm' : c' ∈ ([34, 92] : List UInt8) := by simpa using hm
            simp only [h34, decide_false, cond_false, decide_true, cond_true, hm', if_true, Option.bind_some, h22_o_x0_y, h22_o_r0_0_y, h22_o_r0_1_y, h40_p1_o1_x4_y, h40_p1_o1_r0_0_y, h40_p1_o1_r0_1_y, h40_p1_o1_l0_y, if_false, hm]
            rw [h40_p0_eq, hlen]
            by_cases h4 : acc.length = 4000
            · simp [h4, h12_eq]
            · have h4' : ((acc.length : Int) == 4000) = false := by simp; omega
              simp only [h4', cond_false, Option.bind_some, h4, if_false, h40_p0_o0_l0_y, h40_p0_o0_x4_y, h40_p0_o0_r0_0_y, h40_p0_o0_r0_1_y]
              rw [appOk_lt (happ c'), hnx, ih r' (acc ++ [c']) (by simp; omega) (by simp; omega)]
          · have hm' : c' ∉ ([34, 92] : List UInt8) := by simpa using hm
            simp [h34, hm', hm]
      · simp only [h34, h92, decide_false, cond_false, Option.bind_some, h40_p1_o1_x4_y, h40_p1_o1_r0_0_y, h40_p1_o1_r0_1_y, h40_p1_o1_l0_y, if_false]
        rw [h40_p0_eq, hlen]
        by_cases h4 : acc.length = 4000
        · simp [h4, h12_eq]
        · have h4' : ((acc.length : Int) == 4000) = false := by simp; omega
          simp only [h4', cond_false, Option.bind_some, h4, if_false, h40_p0_o0_l0_y, h40_p0_o0_x4_y, h40_p0_o0_r0_0_y, h40_p0_o0_r0_1_y]
          rw [appOk_lt (happ c), hnx, ih r (acc ++ [c]) (by simp; omega) (by simp; omega)]
theorem text_eq (t : List UInt8) (n : Int) : h40_F (h40_y t n) = some (match t with
    | [] => .inr (h40_z_y 3)
    | c :: r => if c = 34 then (match txt r [] with | .error e => .inr (h40_z_y e) | .ok (s, r) => .inl (h40_o_y s r n)) else .inr (h40_z_y 20)) := by
  rw [h40_eq, take_eq _ (by simp)]
  cases t with
  | nil => simp
  | cons c r =>
    by_cases h : c = 34
    · subst h
      simp only [List.mem_singleton, if_true, Option.bind_some, h22_o_r0_0_y, h22_o_r0_1_y]
      unfold go
      rw [show ([] : List Int) = bytesOf [] from rfl, txt_loop n _ r [] (by simp) (by rw [fuel_def]; simp; omega)]
      cases txt r [] with
      | error e => simp
      | ok p => simp
    · simp [h]
end Go.Pe.Try
namespace Go.Pe.Try
open Go.Proofs Go.RowKit
set_option maxRecDepth 100000
set_option linter.unusedSimpArgs false
set_option linter.unusedVariables false
theorem drop_cases (a : List UInt8) (i : Nat) : (a.length ≤ i ∧ a.drop i = []) ∨ ∃ h : i < a.length, a.drop i = a[i] :: a.drop (i + 1) := by
  rcases Nat.lt_or_ge i a.length with h | h
  · exact .inr ⟨h, List.drop_eq_getElem_cons h⟩
  · exact .inl ⟨h, List.drop_eq_nil_of_le h⟩
theorem sign_eq (a : List UInt8) (i : Nat) : f26_F (a, ((i : Int), ())) = some (match a.drop i with | [] => -1 | c :: _ => (c.toNat : Int), ()) := by
  rw [f26_eq]
  rcases drop_cases a i with ⟨h, e⟩ | ⟨h, e⟩ <;> rw [e]
  · have : (i : Int) ≥ (a.length : Int) := by omega
    simp [this]
  · have : ¬ ((i : Int) ≥ (a.length : Int)) := by omega
    have hb : a[i].toNat < 256 := a[i].toNat_lt
    rw [nth_lt h]
    simp only [this, decide_false, cond_false, Option.bind_some]
    rw [wrap64 (by omega) (by omega)]
abbrev RV := argsDen f29_rs
def rv (v : V) (i : Nat) (n : Nat) (e : Int) : RV := ((v.kind, (v.n, (v.s, (v.items, (v.keys, ((i : Int), ((n : Int), (e, ())))))))), ())
def v0 : V := ⟨0, 0, [], [], []⟩
theorem wrong_eq (a : List UInt8) (i : Nat) : f29_F (a, ((i : Int), ())) = some (rv v0 0 0 (match a.drop i with | [] => 3 | _ :: _ => 20)) := by
  rw [f29_eq]
  rcases drop_cases a i with ⟨h, e⟩ | ⟨h, e⟩ <;> rw [e]
  · have : (i : Int) ≥ (a.length : Int) := by omega
    simp [this]; rfl
  · have : ¬ ((i : Int) ≥ (a.length : Int)) := by omega
    simp [this]; rfl
theorem rtxt_loop (a : List UInt8) (ha : a.length ≤ 70000) : ∀ (k i : Nat) (acc : List UInt8), acc.length ≤ 4000 → 4002 ≤ k + acc.length → iter f28_p2_st k (f28_p2_y a (i : Int) 0 0 [] 0 0 0 (bytesOf acc)) = some (match txt (a.drop i) acc with
    | .error e => f28_p2_o0_y 0 0 [] 0 0 e
    | .ok (s, r) => f28_p2_o0_y 0 0 s ((a.length - r.length : Nat) : Int) 0 0) := by
  intro k
  induction k with
  | zero => intro i acc h1 h2; omega
  | succ k ih =>
    intro i acc h1 h2
    have hlen : ((bytesOf acc).length : Int) = (acc.length : Int) := by simp [bytesOf]
    have hnx : ∀ c : UInt8, bytesOf acc ++ [(c.toNat : Int)] = bytesOf (acc ++ [c]) := fun c => by simp [bytesOf]
    have happ : ∀ c : UInt8, (bytesOf acc).length + [(c.toNat : Int)].length ≤ 4294967296 := fun c => by simp [bytesOf]; omega
    rw [iter, f28_p2_eq]
    rcases drop_cases a i with ⟨h, e⟩ | ⟨h, e⟩ <;> rw [e]
    · have : (i : Int) ≥ (a.length : Int) := by omega
      simp [this, txt]
    have hge : ¬ ((i : Int) ≥ (a.length : Int)) := by omega
    have hw : IntKind.i64.wrap ((i : Int) + 1) = ((i + 1 : Nat) : Int) := by rw [wrap64 (by omega) (by omega)]; rfl
    rw [nth_lt h]
    simp only [hge, decide_false, cond_false, Option.bind_some, hw]
    generalize hci : a[i] = c
    unfold txt
    by_cases hc : c.toNat < 32
    · have : (c.toNat : Int) < 32 := by omega
      simp [this, hc]
    have hc' : ¬ ((c.toNat : Int) < 32) := by omega
    have e34 : ((c.toNat : Int) == 34) = decide (c = 34) := by
      rw [Bool.eq_iff_iff]; simp only [beq_iff_eq, decide_eq_true_eq]; rw [← UInt8.toNat_inj]; simp only [UInt8.reduceToNat]; omega
    have e92 : ((c.toNat : Int) == 92) = decide (c = 92) := by
      rw [Bool.eq_iff_iff]; simp only [beq_iff_eq, decide_eq_true_eq]; rw [← UInt8.toNat_inj]; simp only [UInt8.reduceToNat]; omega
    simp only [hc', decide_false, cond_false, hc, if_false, e34]
    by_cases h34 : c = 34
    · have : (a.length - (a.drop (i + 1)).length : Nat) = i + 1 := by simp; omega
      simp only [h34, decide_true, cond_true, if_true, this, strOf_bytesOf]
    simp only [h34, decide_false, cond_false, if_false]
    rw [f28_p1_eq, e92]
    by_cases h92 : c = 92
    · subst h92
      simp only [decide_true, cond_true, if_true]
      rcases drop_cases a (i + 1) with ⟨h', e'⟩ | ⟨h', e'⟩ <;> rw [e']
      · have : ((i + 1 : Nat) : Int) ≥ (a.length : Int) := by omega
        simp only [this, decide_true, cond_true, Option.bind_some, f28_p1_o0_r0_0_y, f28_p1_o0_r0_1_y, f28_p1_o0_r0_2_y, f28_p1_o0_r0_5_y, f28_p1_o0_r0_6_y, f28_p1_o0_r0_7_y]
      have hge' : ¬ (((i + 1 : Nat) : Int) ≥ (a.length : Int)) := by omega
      have hw' : IntKind.i64.wrap (((i + 1 : Nat) : Int) + 1) = ((i + 2 : Nat) : Int) := by rw [wrap64 (by omega) (by omega)]; omega
      rw [nth_lt h']
      simp only [hge', decide_false, cond_false, Option.bind_some]
      generalize hci' : a[i + 1] = c'
      rw [f28_p0_eq]
      have f34 : ((c'.toNat : Int) != 34) = decide (¬ c' = 34) := by
        rw [Bool.eq_iff_iff]; simp only [bne_iff, decide_eq_true_eq]; rw [← UInt8.toNat_inj]; simp only [UInt8.reduceToNat]; omega
      have f92 : ((c'.toNat : Int) != 92) = decide (¬ c' = 92) := by
        rw [Bool.eq_iff_iff]; simp only [bne_iff, decide_eq_true_eq]; rw [← UInt8.toNat_inj]; simp only [UInt8.reduceToNat]; omega
      rw [f34, f92]
      have go2 : (c' = 34 ∨ c' = 92) → ((some (f28_p0_o0_y a ((i + 1 : Nat) : Int) (c'.toNat : Int) false 0 0 [] 0 0 0 (bytesOf acc))).bind fun o16 => bif f28_p0_o0_x43 o16 then some (Sum.inl (f28_p1_o0_y 0 0 [] 0 0 20)) else some (Sum.inr (f28_p1_o1_y (f28_p0_o0_x0 o16) (IntKind.i64.wrap (f28_p0_o0_x1 o16 + 1)) (f28_p0_o0_x6 o16) (f28_p0_o0_r0_0 o16) (f28_p0_o0_r0_1 o16) (f28_p0_o0_r0_2 o16) (f28_p0_o0_r0_5 o16) (f28_p0_o0_r0_6 o16) (f28_p0_o0_r0_7 o16) (f28_p0_o0_l0 o16)))) = some (Sum.inr (f28_p1_o1_y a ((i + 2 : Nat) : Int) (c'.toNat : Int) 0 0 [] 0 0 0 (bytesOf acc))) := by
        intro _
        simp only [Option.bind_some, f28_p0_o0_x43_y, cond_false, f28_p0_o0_x0_y, f28_p0_o0_x1_y, f28_p0_o0_x6_y, f28_p0_o0_r0_0_y, f28_p0_o0_r0_1_y, f28_p0_o0_r0_2_y, f28_p0_o0_r0_5_y, f28_p0_o0_r0_6_y, f28_p0_o0_r0_7_y, f28_p0_o0_l0_y, hw']
      by_cases hm : c' = 34 ∨ c' = 92
      · have hif : (bif decide (¬ c' = 34) then some (f28_p0_o0_y a ((i + 1 : Nat) : Int) (c'.toNat : Int) (decide (¬ c' = 92)) 0 0 [] 0 0 0 (bytesOf acc)) else some (f28_p0_o0_y a ((i + 1 : Nat) : Int) (c'.toNat : Int) false 0 0 [] 0 0 0 (bytesOf acc))) = some (f28_p0_o0_y a ((i + 1 : Nat) : Int) (c'.toNat : Int) false 0 0 [] 0 0 0 (bytesOf acc)) := by
          rcases hm with rfl | rfl <;> rfl
        rw [hif, go2 hm]
        simp only [Option.bind_some, hm, if_true, f28_p1_o1_l0_y, f28_p1_o1_x6_y, f28_p1_o1_x0_y, f28_p1_o1_x1_y, f28_p1_o1_r0_0_y, f28_p1_o1_r0_1_y, f28_p1_o1_r0_2_y, f28_p1_o1_r0_5_y, f28_p1_o1_r0_6_y, f28_p1_o1_r0_7_y, hlen]
        by_cases h4 : acc.length = 4000
        · simp [h4]
        · have h4' : ((acc.length : Int) == 4000) = false := by simp; omega
          simp only [h4', cond_false, h4, if_false]
          rw [appOk_lt (happ c'), hnx, ih (i + 2) (acc ++ [c']) (by simp; omega) (by simp; omega)]
      · have hm1 : ¬ c' = 34 := fun e => hm (.inl e)
        have hm2 : ¬ c' = 92 := fun e => hm (.inr e)
        simp [hm1, hm2]
    · simp only [h92, decide_false, cond_false, Option.bind_some, if_false, f28_p1_o1_l0_y, f28_p1_o1_x6_y, f28_p1_o1_x0_y, f28_p1_o1_x1_y, f28_p1_o1_r0_0_y, f28_p1_o1_r0_1_y, f28_p1_o1_r0_2_y, f28_p1_o1_r0_5_y, f28_p1_o1_r0_6_y, f28_p1_o1_r0_7_y, hlen]
      by_cases h4 : acc.length = 4000
      · simp [h4]
      · have h4' : ((acc.length : Int) == 4000) = false := by simp; omega
        simp only [h4', cond_false, h4, if_false]
        rw [appOk_lt (happ c), hnx, ih (i + 1) (acc ++ [c]) (by simp; omega) (by simp; omega)]
theorem rtext_eq (a : List UInt8) (ha : a.length ≤ 70000) (i : Nat) : f28_F (a, ((i : Int), ())) = some (match txt (a.drop i) [] with
    | .error e => rv v0 0 0 e
    | .ok (s, r) => rv ⟨0, 0, s, [], []⟩ (a.length - r.length) 0 0) := by
  rw [f28_eq]
  unfold go
  rw [show ([] : List Int) = bytesOf [] from rfl, rtxt_loop a ha _ i [] (by simp) (by rw [fuel_def]; simp; omega)]
  cases txt (a.drop i) [] with
  | error e => simp; rfl
  | ok p => simp; rfl
end Go.Pe.Try
namespace Go.Pe.Try
open Go.Proofs Go.RowKit
set_option maxRecDepth 100000
set_option linter.unusedSimpArgs false
set_option linter.unusedVariables false
def dval (l : List UInt8) : Nat := l.foldl (fun v c => 10 * v + (c.toNat - 48)) 0
theorem dval_snoc (l : List UInt8) (c : UInt8) : dval (l ++ [c]) = 10 * dval l + (c.toNat - 48) := by simp [dval, List.foldl_append]
def ofDigits (ds : List UInt8) : Prop := ∀ c ∈ ds, digitB c = true
theorem digitB_iff {c : UInt8} : digitB c = true ↔ 48 ≤ c.toNat ∧ c.toNat ≤ 57 := by simp [digitB]
theorem dval_lt : ∀ (n : Nat) (ds : List UInt8), ds.length = n → ofDigits ds → dval ds + 1 ≤ 10 ^ n
  | 0, ds, h, _ => by rw [List.eq_nil_of_length_eq_zero h]; simp [dval]
  | n + 1, ds, h, hd => by
    obtain ⟨l, c, rfl⟩ : ∃ l c, ds = l ++ [c] := by
      rcases List.eq_nil_or_concat ds with rfl | ⟨l, c, rfl⟩
      · simp at h
      · exact ⟨l, c, by simp⟩
    have := dval_lt n l (by simpa using h) fun c hc => hd c (by simp [hc])
    have hc := digitB_iff.1 (hd c (by simp))
    rw [dval_snoc, Nat.pow_succ]; omega
/-- Without a leading zero. -/
theorem dval_ge : ∀ (n : Nat) (ds : List UInt8), ds.length = n + 1 → ofDigits ds → ds.head? ≠ some 48 → 10 ^ n ≤ dval ds
  | 0, ds, h, hd, h0 => by
    match ds, h with
    | [c], _ =>
      have hc := digitB_iff.1 (hd c (by simp))
      have : c.toNat ≠ 48 := fun e => h0 (by simp; rw [← UInt8.toNat_inj]; simpa using e)
      simp [dval]; omega
  | n + 1, ds, h, hd, h0 => by
    obtain ⟨l, c, rfl⟩ : ∃ l c, ds = l ++ [c] := by
      rcases List.eq_nil_or_concat ds with rfl | ⟨l, c, rfl⟩
      · simp at h
      · exact ⟨l, c, by simp⟩
    have hl : l.length = n + 1 := by simpa using h
    have := dval_ge n l hl (fun c hc => hd c (by simp [hc])) (by
      match l, hl with
      | x :: l, _ => simpa using h0)
    rw [dval_snoc, Nat.pow_succ]; omega
def badNum (neg : Bool) (ds : List UInt8) : Bool := ds.length == 0 || (decide (1 < ds.length) && ds.head? == some 48) || (ds == [48] && neg)
def numS (neg : Bool) (t : List UInt8) : Except Int (Int × List UInt8) :=
  if badNum neg (t.takeWhile digitB) = true then .error 20
  else if 13 < (t.takeWhile digitB).length ∨ 1099511627776 < dval (t.takeWhile digitB) then .error 2
  else .ok (if neg = true then -(dval (t.takeWhile digitB) : Int) else (dval (t.takeWhile digitB) : Int), t.dropWhile digitB)
def num (t : List UInt8) : Except Int (Int × List UInt8) := match t with
  | [] => .error 3
  | c :: r => if c = 45 then numS true r else numS false (c :: r)
def sgn (neg : Bool) : Int := if neg = true then -1 else 1
theorem tw_digits (t : List UInt8) : ofDigits (t.takeWhile digitB) := fun c hc => by
  induction t with
  | nil => simp at hc
  | cons x t ih =>
    simp only [List.takeWhile_cons] at hc
    split at hc
    · rename_i h
      rcases List.mem_cons.1 hc with rfl | hc
      · exact h
      · exact ih hc
    · simp at hc
theorem tw_dw (t : List UInt8) : t.takeWhile digitB ++ t.dropWhile digitB = t := List.takeWhile_append_dropWhile
theorem tw_take (t : List UInt8) : t.take (t.takeWhile digitB).length = t.takeWhile digitB := by
  conv => lhs; arg 2; rw [← tw_dw t]
  rw [List.take_left']; rfl
theorem tw_drop (t : List UInt8) : t.drop (t.takeWhile digitB).length = t.dropWhile digitB := by
  conv => lhs; arg 2; rw [← tw_dw t]
  rw [List.drop_left']; rfl
theorem tw_len (t : List UInt8) : (t.takeWhile digitB).length ≤ t.length := by
  have := congrArg List.length (tw_dw t); rw [List.length_append] at this; omega
theorem tw_get (t : List UInt8) (i : Nat) (h : i < (t.takeWhile digitB).length) : t[i]'(Nat.lt_of_lt_of_le h (tw_len t)) = (t.takeWhile digitB)[i] := by
  have : t[i]? = (t.takeWhile digitB)[i]? := by
    conv => lhs; arg 1; rw [← tw_dw t]
    rw [List.getElem?_append_left h]
  rw [List.getElem?_eq_getElem (Nat.lt_of_lt_of_le h (tw_len t)), List.getElem?_eq_getElem h] at this
  exact Option.some.inj this
theorem dw_head (t : List UInt8) (c : UInt8) (r : List UInt8) (h : t.dropWhile digitB = c :: r) : digitB c = false := by
  induction t with
  | nil => simp at h
  | cons x t ih =>
    simp only [List.dropWhile_cons] at h
    split at h
    · exact ih h
    · rename_i hx
      simp only [List.cons.injEq] at h
      rw [← h.1]; simpa using hx
/-- How many digits there are. -/
theorem count_eq (t : List UInt8) (ht : t.length ≤ 70000) (x n : Int) : go h38_p5_st (h38_p5_y x 0 t n 0 0 []) = some (h38_p5_o0_y x ((t.takeWhile digitB).length : Int) t n 0 0 []) := by
  refine go_seq (y := fun i => h38_p5_y x (i : Int) t n 0 0 []) (n := (t.takeWhile digitB).length) (fun i hi rec => ?_) (fun rec => ?_) (by have := tw_len t; rw [fuel_def]; omega)
  · have hlt := Nat.lt_of_lt_of_le hi (tw_len t)
    rw [h38_p5_eq, nth_lt hlt, tw_get t i hi]
    have hd := tw_digits t _ (List.getElem_mem hi)
    have : (i : Int) < (t.length : Int) := by omega
    simp only [this, decide_true, cond_true, Option.bind_some]
    rw [digit_eq, hd, wrap64 (by omega) (by omega)]
    rfl
  · rw [h38_p5_eq]
    by_cases h : (t.takeWhile digitB).length < t.length
    · have : ((t.takeWhile digitB).length : Int) < (t.length : Int) := by omega
      rw [nth_lt h]
      simp only [this, decide_true, cond_true, Option.bind_some]
      rw [digit_eq]
      have hdr := tw_drop t
      rw [List.drop_eq_getElem_cons h] at hdr
      rw [dw_head t _ _ hdr.symm]
      rfl
    · have : ¬ ((t.takeWhile digitB).length : Int) < (t.length : Int) := by omega
      simp [this]
theorem bad_eq (neg : Bool) (ds r : List UInt8) (n : Int) : h38_p2_F (h38_p2_y (sgn neg) (ds.length : Int) ds r n 0 0 []) = some (h38_p2_o0_y (sgn neg) (ds.length : Int) ds (badNum neg ds) r n 0 0 []) := by
  have hs : decide (sgn neg < 0) = neg := by cases neg <;> decide
  rw [h38_p2_eq, hs]
  match ds with
  | [] => simp [badNum]
  | [x] =>
    by_cases hx : x = 48
    · subst hx; cases neg <;> simp [badNum]
    · have : (x == 48) = false := by simpa using hx
      simp [badNum, this]
  | x :: y :: l =>
    have h1 : ¬ ((((x :: y :: l).length : Int)) = 0) := by simp only [List.length_cons]; omega
    have h2 : (((x :: y :: l).length : Int)) > 1 := by simp only [List.length_cons]; omega
    have hx : ((x.toNat : Int) == 48) = decide (x = 48) := by
      rw [Bool.eq_iff_iff]; simp only [beq_iff_eq, decide_eq_true_eq]; rw [← UInt8.toNat_inj]; simp only [UInt8.reduceToNat]; omega
    have h3 : nth (x :: y :: l) (0 : Int) = some x := by simp [nth]
    rw [h3, Option.bind_some, hx]
    have hb : badNum neg (x :: y :: l) = decide (x = 48) := by
      simp only [badNum, List.length_cons, List.head?_cons]
      by_cases h48 : x = 48
      · simp [h48]
      · simp [h48]
    rw [hb]
    have hl0 : (x :: y :: l == ([48] : List UInt8)) = false := by simp
    generalize ((x :: y :: l).length : Int) = m at *
    have h1b : (m == 0) = false := by simpa using h1
    by_cases h48 : x = 48
    · simp [h1b, h2, h48]
    · simp [h1b, h2, h48]
theorem value_eq (x n : Int) (ds r : List UInt8) (hd : ofDigits ds) (hl : ds.length ≤ 13) : go h38_p0_st (h38_p0_y x ds 0 (ds.length : Int) 0 r n 0 0 []) = some (h38_p0_o0_y x (dval ds : Int) r n 0 0 []) := by
  have hb : ∀ i, i ≤ ds.length → dval (ds.take i) + 1 ≤ 10 ^ 13 := fun i hi =>
    Nat.le_trans (dval_lt i _ (by simp; omega) fun c hc => hd c (List.mem_of_mem_take hc)) (Nat.pow_le_pow_right (by omega) (by omega))
  refine go_seq (y := fun i => h38_p0_y x ds (dval (ds.take i) : Int) (ds.length : Int) (i : Int) r n 0 0 []) (n := ds.length) (fun i hi rec => ?_) (fun rec => ?_) (by rw [fuel_def]; omega)
  · rw [h38_p0_eq, nth_lt hi]
    have hc := digitB_iff.1 (hd _ (List.getElem_mem hi))
    have h1 := hb i (by omega)
    have : (i : Int) < (ds.length : Int) := by omega
    simp only [this, decide_true, cond_true, Option.bind_some]
    rw [wrapU8 (by omega) (by omega), wrap64 (x := (10 : Int) * _) (by omega) (by omega), wrap64 (x := (_ : Int) - 48) (by omega) (by omega), wrap64 (x := _ + _) (by omega) (by omega), wrap64 (by omega) (by omega)]
    have e : ds.take (i + 1) = ds.take i ++ [ds[i]] := by rw [List.take_append_getElem hi]
    have e2 : (10 : Int) * (dval (ds.take i) : Int) + ((ds[i].toNat : Int) - 48) = (dval (ds.take (i + 1)) : Int) := by rw [e, dval_snoc]; omega
    rw [e2]; rfl
  · rw [h38_p0_eq]
    simp [List.take_length]
theorem number_of (neg : Bool) (t0 t : List UInt8) (ht : t.length ≤ 70000) (n : Int) (hp : h38_p6_F (h38_p6_y 1 t0 n 0 0 []) = some (h38_p6_o0_y (sgn neg) t n 0 0 [])) : h38_F (h38_y t0 n) = some (match numS neg t with
    | .error e => .inr (h38_z_y e)
    | .ok (v, r) => .inl (h38_o_y 1 v [] [] [] r n)) := by
  have hl := tw_len t
  rw [h38_eq, hp]
  simp only [Option.bind_some, h38_p6_o0_x3_y, h38_p6_o0_r0_0_y, h38_p6_o0_r0_1_y, h38_p6_o0_r1_0_y, h38_p6_o0_r1_1_y, h38_p6_o0_r1_2_y]
  rw [count_eq t ht]
  simp only [Option.bind_some, h38_p5_o0_r0_0_y, h38_p5_o0_x4_y, h38_p5_o0_x3_y, h38_p5_o0_r0_1_y, h38_p5_o0_r1_0_y, h38_p5_o0_r1_1_y, h38_p5_o0_r1_2_y]
  rw [cutHi_nat' _ _ _ hl, tw_take, h38_p4_eq, cutLo_nat' _ _ _ hl, tw_drop, bad_eq]
  unfold numS
  cases hb : badNum neg (t.takeWhile digitB) with
  | true => simp [h12_eq]
  | false =>
    simp only [Option.bind_some, h38_p2_o0_x73_y, cond_false, h38_p2_o0_x3_y, h38_p2_o0_x4_y, h38_p2_o0_x5_y, h38_p2_o0_r0_0_y, h38_p2_o0_r0_1_y, h38_p2_o0_r1_0_y, h38_p2_o0_r1_1_y, h38_p2_o0_r1_2_y, h38_p4_o0_x3_y, h38_p4_o0_x4_y, h38_p4_o0_x5_y, h38_p4_o0_r0_0_y, h38_p4_o0_r0_1_y, h38_p4_o0_r1_0_y, h38_p4_o0_r1_1_y, h38_p4_o0_r1_2_y, Bool.false_eq_true, if_false]
    rw [h38_p3_eq]
    by_cases h13 : 13 < (t.takeWhile digitB).length
    · have : ((t.takeWhile digitB).length : Int) > 13 := by omega
      simp [this, h13, h12_eq]
    · have : ¬ ((t.takeWhile digitB).length : Int) > 13 := by omega
      simp only [this, decide_false, cond_false, Option.bind_some, h38_p3_o0_x3_y, h38_p3_o0_x4_y, h38_p3_o0_x5_y, h38_p3_o0_x6_y, h38_p3_o0_r0_0_y, h38_p3_o0_r0_1_y, h38_p3_o0_r1_0_y, h38_p3_o0_r1_1_y, h38_p3_o0_r1_2_y]
      rw [value_eq _ _ _ _ (tw_digits t) (by omega)]
      simp only [Option.bind_some, h38_p0_o0_x3_y, h38_p0_o0_x6_y, h38_p0_o0_r0_0_y, h38_p0_o0_r0_1_y, h38_p0_o0_r1_0_y, h38_p0_o0_r1_1_y, h38_p0_o0_r1_2_y]
      rw [h38_p1_eq]
      by_cases h40 : 1099511627776 < dval (t.takeWhile digitB)
      · have : (dval (t.takeWhile digitB) : Int) > 1099511627776 := by omega
        simp [this, h40, h12_eq]
      · have : ¬ (dval (t.takeWhile digitB) : Int) > 1099511627776 := by omega
        simp only [this, decide_false, cond_false, Option.bind_some, h38_p1_o0_x3_y, h38_p1_o0_x6_y, h38_p1_o0_r0_0_y, h38_p1_o0_r0_1_y, h38_p1_o0_r1_0_y, h38_p1_o0_r1_1_y, h38_p1_o0_r1_2_y, h13, h40, or_self, if_false]
        rw [f45_eq]
        have hv : IntKind.i64.wrap (sgn neg * (dval (t.takeWhile digitB) : Int)) = if neg = true then -(dval (t.takeWhile digitB) : Int) else (dval (t.takeWhile digitB) : Int) := by
          cases neg with
          | true => simp only [sgn, if_true]; rw [wrap64 (by omega) (by omega)]; omega
          | false => simp only [sgn, Bool.false_eq_true, if_false]; rw [wrap64 (by omega) (by omega)]; omega
        rw [hv]
        rfl
theorem number_eq (t : List UInt8) (ht : t.length ≤ 70000) (n : Int) (h0 : t ≠ []) : h38_F (h38_y t n) = some (match num t with
    | .error e => .inr (h38_z_y e)
    | .ok (v, r) => .inl (h38_o_y 1 v [] [] [] r n)) := by
  cases t with
  | nil => exact absurd rfl h0
  | cons c r =>
    have e45 : ((c.toNat : Int) == 45) = decide (c = 45) := by
      rw [Bool.eq_iff_iff]; simp only [beq_iff_eq, decide_eq_true_eq]; rw [← UInt8.toNat_inj]; simp only [UInt8.reduceToNat]; omega
    have hn : nth (c :: r) (0 : Int) = some c := by simp [nth]
    have hr : r.length ≤ 70000 := by simp only [List.length_cons] at ht; omega
    unfold num
    by_cases h : c = 45
    · rw [number_of true (c :: r) r hr n (by rw [h38_p6_eq, hn, Option.bind_some, e45, h]; simp only [decide_true, cond_true, cutLo_one]; rfl)]
      simp only [h, if_true]
    · rw [number_of false (c :: r) (c :: r) ht n (by rw [h38_p6_eq, hn, Option.bind_some, e45]; simp only [h, decide_false, cond_false]; rfl)]
      simp only [h, if_false]
end Go.Pe.Try
namespace Go.Pe.Try
open Go.Proofs Go.RowKit
set_option maxRecDepth 100000
set_option linter.unusedSimpArgs false
set_option linter.unusedVariables false
theorem dval_mono (l : List UInt8) (c : UInt8) : dval l ≤ dval (l ++ [c]) := by rw [dval_snoc]; omega
/-- The reference's digits: what they come to, while it is not too big. -/
theorem rdigits (a : List UInt8) (ha : a.length ≤ 70000) (neg : Bool) (s0 : Nat) : ∀ (k j : Nat) (x7 : Int) (x8 : Bool), j ≤ ((a.drop s0).takeWhile digitB).length → ((a.drop s0).takeWhile digitB).length + 1 ≤ k + j →
    x8 = decide (1099511627776 < dval (((a.drop s0).takeWhile digitB).take j)) → (x8 = false → x7 = (dval (((a.drop s0).takeWhile digitB).take j) : Int)) → (0 ≤ x7 ∧ x7 ≤ 20000000000000) →
    ∃ z, iter f27_p4_st k (f27_p4_y a ((s0 + j : Nat) : Int) neg (s0 : Int) x7 x8 0 0 [] 0 0 0) = some (f27_p4_o0_y a ((s0 + ((a.drop s0).takeWhile digitB).length : Nat) : Int) neg (s0 : Int) z (decide (1099511627776 < dval ((a.drop s0).takeWhile digitB))) 0 0 [] 0 0 0) ∧ (dval ((a.drop s0).takeWhile digitB) ≤ 1099511627776 → z = (dval ((a.drop s0).takeWhile digitB) : Int)) := by
  obtain ⟨t, ht⟩ : ∃ t, t = a.drop s0 := ⟨_, rfl⟩
  rw [← ht]
  have htl : t.length = a.length - s0 := by rw [ht]; simp
  obtain ⟨ds, hds⟩ : ∃ ds, ds = t.takeWhile digitB := ⟨_, rfl⟩
  have hdl : ds.length ≤ t.length := by rw [hds]; exact tw_len t
  have hdd : ofDigits ds := by rw [hds]; exact tw_digits t
  rw [← hds]
  intro k
  induction k with
  | zero => intro j x7 x8 h1 h2; omega
  | succ k ih =>
    intro j x7 x8 h1 h2 h8 h7 hr
    rw [iter, f27_p4_eq]
    have hget : ∀ i, i < t.length → ∃ h : s0 + i < a.length, a[s0 + i] = t[i]! := by
      intro i hi
      refine ⟨by omega, ?_⟩
      have : t[i]? = a[s0 + i]? := by rw [ht, List.getElem?_drop]
      rw [List.getElem!_eq_getElem?_getD, this, List.getElem?_eq_getElem (by omega)]; rfl
    rcases Nat.lt_or_ge j ds.length with hj | hj
    · -- a digit
      have hjt : j < t.length := by omega
      obtain ⟨hlt, hg⟩ := hget j hjt
      have hcj : t[j]! = ds[j] := by
        rw [getElem!_pos t j hjt]
        have := tw_get t j (by rw [← hds]; exact hj)
        rw [this]; simp only [hds]
      rw [hcj] at hg
      have hdg := digitB_iff.1 (hdd _ (List.getElem_mem hj))
      have hlt' : ((s0 + j : Nat) : Int) < (a.length : Int) := by omega
      have e1 : ((ds[j].toNat : Int) ≥ 48) := by omega
      have e2 : ((ds[j].toNat : Int) ≤ 57) := by omega
      have hn : nth a ((s0 + j : Nat) : Int) = some ds[j] := by rw [nth_lt hlt, hg]
      rw [hn]
      simp only [hlt', decide_true, cond_true, Option.bind_some, e1, e2]
      have htk : ds.take (j + 1) = ds.take j ++ [ds[j]] := by rw [List.take_append_getElem hj]
      have hsn : dval (ds.take (j + 1)) = 10 * dval (ds.take j) + (ds[j].toNat - 48) := by rw [htk, dval_snoc]
      rw [f27_p1_eq, hn]
      have hw1 : IntKind.i64.wrap (((s0 + j : Nat) : Int) + 1) = ((s0 + (j + 1) : Nat) : Int) := by rw [wrap64 (by omega) (by omega)]; omega
      cases x8 with
      | true =>
        have hbig : 1099511627776 < dval (ds.take j) := by simpa using h8.symm
        simp only [Bool.not_true, cond_false, Option.bind_some, f27_p1_o0_x0_y, f27_p1_o0_x1_y, f27_p1_o0_x5_y, f27_p1_o0_x6_y, f27_p1_o0_x7_y, f27_p1_o0_x8_y, f27_p1_o0_r0_0_y, f27_p1_o0_r0_1_y, f27_p1_o0_r0_2_y, f27_p1_o0_r0_5_y, f27_p1_o0_r0_6_y, f27_p1_o0_r0_7_y]
        have hp0 : f27_p0_F (f27_p0_y a ((s0 + j : Nat) : Int) neg (s0 : Int) x7 true 0 0 [] 0 0 0) = some (f27_p0_o0_y a ((s0 + j : Nat) : Int) neg (s0 : Int) x7 true 0 0 [] 0 0 0) := by
          rw [f27_p0_eq]; cases decide (x7 > 1099511627776) <;> rfl
        rw [hp0]
        simp only [Option.bind_some, f27_p0_o0_x0_y, f27_p0_o0_x1_y, f27_p0_o0_x5_y, f27_p0_o0_x6_y, f27_p0_o0_x7_y, f27_p0_o0_x8_y, f27_p0_o0_r0_0_y, f27_p0_o0_r0_1_y, f27_p0_o0_r0_2_y, f27_p0_o0_r0_5_y, f27_p0_o0_r0_6_y, f27_p0_o0_r0_7_y, hw1]
        exact ih (j + 1) x7 true (by omega) (by omega) (by simp only [Bool.true_eq, decide_eq_true_eq]; omega) (by simp) hr
      | false =>
        have hsmall : ¬ 1099511627776 < dval (ds.take j) := by simpa using h8.symm
        have hx7 := h7 rfl
        subst hx7
        simp only [Bool.not_false, cond_true, Option.bind_some, f27_p1_o0_x0_y, f27_p1_o0_x1_y, f27_p1_o0_x5_y, f27_p1_o0_x6_y, f27_p1_o0_x7_y, f27_p1_o0_x8_y, f27_p1_o0_r0_0_y, f27_p1_o0_r0_1_y, f27_p1_o0_r0_2_y, f27_p1_o0_r0_5_y, f27_p1_o0_r0_6_y, f27_p1_o0_r0_7_y]
        have hval : IntKind.i64.wrap (IntKind.i64.wrap ((10 : Int) * (dval (ds.take j) : Int)) + IntKind.i64.wrap (IntKind.u8.wrap ((ds[j].toNat : Int) - 48))) = (dval (ds.take (j + 1)) : Int) := by
          rw [wrapU8 (by omega) (by omega), wrap64 (x := (10 : Int) * _) (by omega) (by omega), wrap64 (x := (_ : Int) - 48) (by omega) (by omega), wrap64 (by omega) (by omega), hsn]; omega
        rw [hval, f27_p0_eq]
        have hc : ((dval (ds.take (j + 1)) : Int) > 1099511627776) ↔ 1099511627776 < dval (ds.take (j + 1)) := by omega
        have hp0 : (bif decide ((dval (ds.take (j + 1)) : Int) > 1099511627776) then some (f27_p0_o0_y a ((s0 + j : Nat) : Int) neg (s0 : Int) (dval (ds.take (j + 1)) : Int) true 0 0 [] 0 0 0) else some (f27_p0_o0_y a ((s0 + j : Nat) : Int) neg (s0 : Int) (dval (ds.take (j + 1)) : Int) false 0 0 [] 0 0 0)) = some (f27_p0_o0_y a ((s0 + j : Nat) : Int) neg (s0 : Int) (dval (ds.take (j + 1)) : Int) (decide (1099511627776 < dval (ds.take (j + 1)))) 0 0 [] 0 0 0) := by
          by_cases hh : 1099511627776 < dval (ds.take (j + 1))
          · rw [decide_eq_true hh, decide_eq_true (hc.2 hh)]; rfl
          · rw [decide_eq_false hh, decide_eq_false (fun h => hh (hc.1 h))]; rfl
        rw [hp0]
        simp only [Option.bind_some, f27_p0_o0_x0_y, f27_p0_o0_x1_y, f27_p0_o0_x5_y, f27_p0_o0_x6_y, f27_p0_o0_x7_y, f27_p0_o0_x8_y, f27_p0_o0_r0_0_y, f27_p0_o0_r0_1_y, f27_p0_o0_r0_2_y, f27_p0_o0_r0_5_y, f27_p0_o0_r0_6_y, f27_p0_o0_r0_7_y, hw1]
        exact ih (j + 1) _ _ (by omega) (by omega) rfl (fun _ => rfl) (by omega)
    · -- no more
      have hje : j = ds.length := by omega
      subst hje
      rw [List.take_length] at h8 h7
      have hout : (some (f27_p4_o0_y a ((s0 + ds.length : Nat) : Int) neg (s0 : Int) x7 x8 0 0 [] 0 0 0) : Option (OutDen f27_p4_outs)) = some (f27_p4_o0_y a ((s0 + ds.length : Nat) : Int) neg (s0 : Int) x7 (decide (1099511627776 < dval ds)) 0 0 [] 0 0 0) := by rw [h8]
      refine ⟨x7, ?_, fun hle => h7 (by rw [h8]; simp; omega)⟩
      rw [← hout]
      rcases Nat.lt_or_ge ds.length t.length with hlt | hge
      · obtain ⟨hlt', hg⟩ := hget ds.length hlt
        have hdr := tw_drop t
        rw [← hds, List.drop_eq_getElem_cons hlt] at hdr
        have hnd := dw_head t _ _ hdr.symm
        have hlti : ((s0 + ds.length : Nat) : Int) < (a.length : Int) := by omega
        have hn : nth a ((s0 + ds.length : Nat) : Int) = some t[ds.length] := by rw [nth_lt hlt', hg, getElem!_pos t _ hlt]
        rw [hn]
        simp only [hlti, decide_true, cond_true, Option.bind_some]
        generalize t[ds.length] = c at hnd
        simp only [digitB, Bool.and_eq_false_iff, decide_eq_false_iff_not] at hnd
        by_cases h48 : (c.toNat : Int) ≥ 48
        · have h57 : ¬ (c.toNat : Int) ≤ 57 := by omega
          simp [h48, h57]
        · simp [h48]
      · have hlti : ¬ ((s0 + ds.length : Nat) : Int) < (a.length : Int) := by omega
        simp only [hlti, decide_false, cond_false]
theorem rbad_eq (a : List UInt8) (ha : a.length ≤ 70000) (neg : Bool) (s0 : Nat) (z : Int) (b : Bool) : f27_p3_F (f27_p3_y a ((s0 + ((a.drop s0).takeWhile digitB).length : Nat) : Int) neg (s0 : Int) z b 0 0 [] 0 0 0) =
    some (f27_p3_o0_y ((s0 + ((a.drop s0).takeWhile digitB).length : Nat) : Int) neg z b (badNum neg ((a.drop s0).takeWhile digitB)) 0 0 [] 0 0 0) := by
  obtain ⟨t, ht⟩ : ∃ t, t = a.drop s0 := ⟨_, rfl⟩
  rw [← ht]
  have htl : t.length = a.length - s0 := by rw [ht]; simp
  obtain ⟨ds, hds⟩ : ∃ ds, ds = t.takeWhile digitB := ⟨_, rfl⟩
  have hdl : ds.length ≤ t.length := by rw [hds]; exact tw_len t
  rw [← hds, f27_p3_eq]
  have hw : IntKind.i64.wrap (((s0 + ds.length : Nat) : Int) - (s0 : Int)) = (ds.length : Int) := by
    rw [show (((s0 + ds.length : Nat) : Int) - (s0 : Int)) = (ds.length : Int) by omega, wrap64 (by omega) (by omega)]
  rw [hw]
  have hfirst : ∀ x l, ds = x :: l → nth a (s0 : Int) = some x := by
    intro x l e
    have h0 : 0 < ds.length := by rw [e]; simp
    have hlt : s0 < a.length := by omega
    rw [nth_lt hlt]
    have h1 := tw_get t 0 (by rw [← hds]; exact h0)
    have h2 : t[0]? = a[s0]? := by rw [ht, List.getElem?_drop]; rfl
    rw [List.getElem?_eq_getElem (by omega), List.getElem?_eq_getElem hlt] at h2
    have h3 := Option.some.inj h2
    rw [← h3, h1]
    simp only [← hds, e]; rfl
  match hd : ds with
  | [] => simp [badNum]
  | [x] =>
    rw [hfirst x [] rfl]
    have hne : ((((s0 + [x].length : Nat) : Int)) == (s0 : Int)) = false := by simp; omega
    have hx : ((x.toNat : Int) == 48) = (x == 48) := by
      rw [Bool.eq_iff_iff]; simp only [beq_iff_eq]; rw [← UInt8.toNat_inj]; simp only [UInt8.reduceToNat]; omega
    simp only [Option.bind_some]
    rw [hne, hx]
    cases neg <;> cases hxx : (x == 48) <;> simp [badNum, hxx] <;> simp_all
  | x :: y :: l =>
    rw [hfirst x (y :: l) rfl]
    have hne : ((((s0 + (x :: y :: l).length : Nat) : Int)) == (s0 : Int)) = false := by simp only [List.length_cons, beq_eq_false_iff_ne, ne_eq]; omega
    have hx : ((x.toNat : Int) == 48) = decide (x = 48) := by
      rw [Bool.eq_iff_iff]; simp only [beq_iff_eq, decide_eq_true_eq]; rw [← UInt8.toNat_inj]; simp only [UInt8.reduceToNat]; omega
    have hb : badNum neg (x :: y :: l) = decide (x = 48) := by
      simp only [badNum, List.length_cons, List.head?_cons]
      by_cases h48 : x = 48
      · simp [h48]
      · simp [h48]
    simp only [Option.bind_some]
    rw [hne, hx, hb]
    have h2 : (((x :: y :: l).length : Int)) > 1 := by simp only [List.length_cons]; omega
    have h3 : ((((x :: y :: l).length : Int)) == 1) = false := by simp only [List.length_cons, beq_eq_false_iff_ne, ne_eq]; omega
    rw [h3]
    simp only [h2, decide_true, cond_true, cond_false, Option.bind_some]
    by_cases h48 : x = 48
    · simp [h48]
    · cases neg <;> simp [h48]
theorem rnumber_eq (a : List UInt8) (ha : a.length ≤ 70000) (i : Nat) (c : UInt8) (r : List UInt8) (hi : a.drop i = c :: r) : f27_F (a, ((i : Int), ())) = some (match num (a.drop i) with
    | .error e => rv v0 0 0 e
    | .ok (v, r) => rv ⟨1, v, [], [], []⟩ (a.length - r.length) 0 0) := by
  have hil : i < a.length := by
    rcases drop_cases a i with ⟨_, e⟩ | ⟨h, _⟩
    · rw [e] at hi; cases hi
    · exact h
  have hc : a[i] = c ∧ a.drop (i + 1) = r := by
    rw [List.drop_eq_getElem_cons hil] at hi
    simp only [List.cons.injEq] at hi; exact hi
  have e45 : ((c.toNat : Int) == 45) = decide (c = 45) := by
    rw [Bool.eq_iff_iff]; simp only [beq_iff_eq, decide_eq_true_eq]; rw [← UInt8.toNat_inj]; simp only [UInt8.reduceToNat]; omega
  have key : ∀ (neg : Bool) (s0 : Nat), s0 ≤ a.length → f27_p5_F (f27_p5_y a (i : Int) neg 0 0 [] 0 0 0) = some (f27_p5_o0_y a (s0 : Int) neg 0 0 [] 0 0 0) → decide (c = 45) = neg →
      f27_F (a, ((i : Int), ())) = some (match numS neg (a.drop s0) with | .error e => rv v0 0 0 e | .ok (v, r) => rv ⟨1, v, [], [], []⟩ (a.length - r.length) 0 0) := by
    intro neg s0 hs0 hp hneg
    rw [f27_eq, nth_lt hil, hc.1, Option.bind_some, e45, hneg, hp]
    simp only [Option.bind_some, f27_p5_o0_x0_y, f27_p5_o0_x1_y, f27_p5_o0_x5_y, f27_p5_o0_r0_0_y, f27_p5_o0_r0_1_y, f27_p5_o0_r0_2_y, f27_p5_o0_r0_5_y, f27_p5_o0_r0_6_y, f27_p5_o0_r0_7_y]
    have htl : (a.drop s0).length = a.length - s0 := by simp
    have hdl := tw_len (a.drop s0)
    obtain ⟨z, hz, hz2⟩ := rdigits a ha neg s0 (fuelOf f27_p4_sh (f27_p4_y a (s0 : Int) neg (s0 : Int) 0 false 0 0 [] 0 0 0)) 0 0 false (by omega) (by rw [fuel_def]; omega) (by simp [dval]) (by simp [dval]) (by omega)
    unfold go
    rw [show ((s0 : Int)) = ((s0 + 0 : Nat) : Int) by simp] at hz
    simp only [Nat.add_zero] at hz
    rw [hz]
    simp only [Option.bind_some, f27_p4_o0_x0_y, f27_p4_o0_x1_y, f27_p4_o0_x5_y, f27_p4_o0_x6_y, f27_p4_o0_x7_y, f27_p4_o0_x8_y, f27_p4_o0_r0_0_y, f27_p4_o0_r0_1_y, f27_p4_o0_r0_2_y, f27_p4_o0_r0_5_y, f27_p4_o0_r0_6_y, f27_p4_o0_r0_7_y]
    rw [rbad_eq a ha]
    simp only [Option.bind_some, f27_p3_o0_x76_y, f27_p3_o0_x8_y, f27_p3_o0_x1_y, f27_p3_o0_x5_y, f27_p3_o0_x7_y, f27_p3_o0_r0_0_y, f27_p3_o0_r0_1_y, f27_p3_o0_r0_2_y, f27_p3_o0_r0_5_y, f27_p3_o0_r0_6_y, f27_p3_o0_r0_7_y]
    unfold numS
    have hdw : a.length - ((a.drop s0).dropWhile digitB).length = s0 + ((a.drop s0).takeWhile digitB).length := by
      have := congrArg List.length (tw_dw (a.drop s0)); rw [List.length_append] at this; omega
    cases hb : badNum neg ((a.drop s0).takeWhile digitB) with
    | true => simp only [cond_true, if_true]; rfl
    | false =>
      simp only [cond_false, Bool.false_eq_true, if_false]
      by_cases hbig : 1099511627776 < dval ((a.drop s0).takeWhile digitB)
      · simp only [hbig, decide_true, cond_true, or_true, if_true]; rfl
      · have hle := Nat.le_of_not_lt hbig
        have h13 : ¬ 13 < ((a.drop s0).takeWhile digitB).length := by
          intro h
          have hh : ((a.drop s0).takeWhile digitB).head? ≠ some 48 := by
            intro e
            simp only [badNum, Bool.or_eq_false_iff] at hb
            have := hb.1.2
            rw [e] at this
            simp only [BEq.rfl, Bool.and_true, decide_eq_false_iff_not] at this
            omega
          have := dval_ge (((a.drop s0).takeWhile digitB).length - 1) _ (by omega) (tw_digits _) hh
          have h2 : (10 : Nat) ^ 13 ≤ 10 ^ (((a.drop s0).takeWhile digitB).length - 1) := Nat.pow_le_pow_right (by omega) (by omega)
          omega
        simp only [hbig, decide_false, cond_false, h13, or_self, if_false]
        rw [hz2 hle, f27_p2_eq]
        cases neg with
        | true =>
          rw [wrap64 (by omega) (by omega)]
          simp only [cond_true, Option.bind_some, f27_p2_o0_x7_y, f27_p2_o0_x1_y, if_true, hdw, Int.zero_sub]; rfl
        | false =>
          simp only [cond_false, Option.bind_some, f27_p2_o0_x7_y, f27_p2_o0_x1_y, Bool.false_eq_true, if_false, hdw]; rfl
  rw [hi]
  unfold num
  by_cases h : c = 45
  · rw [key true (i + 1) (by omega) (by rw [f27_p5_eq, wrap64 (by omega) (by omega)]; rfl) (by simp [h]), hc.2]
    simp only [h, if_true]
  · rw [key false i (by omega) (by rw [f27_p5_eq]; rfl) (by simp [h]), hi]
    simp only [h, if_false]
end Go.Pe.Try
namespace Go.Pe.Try
open Go.Proofs Go.RowKit
set_option maxRecDepth 100000
set_option linter.unusedSimpArgs false
set_option linter.unusedVariables false
def late (keys : List (List UInt8)) (s : List UInt8) : Bool := match keys.getLast? with | some k => !Op.bytesLess k s | none => false
def keyS (keys : List (List UInt8)) : List UInt8 → Except Int (List (List UInt8) × List UInt8)
  | [] => .error 3
  | c :: r => if c = 34 then (match txt r [] with
      | .error e => .error e
      | .ok (s, r) => if late keys s = true then .error 23 else (match r with
          | [] => .error 3
          | d :: r' => if d = 58 then .ok (keys ++ [s], r') else .error 20)) else .error 20
def clo (k : Int) : UInt8 := if k = 4 then 125 else 93
def addV (f v : V) : V := ⟨f.kind, f.n, f.s, f.items ++ [v], f.keys⟩
def withK (f : V) (ks : List (List UInt8)) : V := ⟨f.kind, f.n, f.s, f.items, ks⟩
theorem end_eq (k n : Int) (s : List UInt8) (is : List V) (ks : List (List UInt8)) : f23_F ((k, (n, (s, (is, (ks, ()))))), ()) = some (((clo k).toNat : Int), ()) := by
  rw [f23_eq]; unfold clo
  by_cases h : k = 4
  · subst h; rfl
  · have : (k == 4) = false := by simpa using h
    simp [this, h]
theorem key_eq (t : List UInt8) (n : Int) (l : List V) (f : V) (hl : l.length ≤ 100000) (hk : f.keys.length ≤ 100000) : h25_F (h25_y t n (l ++ [f])) = some (match keyS f.keys t with
    | .error e => .inr (h25_z_y e)
    | .ok (ks, r) => .inl (h25_o_y r n (l ++ [withK f ks]))) := by
  rw [h25_eq, text_eq]
  cases t with
  | nil => simp [keyS]
  | cons c r =>
    by_cases hc : c = 34
    · subst hc
      simp only [if_true, keyS]
      cases htx : txt r [] with
      | error e => simp
      | ok p =>
        obtain ⟨s, r⟩ := p
        clear htx
        simp only [Option.bind_some, h40_o_x0_y, h40_o_r0_0_y, h40_o_r0_1_y, lastOf_app]
        rw [appOk_lt (by omega), take_eq _ (by simp)]
        have happ : appOk (f.keys.length + [s].length) = fun (K : Option (h25_O.den ⊕ h25_Z.den)) => K := by
          funext K; exact appOk_lt (by simp; omega) K
        have htail : ((match r with | [] => some (Sum.inr (h22_z_y 3)) | c :: r => if c ∈ ([58] : List UInt8) then some (Sum.inl (h22_o_y (c.toNat : Int) r n)) else some (Sum.inr (h22_z_y 20)) : Option (h22_O.den ⊕ h22_Z.den)).bind fun o => (match o with | .inl z => some (Sum.inl (h25_o_y (h22_o_r0_0 z) (h22_o_r0_1 z) (l ++ [V.mk f.kind f.n f.s f.items (f.keys ++ [s])]))) | .inr z => some (Sum.inr (h25_z_y (h22_z_x0_0_0 z))))) =
            some (match (match r with | [] => Except.error 3 | d :: r' => if d = 58 then Except.ok (f.keys ++ [s], r') else Except.error 20 : Except Int (List (List UInt8) × List UInt8)) with
              | .error e => .inr (h25_z_y e)
              | .ok (ks, r) => .inl (h25_o_y r n (l ++ [withK f ks]))) := by
          cases r with
          | nil => simp
          | cons d r' =>
            by_cases hd : d = 58
            · simp [hd, withK]
            · simp [hd]
        rw [happ]
        unfold late
        rcases List.eq_nil_or_concat f.keys with hk0 | ⟨ks, k, hks⟩
        · have h0 : ¬ ((f.keys.length : Int) > 0) := by rw [hk0]; simp
          have hgl : f.keys.getLast? = none := by rw [hk0]; rfl
          simp only [h0, decide_false, cond_false, hgl, Bool.false_eq_true, if_false]
          exact htail
        · have hlen : f.keys.length = ks.length + 1 := by rw [hks]; simp
          have h0 : ((f.keys.length : Int) > 0) := by omega
          have hgl : f.keys.getLast? = some k := by rw [hks]; simp
          have hw : IntKind.i64.wrap ((f.keys.length : Int) - 1) = (ks.length : Int) := by rw [wrap64 (by omega) (by omega)]; omega
          have hgk : f.keys[Int.toNat (ks.length : Int)]? = some k := by rw [hks]; simp
          simp only [h0, decide_true, cond_true, hgl]
          rw [hw, within_lt (by omega), hgk, Option.bind_some]
          cases Op.bytesLess k s with
          | false => simp [h12_eq]
          | true =>
            simp only [Bool.not_true, cond_false, Bool.false_eq_true, if_false]
            exact htail
    · simp [keyS, hc]
def openS (k : Int) (r : List UInt8) : Except Int ((V × List UInt8) ⊕ (V × List UInt8)) :=
  if k = 4 then (match keyS [] r with | .error e => .error e | .ok (ks, r) => .ok (.inr (⟨4, 0, [], [], ks⟩, r))) else .ok (.inr (⟨k, 0, [], [], []⟩, r))
def beginS (depth : Nat) (n : Nat) (t : List UInt8) : Except Int ((V × List UInt8) ⊕ (V × List UInt8)) :=
  if depth = 12 then .error 21 else if n = 2000 then .error 22 else match t with
    | [] => .error 3
    | c :: r => if (c == 45 || digitB c) = true then (match num (c :: r) with | .error e => .error e | .ok (v, r) => .ok (.inl (⟨1, v, [], [], []⟩, r)))
      else if c = 34 then (match txt r [] with | .error e => .error e | .ok (s, r) => .ok (.inl (⟨2, 0, s, [], []⟩, r)))
      else if c = 91 ∨ c = 123 then (match r with
        | [] => openS (if c = 123 then 4 else 3) []
        | d :: r' => if d = clo (if c = 123 then 4 else 3) then .ok (.inl (⟨if c = 123 then 4 else 3, 0, [], [], []⟩, r')) else openS (if c = 123 then 4 else 3) (d :: r'))
      else .error 20
theorem push_eq (k : Int) (t : List UInt8) (n : Int) (fs : List V) (h : fs.length ≤ 100000) : h41_F (h41_y k 0 [] t n fs) = some (h41_o_y t n (fs ++ [⟨k, 0, [], [], []⟩])) := by
  rw [h41_eq, appOk_lt (by omega)]; simp [sameInt]
theorem begin_eq (t : List UInt8) (ht : t.length ≤ 70000) (n : Nat) (hn : n ≤ 2000) (fs : List V) (hf : fs.length ≤ 100000) : h20_F (h20_y t (n : Int) fs) = some (match beginS fs.length n t with
    | .error e => .inr (h20_z_y e)
    | .ok (.inl (v, r)) => .inl (h20_o_y v.kind v.n v.s v.items v.keys true r ((n + 1 : Nat) : Int) fs)
    | .ok (.inr (f, r)) => .inl (h20_o_y 0 0 [] [] [] false r ((n + 1 : Nat) : Int) (fs ++ [f]))) := by
  rw [h20_eq, h20_p4_eq]
  unfold beginS
  by_cases h12 : fs.length = 12
  · simp [h12, h12_eq]
  have h12' : ((fs.length : Int) == 12) = false := by simp; omega
  rw [h12']
  by_cases h20 : n = 2000
  · simp [h12, h20, h12_eq]
  have h20' : ((n : Int) == 2000) = false := by simp; omega
  have hw : IntKind.i64.wrap ((n : Int) + 1) = ((n + 1 : Nat) : Int) := by rw [wrap64 (by omega) (by omega)]; omega
  simp only [h20', cond_false, Option.bind_some, h12, h20, if_false, h20_p4_o0_r0_0_y, h20_p4_o0_r0_1_y, h20_p4_o0_r0_2_y, h20_p4_o0_r1_0_y, h20_p4_o0_r1_1_y, h20_p4_o0_r1_2_y, hw]
  rw [next_eq]
  cases t with
  | nil => simp
  | cons c r =>
    simp only [Option.bind_some, h36_o_x0_y, h36_o_r0_0_y, h36_o_r0_1_y]
    rw [h20_p2_eq]
    have e45 : ((c.toNat : Int) == 45) = (c == 45) := by
      rw [Bool.eq_iff_iff]; simp only [beq_iff_eq]; rw [← UInt8.toNat_inj]; simp only [UInt8.reduceToNat]; omega
    have e34 : ((c.toNat : Int) == 34) = decide (c = 34) := by
      rw [Bool.eq_iff_iff]; simp only [beq_iff_eq, decide_eq_true_eq]; rw [← UInt8.toNat_inj]; simp only [UInt8.reduceToNat]; omega
    have e123 : ((c.toNat : Int) == 123) = decide (c = 123) := by
      rw [Bool.eq_iff_iff]; simp only [beq_iff_eq, decide_eq_true_eq]; rw [← UInt8.toNat_inj]; simp only [UInt8.reduceToNat]; omega
    have hp2 : (bif (c.toNat : Int) == 45 then some (h20_p2_o0_y (c.toNat : Int) true (c :: r) ((n + 1 : Nat) : Int) fs 0 0 []) else (f37_F ((c.toNat : Int), ())).bind fun r108 => some (h20_p2_o0_y (c.toNat : Int) r108.1 (c :: r) ((n + 1 : Nat) : Int) fs 0 0 [])) = some (h20_p2_o0_y (c.toNat : Int) (c == 45 || digitB c) (c :: r) ((n + 1 : Nat) : Int) fs 0 0 []) := by
      rw [digit_eq, e45]
      cases c == 45 <;> simp
    rw [hp2]
    simp only [Option.bind_some, h20_p2_o0_x31_y, h20_p2_o0_x4_y, h20_p2_o0_r0_0_y, h20_p2_o0_r0_1_y, h20_p2_o0_r0_2_y, h20_p2_o0_r1_0_y, h20_p2_o0_r1_1_y, h20_p2_o0_r1_2_y, e34]
    cases hdig : (c == 45 || digitB c) with
    | true =>
      rw [number_eq (c :: r) ht _ (by simp)]
      cases num (c :: r) with
      | error e => rfl
      | ok p => rfl
    | false =>
      simp only [cond_false, Bool.false_eq_true, if_false]
      by_cases h34 : c = 34
      · subst h34
        simp only [decide_true, cond_true, if_true]
        rw [text_eq]
        simp only [if_true]
        cases txt r [] with
        | error e => rfl
        | ok p =>
          simp only [Option.bind_some]
          rw [f39_eq]; rfl
      · simp only [h34, decide_false, cond_false, if_false]
        rw [h20_p3_eq, take_eq _ (by simp)]
        by_cases hb : c = 91 ∨ c = 123
        · have hm : c ∈ ([91, 123] : List UInt8) := by simpa using hb
          simp only [hm, if_true, Option.bind_some, h22_o_x0_y, h22_o_r0_0_y, h22_o_r0_1_y, e123, hb]
          have hk : (bif decide (c = 123) then some (Sum.inr (h20_p3_o1_y r ((n + 1 : Nat) : Int) fs 0 0 [] 4 0 [])) else some (Sum.inr (h20_p3_o1_y r ((n + 1 : Nat) : Int) fs 0 0 [] 3 0 [])) : Option (OutDen h20_p3_outs)) = some (Sum.inr (h20_p3_o1_y r ((n + 1 : Nat) : Int) fs 0 0 [] (if c = 123 then 4 else 3) 0 [])) := by
            by_cases h : c = 123 <;> simp [h]
          rw [hk]
          generalize hkk : (if c = 123 then (4 : Int) else 3) = k
          simp only [Option.bind_some, h20_p3_o1_r0_0_y, h20_p3_o1_r0_1_y, h20_p3_o1_r0_2_y, h20_p3_o1_r1_0_y, h20_p3_o1_r1_1_y, h20_p3_o1_r1_2_y, h20_p3_o1_r2_0_y, h20_p3_o1_r2_1_y, h20_p3_o1_r2_2_y]
          have hopen : ((h20_p1_F (h20_p1_y r ((n + 1 : Nat) : Int) fs 0 0 [] k 0 [])).bind fun o137 => (match o137 with | .inl z138 => some (Sum.inl (h20_o_y 0 0 [] [] [] false (h20_p1_o0_r0_0 z138) (h20_p1_o0_r0_1 z138) (h20_p1_o0_r0_2 z138))) | .inr o139 => some (Sum.inr (h20_z_y (h20_p1_o1_x0_0_0 o139))))) = some (match openS k r with
              | .error e => .inr (h20_z_y e)
              | .ok (.inl (v, r)) => .inl (h20_o_y v.kind v.n v.s v.items v.keys true r ((n + 1 : Nat) : Int) fs)
              | .ok (.inr (f, r)) => .inl (h20_o_y 0 0 [] [] [] false r ((n + 1 : Nat) : Int) (fs ++ [f]))) := by
            rw [h20_p1_eq, push_eq _ _ _ _ hf]
            unfold openS
            by_cases h4 : k = 4
            · subst h4
              simp only [Option.bind_some, h41_o_r0_0_y, h41_o_r0_1_y, h41_o_r0_2_y, BEq.rfl, cond_true, if_true]
              rw [key_eq _ _ _ _ hf (by simp [V.keys])]
              simp only [V.keys]
              cases keyS [] r with
              | error e => simp
              | ok p => simp [withK, V.kind, V.n, V.s, V.items]
            · have : (k == 4) = false := by simpa using h4
              simp [this, h4]
          cases r with
          | nil =>
            have hz : h20_p0_F (h20_p0_y [] ((n + 1 : Nat) : Int) fs 0 0 [] k 0 []) = some (h20_p0_o0_y false [] ((n + 1 : Nat) : Int) fs 0 0 [] k 0 []) := by rw [h20_p0_eq]; simp
            rw [hz]
            simp only [Option.bind_some, h20_p0_o0_x65_y, cond_false, h20_p0_o0_r0_0_y, h20_p0_o0_r0_1_y, h20_p0_o0_r0_2_y, h20_p0_o0_r1_0_y, h20_p0_o0_r1_1_y, h20_p0_o0_r1_2_y, h20_p0_o0_r2_0_y, h20_p0_o0_r2_1_y, h20_p0_o0_r2_2_y]
            exact hopen
          | cons d r' =>
            have hz : h20_p0_F (h20_p0_y (d :: r') ((n + 1 : Nat) : Int) fs 0 0 [] k 0 []) = some (h20_p0_o0_y (decide (d = clo k)) (d :: r') ((n + 1 : Nat) : Int) fs 0 0 [] k 0 []) := by
              have hnth : nth (d :: r') (0 : Int) = some d := by simp [nth]
              have ed : ((d.toNat : Int) == ((clo k).toNat : Int)) = decide (d = clo k) := by
                rw [Bool.eq_iff_iff]; simp only [beq_iff_eq, decide_eq_true_eq]; rw [← UInt8.toNat_inj]; omega
              have hne : ((d :: r') != ([] : List UInt8)) = true := by simp
              rw [h20_p0_eq, hne, cond_true, hnth, Option.bind_some, end_eq, Option.bind_some]
              simp only [ed]
            rw [hz]
            simp only [Option.bind_some, h20_p0_o0_x65_y, h20_p0_o0_r0_0_y, h20_p0_o0_r0_1_y, h20_p0_o0_r0_2_y, h20_p0_o0_r1_0_y, h20_p0_o0_r1_1_y, h20_p0_o0_r1_2_y, h20_p0_o0_r2_0_y, h20_p0_o0_r2_1_y, h20_p0_o0_r2_2_y]
            by_cases hcl : d = clo k
            · simp only [hcl, decide_true, cond_true, if_true, cutLo_one]; rfl
            · simp only [hcl, decide_false, cond_false, if_false]
              exact hopen
        · have hm : c ∉ ([91, 123] : List UInt8) := by simpa using hb
          simp [hm, hb]
end Go.Pe.Try
namespace Go.Pe.Try
open Go.Proofs Go.RowKit
set_option maxRecDepth 100000
set_option linter.unusedSimpArgs false
set_option linter.unusedVariables false
def closeM (v : V) (t : List UInt8) : List V → Except Int ((V × List UInt8) ⊕ (List UInt8 × List V))
  | [] => .ok (.inl (v, t))
  | f :: rs => match t with
    | [] => .error 3
    | c :: r => if c = 44 then (if f.kind = 4 then (match keyS f.keys r with | .error e => .error e | .ok (ks, r) => .ok (.inr (r, withK (addV f v) ks :: rs))) else .ok (.inr (r, addV f v :: rs)))
      else if c = clo f.kind then closeM (addV f v) r rs else .error 20
theorem pop_eq (t : List UInt8) (n : Int) (l : List V) (f : V) (h : l.length ≤ 100000) : h24_F (h24_y t n (l ++ [f])) = some (h24_o_y f.kind f.n f.s t n l f.items f.keys) := by
  have hw : IntKind.i64.wrap (((l.length : Int) + 1) - 1) = (l.length : Int) := by rw [wrap64 (by omega) (by omega)]; omega
  rw [h24_eq, lastOf_app, Option.bind_some, appOk_lt (by simp only; omega), hw]
  simp [sameInt]
theorem clo_ne (k : Int) : clo k ≠ 44 := by unfold clo; split <;> decide
theorem set_last {α : Type} (l : List α) (a b : α) : (l ++ [a]).set l.length b = l ++ [b] := by
  induction l with
  | nil => rfl
  | cons x l ih => simp [ih]
/-- The closing of lists, from the inside out. -/
theorem inner_eq (n : Int) (q0 q1 : Int) (q2 : List UInt8) : ∀ (rs : List V) (v : V) (t : List UInt8) (k : Nat), rs.length ≤ 100 → (∀ f ∈ rs, f.items.length ≤ 100000 ∧ f.keys.length ≤ 100000) → rs.length + 2 ≤ k →
    iter h11_p0_st k (h11_p0_y true t n rs.reverse q0 q1 q2 v.kind v.n v.s v.items v.keys) = some (match closeM v t rs with
      | .error e => .inr (.inr (h11_p0_o2_y e))
      | .ok (.inl (v, t)) => .inr (.inl (h11_p0_o1_y t n [] v.kind v.n v.s v.items v.keys))
      | .ok (.inr (t, rs)) => .inl (h11_p0_o0_y t n rs.reverse q0 q1 q2))
  | [], v, t, k, hl, hb, hk => by
    obtain ⟨k, rfl⟩ : ∃ j, k = j + 1 := ⟨k - 1, by omega⟩
    rw [iter, h11_p0_eq]
    simp [closeM]
  | f :: rs, v, t, k, hl, hb, hk => by
    obtain ⟨k, rfl⟩ : ∃ j, k = j + 2 := ⟨k - 2, by simp only [List.length_cons] at hk; omega⟩
    simp only [List.length_cons] at hl hk
    obtain ⟨hfi, hfk⟩ := hb f (by simp)
    have hlr : rs.reverse.length = rs.length := by simp
    have hrev : (f :: rs).reverse = rs.reverse ++ [f] := by simp
    have h0 : (((rs.reverse ++ [f]).length : Int) == 0) = false := by simp; omega
    have hfalse : ∀ (t : List UInt8) (l : List V) (k : Nat) (a b : Int) (c : List UInt8) (d : List V) (e : List (List UInt8)), iter h11_p0_st (k + 1) (h11_p0_y false t n l q0 q1 q2 a b c d e) = some (.inl (h11_p0_o0_y t n l q0 q1 q2)) := by
      intro t l k a b c d e
      rw [iter, h11_p0_eq]; simp
    rw [hrev, iter, h11_p0_eq, h0, cond_true, cond_false, lastOf_app, Option.bind_some]
    simp only
    rw [appOk_lt (by omega), appOk_lt (by simp; omega), within_lt (by simp), show Int.toNat (f.items.length : Int) = f.items.length by simp, List.getElem?_append_right (Nat.le_refl _), Nat.sub_self]
    simp only [List.getElem?_cons_zero, Option.bind_some, set_last]
    rw [end_eq, Option.bind_some]
    simp only
    have hst : strOf [((clo f.kind).toNat : Int)] = [clo f.kind] := by
      rw [show [((clo f.kind).toNat : Int)] = bytesOf [clo f.kind] from rfl, strOf_bytesOf]
    rw [hst, if_pos (by simp), take_eq _ (by simp)]
    have hadd : V.mk f.kind f.n f.s (f.items ++ [V.mk v.kind v.n v.s v.items v.keys]) f.keys = addV f v := by cases v; rfl
    rw [hadd]
    unfold closeM
    cases t with
    | nil => simp
    | cons c r =>
      simp only
      by_cases h44 : c = 44
      · subst h44
        have hm : (44 : UInt8) ∈ ([44] ++ [clo f.kind] : List UInt8) := by simp
        simp only [hm, if_true, Option.bind_some, h22_o_x0_y, h22_o_r0_0_y, h22_o_r0_1_y]
        have hb44 : ((((44 : UInt8).toNat : Int)) != 44) = false := by decide
        rw [hb44, cond_false]
        by_cases h4 : f.kind = 4
        · have : (f.kind == 4) = true := by simpa using h4
          rw [this, cond_true, key_eq _ _ _ _ (by omega) (by simpa [addV, V.keys] using hfk)]
          simp only [h4, if_true]
          rw [show (addV f v).keys = f.keys from rfl]
          cases keyS f.keys r with
          | error e => simp
          | ok p =>
            simp only [Option.bind_some, h25_o_r0_0_y, h25_o_r0_1_y, h25_o_r0_2_y]
            rw [hfalse]; simp
        · have : (f.kind == 4) = false := by simpa using h4
          rw [this, cond_false]
          simp only [h4, if_false]
          rw [hfalse]; simp
      · by_cases hc : c = clo f.kind
        · have hm : c ∈ ([44] ++ [clo f.kind] : List UInt8) := by simp [hc]
          have hn44 : (((c.toNat : Int)) != 44) = true := by
            rw [bne_iff]; intro e; apply h44; rw [← UInt8.toNat_inj]; simp only [UInt8.reduceToNat]; omega
          simp only [hm, if_true, Option.bind_some, h22_o_x0_y, h22_o_r0_0_y, h22_o_r0_1_y, hn44, cond_true, h44, if_false]
          rw [if_pos hc, pop_eq _ _ _ _ (by omega), Option.bind_some]
          simp only [h24_o_r0_0_y, h24_o_r0_1_y, h24_o_r0_2_y, h24_o_x0_0_y, h24_o_x0_1_y, h24_o_x0_2_y, h24_o_l0_y, h24_o_l1_y]
          exact inner_eq n q0 q1 q2 rs (addV f v) r (k + 1) (by omega) (fun g hg => hb g (by simp [hg])) (by omega)
        · have hm : c ∉ ([44] ++ [clo f.kind] : List UInt8) := by simp [h44, hc]
          simp [hm, h44, hc]
/-! ### The recursion -/
def itemsS (G : List UInt8 → Nat → Except Int (V × List UInt8 × Nat)) : Nat → V → List UInt8 → Nat → Except Int (V × List UInt8 × Nat)
  | 0, _, _, _ => .error 99
  | k + 1, f, t, n => match G t n with
    | .error e => .error e
    | .ok (v, t', n') => match t' with
      | [] => .error 3
      | c :: r => if c = 44 then (if f.kind = 4 then (match keyS f.keys r with | .error e => .error e | .ok (ks, r) => itemsS G k (withK (addV f v) ks) r n') else itemsS G k (addV f v) r n')
        else if c = clo f.kind then .ok (addV f v, r, n') else .error 20
def value : Nat → List UInt8 → Nat → Except Int (V × List UInt8 × Nat)
  | 0, t, n => .error 21
  | d + 1, t, n => match beginS (11 - d) n t with
    | .error e => .error e
    | .ok (.inl (v, r)) => .ok (v, r, n + 1)
    | .ok (.inr (f, r)) => itemsS (value d) 2001 f r (n + 1)
theorem numS_len {neg : Bool} {t : List UInt8} {v : Int} {r : List UInt8} (h : numS neg t = .ok (v, r)) : r.length ≤ t.length := by
  unfold numS at h
  split at h
  · cases h
  · split at h
    · cases h
    · cases h
      have := congrArg List.length (tw_dw t); rw [List.length_append] at this; omega
theorem num_len {t : List UInt8} {v : Int} {r : List UInt8} (h : num t = .ok (v, r)) : r.length ≤ t.length := by
  cases t with
  | nil => cases h
  | cons c s =>
    simp only [num] at h
    split at h
    · have := numS_len h; simp only [List.length_cons]; omega
    · exact numS_len h
theorem txt_len : ∀ (k : Nat) {t acc s r : List UInt8}, t.length ≤ k → txt t acc = .ok (s, r) → r.length ≤ t.length
  | k, [], _, _, _, _, h => by simp [txt] at h
  | 0, c :: r', _, _, _, hk, h => by simp at hk
  | k + 1, c :: r', acc, s, r, hk, h => by
    simp only [List.length_cons] at hk ⊢
    unfold txt at h
    split at h
    · cases h
    · split at h
      · cases h; omega
      · split at h
        · split at h
          · cases h
          · rename_i c' r''
            simp only [List.length_cons] at hk ⊢
            split at h
            · split at h
              · cases h
              · have := txt_len k (by omega) h; omega
            · cases h
        · split at h
          · cases h
          · have := txt_len k (by omega) h; omega
theorem keyS_len {keys ks : List (List UInt8)} {t r : List UInt8} (h : keyS keys t = .ok (ks, r)) : r.length ≤ t.length ∧ ks.length = keys.length + 1 := by
  cases t with
  | nil => cases h
  | cons c s =>
    simp only [keyS] at h
    split at h
    · split at h
      · cases h
      · rename_i s' r' htx
        have := txt_len _ (Nat.le_refl _) htx
        split at h
        · cases h
        · split at h
          · cases h
          · split at h
            · cases h; simp only [List.length_cons] at this ⊢; exact ⟨by omega, by simp⟩
            · cases h
    · cases h
end Go.Pe.Try
namespace Go.Pe.Try
open Go.Proofs Go.RowKit
set_option maxRecDepth 100000
set_option linter.unusedSimpArgs false
set_option linter.unusedVariables false
theorem openS_ok {k : Int} {r : List UInt8} {x : (V × List UInt8) ⊕ (V × List UInt8)} (h : openS k r = .ok x) : ∃ f r', x = .inr (f, r') ∧ r'.length ≤ r.length ∧ f.items = [] ∧ f.keys.length ≤ 1 := by
  unfold openS at h
  split at h
  · split at h
    · cases h
    · rename_i ks r' hk
      cases h
      have := keyS_len hk
      exact ⟨_, _, rfl, this.1, rfl, by simp only [V.keys]; simp at this; omega⟩
  · cases h; exact ⟨_, _, rfl, Nat.le_refl _, rfl, by simp [V.keys]⟩
theorem beginS_ok {d n : Nat} {t : List UInt8} {x : (V × List UInt8) ⊕ (V × List UInt8)} (h : beginS d n t = .ok x) : n ≠ 2000 ∧ match x with
    | .inl (v, r) => r.length ≤ t.length
    | .inr (f, r) => r.length ≤ t.length ∧ f.items = [] ∧ f.keys.length ≤ 1 := by
  unfold beginS at h
  split at h
  · cases h
  · split at h
    · cases h
    · rename_i hn
      refine ⟨hn, ?_⟩
      cases t with
      | nil => cases h
      | cons c r =>
        simp only at h
        generalize (if c = 123 then (4 : Int) else 3) = k at h
        split at h
        · split at h
          · cases h
          · rename_i v r' hnum
            cases h; exact num_len hnum
        · split at h
          · split at h
            · cases h
            · rename_i s r' htx
              cases h; have := txt_len _ (Nat.le_refl _) htx; simp only [List.length_cons]; omega
          · split at h
            · cases r with
              | nil =>
                obtain ⟨f, r', rfl, h1, h2, h3⟩ := openS_ok h
                exact ⟨by simp only [List.length_cons, List.length_nil] at h1 ⊢; omega, h2, h3⟩
              | cons d r' =>
                simp only at h
                split at h
                · cases h; simp only [List.length_cons]; omega
                · obtain ⟨f, r', rfl, h1, h2, h3⟩ := openS_ok h
                  exact ⟨by simp only [List.length_cons] at h1 ⊢; omega, h2, h3⟩
            · cases h
theorem round_eq (t : List UInt8) (ht : t.length ≤ 70000) (n : Nat) (hn : n ≤ 2000) (rs : List V) (hl : rs.length ≤ 12) (hb : ∀ f ∈ rs, f.items.length ≤ 100000 ∧ f.keys.length ≤ 100000) (rec : h11_p1_sh.den → Option (OutDen h11_p1_outs)) :
    h11_p1_st rec (h11_p1_y t (n : Int) rs.reverse 0 0 []) = match beginS rs.length n t with
      | .error e => some (.inl (h11_p1_o0_y e))
      | .ok (.inl (v, r)) => (match closeM v r rs with
          | .error e => some (.inl (h11_p1_o0_y e))
          | .ok (.inl (v, t)) => some (.inr (h11_p1_o1_y t ((n + 1 : Nat) : Int) [] v.kind v.n v.s v.items v.keys))
          | .ok (.inr (t, rs)) => rec (h11_p1_y t ((n + 1 : Nat) : Int) rs.reverse 0 0 []))
      | .ok (.inr (f, r)) => rec (h11_p1_y r ((n + 1 : Nat) : Int) (f :: rs).reverse 0 0 []) := by
  rw [h11_p1_eq, begin_eq t ht n hn rs.reverse (by simp; omega), List.length_reverse]
  cases hbg : beginS rs.length n t with
  | error e => simp
  | ok x =>
    cases x with
    | inl p =>
      obtain ⟨v, r⟩ := p
      simp only [Option.bind_some, h20_o_x1_y, h20_o_r0_0_y, h20_o_r0_1_y, h20_o_r0_2_y, h20_o_x0_0_y, h20_o_x0_1_y, h20_o_x0_2_y, h20_o_x0_3_y, h20_o_x0_4_y]
      unfold go
      rw [inner_eq _ 0 0 [] rs v r _ (by omega) hb (by rw [fuel_def]; omega)]
      cases closeM v r rs with
      | error e => simp
      | ok y =>
        cases y with
        | inl p => simp
        | inr p => simp
    | inr p =>
      obtain ⟨f, r⟩ := p
      simp only [Option.bind_some, h20_o_x1_y, h20_o_r0_0_y, h20_o_r0_1_y, h20_o_r0_2_y, h20_o_x0_0_y, h20_o_x0_1_y, h20_o_x0_2_y, h20_o_x0_3_y, h20_o_x0_4_y]
      have hf : ∀ y : h11_p0_sh.den, ∃ m, fuelOf h11_p0_sh y = m + 1 := fun y => ⟨fuelOf h11_p0_sh y - 1, by rw [fuel_def]; omega⟩
      unfold go
      obtain ⟨m, hm⟩ := hf (h11_p0_y false r ((n + 1 : Nat) : Int) (rs.reverse ++ [f]) 0 0 [] 0 0 [] [] [])
      rw [hm, iter, h11_p0_eq]
      simp
noncomputable def cont (K : Nat) (v : V) (t : List UInt8) (n : Nat) (rs : List V) : Option (OutDen h11_p1_outs) := match closeM v t rs with
  | .error e => some (.inl (h11_p1_o0_y e))
  | .ok (.inl (v, t)) => some (.inr (h11_p1_o1_y t (n : Int) [] v.kind v.n v.s v.items v.keys))
  | .ok (.inr (t, rs)) => iter h11_p1_st K (h11_p1_y t (n : Int) rs.reverse 0 0 [])
def okS (n : Nat) (rs : List V) : Prop := ∀ f ∈ rs, f.items.length ≤ n ∧ f.keys.length ≤ n + 1
theorem okS.mono {n m : Nat} {rs : List V} (h : okS n rs) (hm : n ≤ m) : okS m rs := fun f hf => ⟨Nat.le_trans (h f hf).1 hm, by have := (h f hf).2; omega⟩
def Run (K : Nat) (t : List UInt8) (n : Nat) (rs rs0 : List V) (x : Except Int (V × List UInt8 × Nat)) : Prop := match x with
  | .error e => iter h11_p1_st K (h11_p1_y t (n : Int) rs.reverse 0 0 []) = some (.inl (h11_p1_o0_y e))
  | .ok (v, t', n') => t'.length ≤ t.length ∧ n < n' ∧ n' ≤ 2000 ∧ iter h11_p1_st K (h11_p1_y t (n : Int) rs.reverse 0 0 []) = cont (K - (n' - n)) v t' n' rs0
theorem items_run (G : List UInt8 → Nat → Except Int (V × List UInt8 × Nat)) (rs : List V)
    (hG : ∀ f t n K, n ≤ 2000 → okS n (f :: rs) → t.length ≤ 70000 → 2002 ≤ K + n → Run K t n (f :: rs) (f :: rs) (G t n)) :
    ∀ (k : Nat) (f : V) (t : List UInt8) (n K : Nat), n ≤ 2000 → okS n (f :: rs) → t.length ≤ 70000 → 2002 ≤ K + n → 2001 ≤ k + n → Run K t n (f :: rs) rs (itemsS G k f t n) := by
  intro k
  induction k with
  | zero => intro f t n K h1 _ _ _ h5; omega
  | succ k ih =>
    intro f t n K h1 h2 h3 h4 h5
    have hg := hG f t n K h1 h2 h3 h4
    unfold itemsS
    cases hGt : G t n with
    | error e => rw [hGt] at hg; exact hg
    | ok p =>
      obtain ⟨v, t', n'⟩ := p
      rw [hGt] at hg
      obtain ⟨g1, g2, g3, g4⟩ := hg
      have hf := h2 f (by simp)
      have hfa : (addV f v).items.length ≤ n' ∧ (addV f v).keys.length ≤ n' + 1 := ⟨by show (f.items ++ [v]).length ≤ n'; simp only [List.length_append, List.length_singleton]; omega, by show f.keys.length ≤ n' + 1; omega⟩
      simp only
      cases t' with
      | nil =>
        simp only [Run]; rw [g4]; unfold cont closeM; rfl
      | cons c r =>
        simp only [List.length_cons] at g1
        simp only
        by_cases h44 : c = 44
        · simp only [h44, if_true]
          by_cases hk4 : f.kind = 4
          · simp only [hk4, if_true]
            cases hks : keyS f.keys r with
            | error e => simp only [Run]; rw [g4]; unfold cont closeM; simp [h44, hk4, hks]
            | ok p =>
              obtain ⟨ks, r'⟩ := p
              simp only
              have hkl := keyS_len hks
              have hok : okS n' (withK (addV f v) ks :: rs) := fun g hg' => by
                rcases List.mem_cons.1 hg' with rfl | hg'
                · exact ⟨show (addV f v).items.length ≤ n' from hfa.1, by show ks.length ≤ n' + 1; omega⟩
                · exact (h2.mono (by omega)) g (by simp [hg'])
              have hr := ih (withK (addV f v) ks) r' n' (K - (n' - n)) g3 hok (by omega) (by omega) (by omega)
              have hstep : iter h11_p1_st K (h11_p1_y t (n : Int) (f :: rs).reverse 0 0 []) = iter h11_p1_st (K - (n' - n)) (h11_p1_y r' (n' : Int) (withK (addV f v) ks :: rs).reverse 0 0 []) := by
                rw [g4]; unfold cont closeM; simp only [h44, if_true, hk4, hks]
              cases hi : itemsS G k (withK (addV f v) ks) r' n' with
              | error e => rw [hi] at hr; simp only [Run] at hr ⊢; rw [hstep]; exact hr
              | ok q =>
                obtain ⟨v2, t2, n2⟩ := q
                rw [hi] at hr
                obtain ⟨q1, q2, q3, q4⟩ := hr
                refine ⟨by omega, by omega, q3, ?_⟩
                rw [hstep, q4, show K - (n' - n) - (n2 - n') = K - (n2 - n) by omega]
          · simp only [hk4, if_false]
            have hok : okS n' (addV f v :: rs) := fun g hg' => by
              rcases List.mem_cons.1 hg' with rfl | hg'
              · exact hfa
              · exact (h2.mono (by omega)) g (by simp [hg'])
            have hr := ih (addV f v) r n' (K - (n' - n)) g3 hok (by omega) (by omega) (by omega)
            have hstep : iter h11_p1_st K (h11_p1_y t (n : Int) (f :: rs).reverse 0 0 []) = iter h11_p1_st (K - (n' - n)) (h11_p1_y r (n' : Int) (addV f v :: rs).reverse 0 0 []) := by
              rw [g4]; unfold cont closeM; simp only [h44, if_true, hk4, if_false]
            cases hi : itemsS G k (addV f v) r n' with
            | error e => rw [hi] at hr; simp only [Run] at hr ⊢; rw [hstep]; exact hr
            | ok q =>
              obtain ⟨v2, t2, n2⟩ := q
              rw [hi] at hr
              obtain ⟨q1, q2, q3, q4⟩ := hr
              refine ⟨by omega, by omega, q3, ?_⟩
              rw [hstep, q4, show K - (n' - n) - (n2 - n') = K - (n2 - n) by omega]
        · simp only [h44, if_false]
          by_cases hc : c = clo f.kind
          · rw [if_pos hc]
            refine ⟨by omega, g2, g3, ?_⟩
            rw [g4]; unfold cont; rw [closeM]; simp only [h44, if_false]; rw [if_pos hc]
          · rw [if_neg hc]
            simp only [Run]; rw [g4]; unfold cont closeM; simp [h44, hc]
theorem value_run : ∀ (d : Nat) (t : List UInt8) (n : Nat) (rs : List V) (K : Nat), rs.length + d = 12 → n ≤ 2000 → okS n rs → t.length ≤ 70000 → 2002 ≤ K + n → Run K t n rs rs (value d t n) := by
  intro d
  induction d with
  | zero =>
    intro t n rs K hl hn hok ht hK
    obtain ⟨K, rfl⟩ : ∃ j, K = j + 1 := ⟨K - 1, by omega⟩
    have hb : ∀ f ∈ rs, f.items.length ≤ 100000 ∧ f.keys.length ≤ 100000 := fun f hf => by have := hok f hf; omega
    simp only [value, Run]
    rw [iter, round_eq t ht n hn rs (by omega) hb]
    have : beginS rs.length n t = .error 21 := by unfold beginS; rw [if_pos (by omega)]
    rw [this]
  | succ d ih =>
    intro t n rs K hl hn hok ht hK
    obtain ⟨K, rfl⟩ : ∃ j, K = j + 1 := ⟨K - 1, by omega⟩
    have hb : ∀ f ∈ rs, f.items.length ≤ 100000 ∧ f.keys.length ≤ 100000 := fun f hf => by have := hok f hf; omega
    have hstep := round_eq t ht n hn rs (by omega) hb (iter h11_p1_st K)
    have hit : iter h11_p1_st (K + 1) (h11_p1_y t (n : Int) rs.reverse 0 0 []) = h11_p1_st (iter h11_p1_st K) (h11_p1_y t (n : Int) rs.reverse 0 0 []) := by rw [iter]
    have hd : 11 - d = rs.length := by omega
    unfold value
    rw [hd]
    cases hbg : beginS rs.length n t with
    | error e => rw [hbg] at hstep; simp only [Run]; rw [hit, hstep]
    | ok x =>
      rw [hbg] at hstep
      have hbo := beginS_ok hbg
      cases x with
      | inl p =>
        obtain ⟨v, r⟩ := p
        simp only at hbo hstep
        refine ⟨hbo.2, by omega, by omega, ?_⟩
        rw [hit, hstep]
        have : K + 1 - (n + 1 - n) = K := by omega
        rw [this]; rfl
      | inr p =>
        obtain ⟨f, r⟩ := p
        simp only at hbo hstep
        obtain ⟨hn2, hrl, hfi, hfk⟩ := hbo
        have hok' : okS (n + 1) (f :: rs) := fun g hg => by
          rcases List.mem_cons.1 hg with rfl | hg
          · exact ⟨by rw [hfi]; simp, by omega⟩
          · exact (hok.mono (by omega)) g hg
        have hr := items_run (value d) rs (fun f t n K h1 h2 h3 h4 => ih t n (f :: rs) K (by simp only [List.length_cons]; omega) h1 h2 h3 h4) 2001 f r (n + 1) K (by omega) hok' (by omega) (by omega) (by omega)
        simp only
        cases hi : itemsS (value d) 2001 f r (n + 1) with
        | error e => rw [hi] at hr; simp only [Run] at hr ⊢; rw [hit, hstep]; exact hr
        | ok q =>
          obtain ⟨v2, t2, n2⟩ := q
          rw [hi] at hr
          obtain ⟨q1, q2, q3, q4⟩ := hr
          refine ⟨by omega, by omega, q3, ?_⟩
          rw [hit, hstep, q4, show K + 1 - (n2 - n) = K - (n2 - (n + 1)) by omega]
/-- The parser's value. -/
theorem read_eq (t : List UInt8) (ht : t.length ≤ 70000) : h11_F (h11_y t 0 []) = some (match value 12 t 0 with
    | .error e => .inr (h11_z_y e)
    | .ok (v, t', n) => .inl (h11_o_y v.kind v.n v.s v.items v.keys t' (n : Int) [])) := by
  have h := value_run 12 t 0 [] (fuelOf h11_p1_sh (h11_p1_y t ((0 : Nat) : Int) ([] : List V).reverse 0 0 [])) rfl (by omega) (fun f hf => by simp at hf) ht (by rw [fuel_def]; omega)
  rw [h11_eq]
  unfold go
  cases hv : value 12 t 0 with
  | error e =>
    rw [hv] at h
    simp only [Run] at h
    have h' : iter h11_p1_st (fuelOf h11_p1_sh (h11_p1_y t 0 [] 0 0 [])) (h11_p1_y t 0 [] 0 0 []) = _ := h
    rw [h']; simp
  | ok p =>
    obtain ⟨v, t', n'⟩ := p
    rw [hv] at h
    obtain ⟨_, _, _, h⟩ := h
    have h' : iter h11_p1_st (fuelOf h11_p1_sh (h11_p1_y t 0 [] 0 0 [])) (h11_p1_y t 0 [] 0 0 []) = _ := h
    rw [h']; simp [cont, closeM]
end Go.Pe.Try
