/- The laws WalMore and WalBack. -/
import Derived.Test.YtgkolhopfiogpaaPeX18d
namespace Go.Pe.Try
open Go.Proofs Go.RowKit Go.Pe.X18
set_option maxRecDepth 100000
theorem repeatL_len (l : List UInt8) : ∀ n, (Lib.repeatL l n).length = n * l.length
  | 0 => by simp [Lib.repeatL]
  | n + 1 => by rw [Lib.repeatL, List.length_append, repeatL_len l n, Nat.succ_mul]; omega
theorem repeat_one (s : List UInt8) (h : s.length = 1) : repeatF (s, ((128 : Int), ())) = some (Lib.repeatL s 128, ()) := by
  unfold repeatF
  rw [if_pos (show (0 : Int) ≤ (128 : Int) ∧ (128 : Int) ≤ 9223372036854775807 ∧ s.length * Int.toNat 128 ≤ 140737488355328 from ⟨by omega, by omega, by rw [h]; decide⟩)]
  rfl
/-- A number of sectors, brought within bounds. -/
theorem bound_n (a0 : Int) : ∃ m : Nat, minI (maxI a0 1) 20 = (m : Int) ∧ 1 ≤ m ∧ m ≤ 20 := by
  rw [minI_eq, maxI_eq]
  refine ⟨(if (20 : Int) < (if a0 < 1 then 1 else a0) then 20 else (if a0 < 1 then 1 else a0) : Int).toNat, ?_⟩
  split <;> split <;> omega
theorem may_of {s : List (List UInt8)} (hu : Uni s) (hl : s.length ≤ 64) {used : Nat} (h : used ≤ 128 * s.length) : May s (used : Int) := ⟨hl, hu, by omega, by omega⟩
theorem lay_ok {s : List (List UInt8)} (hu : Uni s) (hl : s.length ≤ 64) {used : Nat} {data : List UInt8} (h : used + data.length ≤ 128 * s.length) : f31_F (s, ((used : Int), (data, ()))) = some (lays s used data, (0, ())) := by
  rw [lay_eq s used data (by omega) (by omega) ⟨by omega, by omega⟩, if_pos (may_of hu hl (by omega)), if_neg (by omega)]; rfl
theorem text_ok {s : List (List UInt8)} (hu : Uni s) (hl : s.length ≤ 64) {used : Nat} (h : used ≤ 128 * s.length) : f32_F (s, ((used : Int), ())) = some (s.flatten.take used, (0, ())) := by
  rw [text_eq s used (by omega), if_pos (may_of hu hl h)]; rfl
theorem of_bounds {all : List UInt8} {n : Nat} {l : List (Int × List UInt8)} (h : Of all n l) : ∀ w ∈ l, 0 ≤ w.1 ∧ w.1 < n := by
  intro w hw
  obtain ⟨j, hj, rfl⟩ := h w hw
  simp only; omega
theorem lays_len (s : List (List UInt8)) (used : Nat) (data : List UInt8) (h : used + data.length ≤ 128 * s.length) (hl : s.length ≤ 64) : (lays s used data).length ≤ 64 := by
  have := many_le h
  show (writes _ _ _).length ≤ 64
  rw [writes_len]; omega
theorem with_ok {s : List (List UInt8)} (hl : s.length ≤ 64) {all : List UInt8} {l : List (Int × List UInt8)} (h : Of all s.length l) (hl2 : l.length ≤ 64) : f38_F (s, (l, ())) = some (put s l, ()) :=
  with_eq s l (by omega) (by omega) (of_bounds h)
theorem lay_put_uni {s : List (List UInt8)} (hu : Uni s) {used : Nat} {data : List UInt8} (h : used + data.length ≤ 128 * s.length) : Uni (put s (lays s used data)) := put_uni (lay_of h) (by rw [whole_len hu h]; omega) rfl hu

/-! ### WalMore -/
theorem more_loop (m : Nat) (a b : List UInt8) (hm : m ≤ 20) : go f10_p2_st (f10_p2_y m a b m 0 []) = some (f10_p2_o0_y m a b (List.replicate m (Lib.repeatL [122] 128))) := by
  refine go_seq (y := fun i => f10_p2_y m a b m i (List.replicate i (Lib.repeatL [122] 128))) (n := m) (fun i hi rec => ?_) (fun rec => ?_) ?_
  · rw [f10_p2_eq, repeat_one _ rfl, Option.bind_some, wrap64 (by omega) (by omega), appOk_lt (by simp; omega)]
    have h3 : (i : Int) < m := by omega
    simp only [h3, decide_true, cond_true]
    rw [List.replicate_succ']; rfl
  · rw [f10_p2_eq]; simp
  · simp only [fuelOf, f10_p2_y, fuelL, SAV.fuel, Ty.fuel, fuelR, fuelT]; omega
theorem lawMore (x0 : Int) (x1 x2 : List UInt8) (_ : Wf reachBytes (.int .i64) x0) (_ : Wf reachBytes .str x1) (_ : Wf reachBytes .str x2) : f10_F (x0, (x1, (x2, ()))) = some (true, ()) := by
  rw [f10_eq, show (400 : Int) = ((400 : Nat) : Int) from rfl, cut_min, cut_min]
  have ha : (x1.take 400).length ≤ 400 := by rw [List.length_take]; omega
  have hb : (x2.take 400).length ≤ 400 := by rw [List.length_take]; omega
  generalize x1.take 400 = a at ha
  generalize x2.take 400 = b at hb
  obtain ⟨m, hm, h1, h2⟩ := bound_n x0
  rw [hm, more_loop m a b h2, Option.bind_some]
  have w1 : IntKind.i64.wrap ((a.length : Int) + (b.length : Int)) = ((a.length + b.length : Nat) : Int) := by rw [wrap64 (by omega) (by omega)]; omega
  have w2 : IntKind.i64.wrap (128 * (m : Int)) = 128 * (m : Int) := wrap64 (by omega) (by omega)
  simp only [f10_p2_o0_x0_y, f10_p2_o0_x1_y, f10_p2_o0_x2_y, f10_p2_o0_l0_y, w1, w2]
  by_cases hroom : ((a.length + b.length : Nat) : Int) > 128 * (m : Int)
  · simp only [hroom, decide_true, cond_true, alive, Option.bind_some]
  · simp only [hroom, decide_false, cond_false]
    have hSl : (List.replicate m (Lib.repeatL [122] 128)).length = m := List.length_replicate
    have hSu : Uni (List.replicate m (Lib.repeatL [122] 128)) := by
      intro x hx
      rw [(List.mem_replicate.1 hx).2, repeatL_len]; rfl
    generalize List.replicate m (Lib.repeatL [122] 128) = S at hSl hSu
    have q1 := lay_ok hSu (by omega) (used := 0) (data := a) (by omega)
    have q2 := with_ok (s := S) (by omega) (lay_of (used := 0) (data := a) (by omega)) (lays_len S 0 a (by omega) (by omega))
    have hFl : (put S (lays S 0 a)).length = S.length := put_len _ _
    have hFu := lay_put_uni hSu (used := 0) (data := a) (by omega)
    have hFt := lay_text hSu (used := 0) (data := a) (by omega)
    simp only [Nat.zero_add, List.take_zero, List.nil_append] at hFt
    rw [show ((0 : Nat) : Int) = 0 from rfl] at q1
    rw [q1, Option.bind_some]
    dsimp only
    rw [q2, Option.bind_some]
    dsimp only
    generalize put S (lays S 0 a) = F at hFl hFu hFt
    have q3 := lay_ok hFu (by omega) (used := a.length) (data := b) (by omega)
    have q4 := with_ok (s := F) (by omega) (lay_of (used := a.length) (data := b) (by omega)) (lays_len F a.length b (by omega) (by omega))
    have hBu := lay_put_uni hFu (used := a.length) (data := b) (by omega)
    have hBl : (put F (lays F a.length b)).length = F.length := put_len _ _
    have hBt := lay_text hFu (used := a.length) (data := b) (by omega)
    rw [hFt] at hBt
    have q5 := lay_ok hSu (by omega) (used := 0) (data := a ++ b) (by rw [List.length_append]; omega)
    have q6 := with_ok (s := S) (by omega) (lay_of (used := 0) (data := a ++ b) (by rw [List.length_append]; omega)) (lays_len S 0 (a ++ b) (by rw [List.length_append]; omega) (by omega))
    have hMu := lay_put_uni hSu (used := 0) (data := a ++ b) (by rw [List.length_append]; omega)
    have hMl : (put S (lays S 0 (a ++ b))).length = S.length := put_len _ _
    have hMt := lay_text hSu (used := 0) (data := a ++ b) (by rw [List.length_append]; omega)
    simp only [Nat.zero_add, List.take_zero, List.nil_append, List.length_append] at hMt
    rw [show ((0 : Nat) : Int) = 0 from rfl] at q5
    have q7 := text_ok hBu (by omega) (used := a.length + b.length) (by omega)
    have q8 := text_ok hMu (by omega) (used := a.length + b.length) (by omega)
    rw [f10_p1_eq, q3, Option.bind_some]
    dsimp only
    rw [q4, Option.bind_some, if_pos (by omega), q5, Option.bind_some, w1]
    dsimp only
    rw [q7, Option.bind_some, q6, Option.bind_some]
    dsimp only
    rw [q8, Option.bind_some, hBt, hMt]
    dsimp only
    rw [f10_p0_eq, alive, if_pos (by omega), if_pos (by omega)]
    simp
end Go.Pe.Try
