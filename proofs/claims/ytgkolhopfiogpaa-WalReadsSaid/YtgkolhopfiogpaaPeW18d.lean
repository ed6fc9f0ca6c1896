import Derived.Test.YtgkolhopfiogpaaPeW18c
namespace Go.Pe.Try
open Go.Proofs Go.RowKit
set_option maxRecDepth 100000
def frame (s : List UInt8) : List UInt8 := be4 s.length ++ s
theorem be4_length (n : Nat) : (be4 n).length = 4 := rfl
theorem frame_eq (s : List UInt8) (h : s.length ≤ 4096) : f11_F (s, ()) = some (frame s, (0, ())) := by
  rw [f11_eq]
  have h1 : decide ((s.length : Int) > 4096) = false := by simp; omega
  rw [h1, cond_false, wrapU64 (by omega) (by omega), big_eq _ (by omega), Option.bind_some]
  rw [if_pos (by rw [be4_length]; omega)]; rfl
theorem frame_long (s : List UInt8) (h : 4096 < s.length) : f11_F (s, ()) = some ([], (2, ())) := by
  rw [f11_eq]
  have h1 : decide ((s.length : Int) > 4096) = true := by simp; omega
  rw [h1, cond_true]
theorem frames_loop (l : List (List UInt8)) (hl : l.length ≤ 1048576) (hs : ∀ s ∈ l, s.length ≤ 4096) : ∀ (d i : Nat), i + d = l.length → ∀ n, d + 1 ≤ n → ∀ acc : List UInt8, acc.length ≤ i * 4100 →
    iter f16_p0_st n (f16_p0_y acc l l.length i) = some (f16_p0_o0_y (acc ++ (l.drop i).flatMap frame)) := by
  intro d
  induction d with
  | zero =>
    intro i hi n hn acc ha
    obtain ⟨n, rfl⟩ : ∃ k, n = k + 1 := ⟨n - 1, by omega⟩
    rw [iter, f16_p0_eq]
    have h3 : decide ((i : Int) < (l.length : Int)) = false := by simp; omega
    have : l.drop i = [] := List.drop_eq_nil_of_le (by omega)
    rw [h3, cond_false, this]; simp
  | succ d ih =>
    intro i hi n hn acc ha
    obtain ⟨n, rfl⟩ : ∃ k, n = k + 1 := ⟨n - 1, by omega⟩
    rw [iter, f16_p0_eq]
    have h3 : decide ((i : Int) < (l.length : Int)) = true := by simp; omega
    have hil : i < l.length := by omega
    have hsi := hs l[i] (List.getElem_mem hil)
    rw [h3, cond_true, nth_nat, List.getElem?_eq_getElem hil, Option.bind_some, wrapU64 (by omega) (by omega), big_ref _ (by omega), Option.bind_some]
    have hw : IntKind.i64.wrap ((i : Int) + 1) = ((i + 1 : Nat) : Int) := by rw [wrap64 (by omega) (by omega)]; rfl
    rw [if_pos (by rw [be4_length]; omega), if_pos (by rw [List.length_append, be4_length]; omega), hw]
    rw [ih (i + 1) (by omega) n (by omega) _ (by simp [be4_length]; omega)]
    have hd : l.drop i = l[i] :: l.drop (i + 1) := List.drop_eq_getElem_cons hil
    rw [hd, List.flatMap_cons, frame, List.append_assoc, List.append_assoc, List.append_assoc]
theorem frames_eq (l : List (List UInt8)) (hl : l.length ≤ 1048576) (hs : ∀ s ∈ l, s.length ≤ 4096) : f16_F (l, ()) = some (l.flatMap frame, ()) := by
  rw [f16_eq]
  have : go f16_p0_st (f16_p0_y [] l l.length 0) = some (f16_p0_o0_y (l.flatMap frame)) := by
    refine go_le (m := l.length + 1) (fun n hn => ?_) ?_
    · have := frames_loop l hl hs l.length 0 (by omega) n hn [] (by simp)
      simpa using this
    · simp only [fuelOf, fuelL, SAV.fuel, Ty.fuel, fuelR, fuelT]
      omega
  rw [this]; rfl
end Go.Pe.Try
