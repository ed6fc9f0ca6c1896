import Derived.Test.YtgkolhopfiogpaaPeW18f
namespace Go.Pe.Try
open Go.Proofs Go.RowKit
set_option maxRecDepth 100000
theorem cut_min {α S : Type} (l : List α) (m : Nat) (K : List α → Option S) : cutHi l (minI (l.length : Int) (m : Int)) K = K (l.take m) := by
  have h : minI (l.length : Int) (m : Int) = ((min m l.length : Nat) : Int) := by
    rw [minI_eq]; split <;> omega
  rw [h, cutHi, if_pos (by omega), Int.toNat_natCast]
  congr 1
  rcases Nat.le_total m l.length with h | h
  · rw [Nat.min_eq_left h]
  · rw [Nat.min_eq_right h, List.take_of_length_le (Nat.le_refl _), List.take_of_length_le h]
def tk (s : List UInt8) : List UInt8 := s.take 100
theorem tk_len (s : List UInt8) : (tk s).length ≤ 100 := by simp [tk]; omega
theorem flat_len : ∀ (l : List (List UInt8)), (∀ s ∈ l, s.length ≤ 100) → (l.flatMap frame).length ≤ l.length * 104
  | [], _ => by simp
  | s :: l, h => by
    have := flat_len l fun t ht => h t (by simp [ht])
    have h2 := h s (by simp)
    rw [List.flatMap_cons, List.length_append, List.length_cons, frame, List.length_append, be4_length]; omega
theorem law_loop (x0 x7 : List UInt8) (x8 : Int) (l : List (List UInt8)) (hl : l.length ≤ 20) : ∀ (d i : Nat), i + d = l.length → ∀ n, d + 1 ≤ n →
    iter f3_p1_st n (f3_p1_y x0 x7 x8 (((l.map tk).take i).flatMap frame) l.length i ((l.map tk).take i ++ l.drop i)) = some (.inl (f3_p1_o0_y x0 x7 x8 ((l.map tk).flatMap frame) (l.map tk))) := by
  intro d
  induction d with
  | zero =>
    intro i hi n hn
    obtain ⟨n, rfl⟩ : ∃ k, n = k + 1 := ⟨n - 1, by omega⟩
    rw [iter, f3_p1_eq]
    have h3 : decide ((i : Int) < (l.length : Int)) = false := by simp; omega
    have h4 : l.drop i = [] := List.drop_eq_nil_of_le (by omega)
    have h5 : (l.map tk).take i = l.map tk := List.take_of_length_le (by simp; omega)
    rw [h3, cond_false, h4, h5, List.append_nil]
  | succ d ih =>
    intro i hi n hn
    obtain ⟨n, rfl⟩ : ∃ k, n = k + 1 := ⟨n - 1, by omega⟩
    rw [iter, f3_p1_eq]
    have h3 : decide ((i : Int) < (l.length : Int)) = true := by simp; omega
    have hil : i < l.length := by omega
    have hlen : ((l.map tk).take i).length = i := by simp; omega
    have hL : ((l.map tk).take i ++ l.drop i).length = l.length := by simp; omega
    have hg : ((l.map tk).take i ++ l.drop i)[i]? = some l[i] := by
      rw [List.getElem?_append_right (by omega), hlen, Nat.sub_self]; simp [hil]
    have hset : ((l.map tk).take i ++ l.drop i).set i (tk l[i]) = (l.map tk).take (i + 1) ++ l.drop (i + 1) := by
      rw [List.set_append, if_neg (by omega), hlen, Nat.sub_self, List.drop_eq_getElem_cons hil, List.set_cons_zero, List.take_succ_eq_append_getElem (by simpa using hil)]
      simp
    rw [h3, cond_true, within, if_pos (by omega), Int.toNat_natCast, hg, Option.bind_some]
    have hc := cut_min (S := OutDen f3_p1_outs) l[i] 100
    rw [show ((100 : Nat) : Int) = 100 from rfl] at hc
    rw [hc]
    rw [show l[i].take 100 = tk l[i] from rfl, hset]
    have hL2 : ((l.map tk).take (i + 1) ++ l.drop (i + 1)).length = l.length := by simp; omega
    have hg2 : ((l.map tk).take (i + 1) ++ l.drop (i + 1))[i]? = some (tk l[i]) := by
      rw [List.getElem?_append_left (by simp; omega)]; simp [hil]
    rw [within, if_pos (by omega), Option.bind_some, within, if_pos (by omega), hg2, Option.bind_some, frame_eq _ (by have := tk_len l[i]; omega), Option.bind_some]
    have hw : IntKind.i64.wrap ((i : Int) + 1) = ((i + 1 : Nat) : Int) := by rw [wrap64 (by omega) (by omega)]; rfl
    have hf := flat_len ((l.map tk).take i) (fun s hs => by obtain ⟨t, _, rfl⟩ := List.mem_map.1 (List.mem_of_mem_take hs); exact tk_len t)
    have ht := tk_len l[i]
    have e : ((l.map tk).take i).flatMap frame ++ frame (tk l[i]) = ((l.map tk).take (i + 1)).flatMap frame := by
      rw [List.take_succ_eq_append_getElem (by simpa using hil)]; simp
    rw [show ((0 : Int) != 0) = false from rfl, cond_false, if_pos (by simp only [frame, List.length_append, be4_length] at *; omega), e, hw, ih (i + 1) (by omega) n (by omega)]
end Go.Pe.Try
