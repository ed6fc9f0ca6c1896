/- The law ValuePrints. -/
import Derived.Test.YtgghmllnhaahgaaDoorPeXV8
set_option linter.unusedSectionVars false
set_option linter.unusedVariables false
set_option linter.unusedSimpArgs false
namespace Go.Pe.Tryd
open Go.Proofs Go.RowKit
set_option maxRecDepth 100000
def alV : V := .mk 3 0 [] [.mk 1 1 [] [] [], .mk 2 0 [97, 34, 98] [] []] []
theorem alV_right : right alV = true := by
  simp [right, alV, dep, depL, cnt, cntL, each, eachL, mayP, noIt, tok, ctl]
theorem alV_txt : txt alV = [91, 49, 44, 34, 97, 92, 34, 98, 34, 93] := by
  simp [txt, alV, txtL, quo, esc, Lib.itoa, Lib.decDigits]
theorem f13_ok' : f13_F () = some (true, ()) := by
  rw [f13_eq, f23_eq, Option.bind_some, f22_eq, Option.bind_some, f28_eq, Option.bind_some]
  dsimp only
  have h := f14_ok' alV (by simp [alV, cnt, cntL])
  unfold prn at h
  rw [if_pos alV_right, alV_txt] at h
  have h' : f14_F (((3 : Int), ((0 : Int), (([] : List UInt8), (([V.mk 1 1 [] [] [], V.mk 2 0 [97, 34, 98] [] []] : List V), (([] : List (List UInt8)), ()))))), ()) = _ := h
  rw [h', Option.bind_some]; rfl
theorem f12_ok' (v : V) : f12_F (va v, ()) = some (decide (2100 < cnt v), ()) := by
  obtain ⟨k, n, s, items, keys⟩ := v
  have h := f16_ok' 2100 (.mk k n s items keys) (by omega)
  rw [va_mk] at *
  have h' : f16_F ((k, (n, (s, (items, (keys, ()))))), ((2100 : Int), ())) = _ := h
  rw [f12_eq, h', Option.bind_some]
  have e : decide (((min (cnt (V.mk k n s items keys)) (2100 + 1) : Nat) : Int) > 2100) = decide (2100 < cnt (V.mk k n s items keys)) := by
    rw [Bool.eq_iff_iff, decide_eq_true_eq, decide_eq_true_eq]; omega
  dsimp only
  rw [e]
theorem lawPrints (v : V) (hw : WfV reachBytes v) : f3_F (va v, ()) = some (true, ()) := by
  have h12 := f12_ok' v
  have h13 := f13_ok'
  by_cases hb : 2100 < cnt v
  · obtain ⟨k, n, s, items, keys⟩ := v
    rw [va_mk] at *
    rw [f3_eq, h12, Option.bind_some, decide_eq_true hb]
    dsimp only
    rw [cond_true, h13]; rfl
  · have h14 := f14_ok' v (by omega)
    have h15 := f15_ok' v (by omega)
    have h16 := f16_ok' 3000 v (by omega)
    have h17 := f17_ok' v (by omega)
    have h18 := f18_ok' v (by omega)
    have h19 := f19_ok' v (by omega)
    have h20 := f20_ok' v hw (by omega)
    have h21 := f21_ok' v (by omega)
    have hmin : min (cnt v) (3000 + 1) = cnt v := by omega
    rw [hmin] at h16
    have hr : right v = true → each v = true := fun h => by
      unfold right at h
      simp only [Bool.and_eq_true] at h
      exact h.2.2
    obtain ⟨k, n, s, items, keys⟩ := v
    rw [va_mk] at *
    have h16' : f16_F ((k, (n, (s, (items, (keys, ()))))), ((3000 : Int), ())) = _ := h16
    rw [f3_eq, h12, Option.bind_some, decide_eq_false hb]
    dsimp only
    rw [cond_false, h14, Option.bind_some]
    dsimp only
    generalize V.mk k n s items keys = v at *
    rw [f3_p0_eq, h15, Option.bind_some, h16', Option.bind_some]
    dsimp only
    rw [bne_self_eq_false, cond_false, h17, Option.bind_some, h18, Option.bind_some]
    dsimp only
    rw [bne_self_eq_false, cond_false, h19, Option.bind_some, h20, Option.bind_some]
    dsimp only
    rw [bne_self_eq_false, cond_false, h13, Option.bind_some, Option.bind_some, f3_p0_o0_x35_y]
    dsimp only
    rw [Bool.not_true, cond_false, f3_p0_o0_r0_0_y, f3_p0_o0_r0_1_y, f3_p0_o0_r0_2_y, f3_p0_o0_r0_3_y, f3_p0_o0_r0_4_y, f3_p0_o0_x4_y, f3_p0_o0_x3_y, h20, Option.bind_some]
    dsimp only
    unfold prn
    cases hrv : right v with
    | false => rfl
    | true =>
      rw [Bool.not_true, cond_false, if_pos rfl]
      dsimp only
      have q : ((0 : Int) == 0) = true := rfl
      rw [q, cond_true, h21 (hr hrv), Option.bind_some]
      simp
end Go.Pe.Tryd
