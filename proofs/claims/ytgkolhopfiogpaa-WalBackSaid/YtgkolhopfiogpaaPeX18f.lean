/- The law WalBack. -/
import Derived.Test.YtgkolhopfiogpaaPeX18e
namespace Go.Pe.Try
open Go.Proofs Go.RowKit Go.Pe.X18
set_option maxRecDepth 100000
/-- One of the row's sectors. -/
def sec (fill : Int) (i : Nat) : List UInt8 := Lib.repeatL (strOf [IntKind.u8.wrap (fill + IntKind.u8.wrap (i : Int))]) 128
def secs (fill : Int) : Nat → List (List UInt8)
  | 0 => []
  | n + 1 => secs fill n ++ [sec fill n]
theorem secs_len (fill : Int) : ∀ n, (secs fill n).length = n
  | 0 => rfl
  | n + 1 => by simp [secs, secs_len fill n]
theorem secs_uni (fill : Int) : ∀ n, Uni (secs fill n)
  | 0 => by simp [secs, Uni]
  | n + 1 => by
    intro x hx
    simp only [secs, List.mem_append, List.mem_singleton] at hx
    rcases hx with hx | rfl
    · exact secs_uni fill n x hx
    · rw [sec, repeatL_len]; rfl
theorem back_loop (m : Nat) (x1 fill : Int) (x3 : List UInt8) (x4 : List Bool) (hm : m ≤ 20) : go f9_p6_st (f9_p6_y m x1 fill x3 x4 m 0 []) = some (f9_p6_o0_y m x1 x3 x4 (secs fill m)) := by
  refine go_seq (y := fun i => f9_p6_y m x1 fill x3 x4 m i (secs fill i)) (n := m) (fun i hi rec => ?_) (fun rec => ?_) ?_
  · rw [f9_p6_eq, repeat_one _ rfl, Option.bind_some, wrap64 (by omega) (by omega), appOk_lt (by rw [secs_len]; simp; omega)]
    have h3 : (i : Int) < m := by omega
    simp only [h3, decide_true, cond_true]
    rfl
  · rw [f9_p6_eq]; simp
  · simp only [fuelOf, f9_p6_y, fuelL, SAV.fuel, Ty.fuel, fuelR, fuelT]; omega
/-- Those that are kept. -/
def selK (keep : List Bool) (l : List (Int × List UInt8)) : Nat → List (Int × List UInt8)
  | 0 => []
  | i + 1 => selK keep l i ++ (if keep[i]? = some true then (l[i]?).toList else [])
theorem selK_len (keep : List Bool) (l : List (Int × List UInt8)) : ∀ n, (selK keep l n).length ≤ n
  | 0 => by simp [selK]
  | n + 1 => by
    have := selK_len keep l n
    simp only [selK, List.length_append]
    split
    · cases l[n]? <;> simp <;> omega
    · simp; omega
theorem selK_mem (keep : List Bool) (l : List (Int × List UInt8)) : ∀ n, ∀ w ∈ selK keep l n, w ∈ l
  | 0, w, h => by simp [selK] at h
  | n + 1, w, h => by
    simp only [selK, List.mem_append] at h
    rcases h with h | h
    · exact selK_mem keep l n w h
    · split at h
      · cases e : l[n]? with
        | none => rw [e] at h; simp at h
        | some y => rw [e] at h; simp at h; subst h; exact List.mem_of_getElem? e
      · simp at h
theorem sel_loop (x1 : Int) (x3 : List UInt8) (keep : List Bool) (x11 : List (List UInt8)) (x15 : List UInt8) (x16 : Int) (x19 : List UInt8) (x20 : Int) (l : List (Int × List UInt8)) (hl : l.length ≤ 64) :
    go f9_p3_st (f9_p3_y x1 x3 keep x11 x15 x16 x19 x20 l l.length 0 []) = some (f9_p3_o0_y x1 x3 x11 x15 x16 x19 x20 (selK keep l l.length)) := by
  refine go_seq (y := fun i => f9_p3_y x1 x3 keep x11 x15 x16 x19 x20 l l.length i (selK keep l i)) (n := l.length) (fun i hi rec => ?_) (fun rec => ?_) ?_
  · have hlen := selK_len keep l i
    have h3 : (i : Int) < l.length := by omega
    have w1 : IntKind.i64.wrap ((i : Int) + 1) = ((i + 1 : Nat) : Int) := by rw [wrap64 (by omega) (by omega)]; omega
    rw [f9_p3_eq, f9_p2_eq, nth_lt hi, Option.bind_some, f9_p0_eq]
    by_cases hk : i < keep.length
    · have h4 : (i : Int) < keep.length := by omega
      rw [nth_lt hk, Option.bind_some]
      by_cases hb : keep[i] = true
      · have e : selK keep l (i + 1) = selK keep l i ++ [(l[i].1, l[i].2)] := by
          rw [selK, List.getElem?_eq_getElem hk, hb, if_pos rfl, List.getElem?_eq_getElem hi]; rfl
        rw [e]
        have h5 : (selK keep l i).length + [(l[i].1, l[i].2)].length ≤ 4294967296 := by simp; omega
        simp only [h3, h4, hb, decide_true, cond_true, Option.bind_some, f9_p0_o0_x1_y, f9_p0_o0_x3_y, f9_p0_o0_x4_y, f9_p0_o0_x11_y, f9_p0_o0_x15_y, f9_p0_o0_x16_y, f9_p0_o0_x19_y, f9_p0_o0_x20_y, f9_p0_o0_x124_y, f9_p0_o0_x125_y, f9_p0_o0_x126_y, f9_p0_o0_x140_y, f9_p0_o0_r0_0_y, f9_p0_o0_r0_1_y, f9_p0_o0_l0_y, appOk_lt h5,
          f9_p2_o0_x1_y, f9_p2_o0_x3_y, f9_p2_o0_x4_y, f9_p2_o0_x11_y, f9_p2_o0_x15_y, f9_p2_o0_x16_y, f9_p2_o0_x19_y, f9_p2_o0_x20_y, f9_p2_o0_x124_y, f9_p2_o0_x125_y, f9_p2_o0_x126_y, f9_p2_o0_l0_y, w1]
      · have hb' : keep[i] = false := by simpa using hb
        have e : selK keep l (i + 1) = selK keep l i := by
          rw [selK, List.getElem?_eq_getElem hk, hb', if_neg (by simp)]; simp
        rw [e]
        simp only [h3, h4, hb', decide_true, cond_true, cond_false, Option.bind_some, f9_p0_o0_x1_y, f9_p0_o0_x3_y, f9_p0_o0_x4_y, f9_p0_o0_x11_y, f9_p0_o0_x15_y, f9_p0_o0_x16_y, f9_p0_o0_x19_y, f9_p0_o0_x20_y, f9_p0_o0_x124_y, f9_p0_o0_x125_y, f9_p0_o0_x126_y, f9_p0_o0_x140_y, f9_p0_o0_l0_y,
          f9_p2_o0_x1_y, f9_p2_o0_x3_y, f9_p2_o0_x4_y, f9_p2_o0_x11_y, f9_p2_o0_x15_y, f9_p2_o0_x16_y, f9_p2_o0_x19_y, f9_p2_o0_x20_y, f9_p2_o0_x124_y, f9_p2_o0_x125_y, f9_p2_o0_x126_y, f9_p2_o0_l0_y, w1]
    · have h4 : ¬ (i : Int) < keep.length := by omega
      have e : selK keep l (i + 1) = selK keep l i := by
        rw [selK, List.getElem?_eq_none (by omega), if_neg (by simp)]; simp
      rw [e]
      simp only [h3, h4, decide_true, decide_false, cond_true, cond_false, Option.bind_some, f9_p0_o0_x1_y, f9_p0_o0_x3_y, f9_p0_o0_x4_y, f9_p0_o0_x11_y, f9_p0_o0_x15_y, f9_p0_o0_x16_y, f9_p0_o0_x19_y, f9_p0_o0_x20_y, f9_p0_o0_x124_y, f9_p0_o0_x125_y, f9_p0_o0_x126_y, f9_p0_o0_x140_y, f9_p0_o0_l0_y,
        f9_p2_o0_x1_y, f9_p2_o0_x3_y, f9_p2_o0_x4_y, f9_p2_o0_x11_y, f9_p2_o0_x15_y, f9_p2_o0_x16_y, f9_p2_o0_x19_y, f9_p2_o0_x20_y, f9_p2_o0_x124_y, f9_p2_o0_x125_y, f9_p2_o0_x126_y, f9_p2_o0_l0_y, w1]
  · rw [f9_p3_eq]; simp
  · simp only [fuelOf, f9_p3_y, fuelL, SAV.fuel, Ty.fuel, fuelR, fuelT]; omega
/-- All that is laid is in its place. -/
theorem look_loop (m u : Nat) (x3 : List UInt8) (keep : List Bool) (x11 : List (List UInt8)) (x15 : List UInt8) (x16 : Int) (l : List (Int × List UInt8)) (hm : m ≤ 20) (hu : u ≤ 128 * m) (hl : l.length ≤ 64)
    (h : ∀ w ∈ l, ∃ j, j < m ∧ u < 128 * (j + 1) ∧ w.1 = (j : Int) ∧ w.2.length = 128) :
    go f9_p4_st (f9_p4_y m u x3 keep x11 l x15 x16 l l.length 0) = some (.inl (f9_p4_o0_y u x3 keep x11 l x15 x16)) := by
  refine go_seq (y := fun i => f9_p4_y m u x3 keep x11 l x15 x16 l l.length i) (n := l.length) (fun i hi rec => ?_) (fun rec => ?_) ?_
  · have h3 : (i : Int) < l.length := by omega
    have w1 : IntKind.i64.wrap ((i : Int) + 1) = ((i + 1 : Nat) : Int) := by rw [wrap64 (by omega) (by omega)]; omega
    obtain ⟨j, hj, hju, e1, e2⟩ := h l[i] (List.getElem_mem hi)
    have w2 : IntKind.i64.wrap ((j : Int) + 1) = (j : Int) + 1 := wrap64 (by omega) (by omega)
    have w3 : IntKind.i64.wrap (128 * ((j : Int) + 1)) = 128 * ((j : Int) + 1) := wrap64 (by omega) (by omega)
    have h4 : ¬ (j : Int) < 0 := by omega
    have h5 : ¬ (j : Int) ≥ (m : Int) := by omega
    have h6 : ((l[i].2.length : Int) != 128) = false := by rw [ne128]; simp [e2]
    have h7 : ¬ 128 * ((j : Int) + 1) ≤ (u : Int) := by omega
    rw [f9_p4_eq, nth_lt hi, Option.bind_some, f9_p1_eq, e1]
    simp only [h3, h4, h5, h6, h7, w1, w2, w3, decide_true, decide_false, cond_true, cond_false, Option.bind_some, f9_p1_o0_x111_y, f9_p1_o0_x0_y, f9_p1_o0_x1_y, f9_p1_o0_x3_y, f9_p1_o0_x4_y, f9_p1_o0_x11_y, f9_p1_o0_x13_y, f9_p1_o0_x15_y, f9_p1_o0_x16_y, f9_p1_o0_x83_y, f9_p1_o0_x84_y, f9_p1_o0_x85_y]
  · rw [f9_p4_eq]; simp
  · simp only [fuelOf, f9_p4_y, fuelL, SAV.fuel, Ty.fuel, fuelR, fuelT]; omega
theorem lays_look {s : List (List UInt8)} (hu : Uni s) {used : Nat} {data : List UInt8} (h : used + data.length ≤ 128 * s.length) : ∀ w ∈ lays s used data, ∃ j, j < s.length ∧ used < 128 * (j + 1) ∧ w.1 = (j : Int) ∧ w.2.length = 128 := by
  intro w hw
  obtain ⟨j, h1, h2, rfl⟩ := writes_mem.1 hw
  have := many_le h
  refine ⟨j, by omega, by omega, rfl, chunk_len _ _ ?_⟩
  rw [whole_len hu h]; omega
theorem lawBack (x0 x1 x2 : Int) (x3 : List UInt8) (x4 : List Bool) (_ : Wf reachBytes (.int .i64) x0) (w1 : Wf reachBytes (.int .i64) x1) (_ : Wf reachBytes (.int .u8) x2) (_ : Wf reachBytes .str x3) (_ : Wf reachBytes (.list .bool) x4) :
    f9_F (x0, (x1, (x2, (x3, (x4, ()))))) = some (true, ()) := by
  have hr := int64_range w1
  rw [f9_eq]
  obtain ⟨m, hm, h1, h2⟩ := bound_n x0
  rw [hm, back_loop m x1 x2 x3 x4 h2, Option.bind_some]
  have v1 : IntKind.i64.wrap (128 * (m : Int)) = ((128 * m : Nat) : Int) := by rw [wrap64 (by omega) (by omega)]; omega
  simp only [f9_p6_o0_x0_y, f9_p6_o0_x1_y, f9_p6_o0_x3_y, f9_p6_o0_x4_y, f9_p6_o0_l0_y, v1]
  rw [show (600 : Int) = ((600 : Nat) : Int) from rfl, cut_min]
  have hd : (x3.take 600).length ≤ 600 := by rw [List.length_take]; omega
  generalize x3.take 600 = data at hd
  obtain ⟨u, hu, hum⟩ : ∃ u : Nat, minI (maxI x1 0) ((128 * m : Nat) : Int) = (u : Int) ∧ u ≤ 128 * m := by
    rw [minI_eq, maxI_eq]
    refine ⟨(if ((128 * m : Nat) : Int) < (if x1 < 0 then 0 else x1) then ((128 * m : Nat) : Int) else (if x1 < 0 then 0 else x1) : Int).toNat, ?_⟩
    split <;> split <;> omega
  rw [hu]
  have hSl := secs_len x2 m
  have hSu := secs_uni x2 m
  generalize secs x2 m = S at hSl hSu
  have v2 : IntKind.i64.wrap (((128 * m : Nat) : Int) - (u : Int)) = ((128 * m : Nat) : Int) - (u : Int) := wrap64 (by omega) (by omega)
  rw [lay_eq S u data (by omega) (by omega) ⟨by omega, by omega⟩, if_pos (may_of hSu (by omega) (by omega)), text_ok hSu (by omega) (by omega)]
  by_cases hroom : (data.length : Int) > 128 * S.length - u
  · rw [if_pos hroom]
    have h5 : (data.length : Int) > ((128 * m : Nat) : Int) - (u : Int) := by omega
    have z : ((40 : Int) != 0) = true := rfl
    simp only [Option.bind_some, z, cond_true, alive, v2, h5, decide_true, beq_self_eq_true]
  · rw [if_neg hroom, Int.toNat_natCast]
    have hfit : u + data.length ≤ 128 * S.length := by omega
    have hLl := lays_len S u data hfit (by omega)
    have hLo := lay_of hfit
    have hLk := lays_look hSu hfit
    have hLt := lay_text hSu hfit
    have hPu := lay_put_uni hSu hfit
    have hPl : (put S (lays S u data)).length = S.length := put_len _ _
    have q1 := with_ok (s := S) (by omega) hLo hLl
    generalize hL : lays S u data = L at hLl hLo hLk hLt hPu hPl q1
    have q2 := text_ok hPu (by omega) (used := u + data.length) (by omega)
    rw [hLt] at q2
    have hKo : Of (whole S u data) S.length (selK x4 L L.length) := fun w hw => hLo w (selK_mem x4 L _ w hw)
    have hKl : (selK x4 L L.length).length ≤ 64 := Nat.le_trans (selK_len x4 L _) hLl
    have q3 := with_ok (s := S) (by omega) hKo hKl
    have hKu := put_uni hKo (by rw [whole_len hSu hfit]; omega) rfl hSu
    have hKn : (put S (selK x4 L L.length)).length = S.length := put_len _ _
    have hKt := some_text hSu hfit hKo
    have q4 := text_ok hKu (by omega) (used := u) (by omega)
    rw [hKt] at q4
    have v3 : IntKind.i64.wrap ((u : Int) + (data.length : Int)) = ((u + data.length : Nat) : Int) := by rw [wrap64 (by omega) (by omega)]; omega
    have hflat := flat_len hSu
    have v4 : (S.flatten.take u).length + data.length ≤ 4611686018427387904 := by rw [List.length_take]; omega
    have z : ((0 : Int) != 0) = false := rfl
    simp only [Option.bind_some, z, cond_false]
    rw [f9_p5_eq, look_loop m u data x4 S (S.flatten.take u) 0 L h2 hum hLl (fun w hw => by obtain ⟨j, g1, g2⟩ := hLk w hw; exact ⟨j, by omega, g2⟩), Option.bind_some]
    simp only [f9_p4_o0_x1_y, f9_p4_o0_x3_y, f9_p4_o0_x4_y, f9_p4_o0_x11_y, f9_p4_o0_x13_y, f9_p4_o0_x15_y, f9_p4_o0_x16_y]
    rw [q1, Option.bind_some, v3]
    dsimp only
    rw [q2, Option.bind_some]
    dsimp only
    rw [sel_loop _ _ _ _ _ _ _ _ _ hLl, Option.bind_some]
    simp only [f9_p3_o0_x1_y, f9_p3_o0_x3_y, f9_p3_o0_x11_y, f9_p3_o0_x15_y, f9_p3_o0_x16_y, f9_p3_o0_x19_y, f9_p3_o0_x20_y, f9_p3_o0_l0_y]
    rw [q3, Option.bind_some]
    dsimp only
    rw [q4, Option.bind_some, alive, if_pos v4]
    simp
end Go.Pe.Try
