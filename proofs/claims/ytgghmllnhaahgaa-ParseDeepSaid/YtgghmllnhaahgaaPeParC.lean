/- The parser. -/
import Derived.Test.YtgghmllnhaahgaaPeParA
import Derived.Test.YtgghmllnhaahgaaPeParB
import Derived.Test.YtgghmllnhaahgaaPeGP1q
set_option linter.unusedSectionVars false
set_option linter.unusedVariables false
set_option linter.unusedSimpArgs false
namespace Go.Pe.Try
open Go.Proofs Go.RowKit
set_option maxRecDepth 100000
@[reducible] noncomputable def f5_ps : List KD := [.one .str]
@[reducible] noncomputable def f5_rs : List KD := [.agg [(.int .i64), (.int .i64), .str, (.list .value), (.list .str)], .one (.int .i64)]
noncomputable def zeroR (e : Int) : argsDen f5_rs := ((0, (0, ([], ([], ([], ()))))), (e, ()))
noncomputable def valR (z : h11_O.den) : argsDen f5_rs := ((h11_o_x0_0 z, (h11_o_x0_1 z, (h11_o_x0_2 z, (h11_o_x0_3 z, (h11_o_x0_4 z, ()))))), (0, ()))
noncomputable def f5_F (y : argsDen f5_ps) : Option (argsDen f5_rs) :=
  if 65536 < y.1.length then some (zeroR 2) else (h11_F (h11_y y.1 0 [])).bind fun o => match o with
    | .inl z => if h11_o_r0_0 z = [] then some (valR z) else some (zeroR 20)
    | .inr z => some (zeroR (h11_z_x0_0_0 z))
@[reducible] noncomputable def E5 : Env := envOfT Try.prog 25 [] [] [⟨11, _, h11_ok⟩, ⟨12, _, h12_ok⟩] 21
theorem E5_ok : EnvOk Try.prog E5 := envOfT_ok _ _ _ _ top_ok mixed
noncomputable def q_c : Code := codeOf Try.f5
noncomputable def q0 : Array Oper := regO q_c.cl
noncomputable def q1 : Array Oper := regO q_c.cr.cl.cl
noncomputable def q2 : Array Oper := regO q_c.cr.cl.cr.ct.cl
noncomputable def q3 : Array Oper := regO q_c.cr.cr.cl
noncomputable def q4 : Array Oper := regO q_c.cr.cr.cr.cl
noncomputable def q5 : Array Oper := regO q_c.cr.cr.cr.cr.cl
noncomputable def q6 : Array Oper := regO q_c.cr.cr.cr.cr.cr.cl.cl
noncomputable def q7 : Array Oper := regO q_c.cr.cr.cr.cr.cr.cl.cr.ct
noncomputable def q8 : Array Oper := regO q_c.cr.cr.cr.cr.cr.cr.cl
theorem q_body : Try.f5.body = some (.seq (.region 0 q0 false) (.seq (.seq (.region 1 q1 false) (.cond (.tmp 7) (.seq (.region 2 q2 false) .ret) .skip)) (.seq (.region 3 q3 false) (.seq (.region 4 q4 false) (.seq (.region 5 q5 false) (.seq (.seq (.region 6 q6 false) (.cond (.tmp 19) (.region 7 q7 false) .skip)) (.seq (.region 8 q8 false) .ret))))))) := by kernel_rfl
/-- What a function hands back, read. -/
theorem fin_of {P : Program} {ε : Env} (hε : EnvOk P ε) {A : Nat → Prop} {A0 : Dom} (hA0 : ∀ b, A0.A b → A b) {w0 w : World} {st : St} {a : Act} {μ : Mu} (hs : Sim A0 w0 st a.tmps w μ) {fn : Func} {rs : List KD} {z : argsDen rs}
    (h : ((evRes ε st fn.results.toList).bind fun l => decRes rs (resVal l)) = some z) : ∃ v, (results fn a.tmps).run P w = .ok v w ∧ RepAV (c0 (News w0 w A) w) (encRes rs z) v := by
  simp only [Option.bind_eq_some_iff] at h
  obtain ⟨l, hl, hdec⟩ := h
  obtain ⟨us, g1, g2, g3⟩ := evRes_sound (a := a) hε hs _ l hl
  refine ⟨_, results_run g1, ?_⟩
  have hval : RepAV (c0 (Far A0 w0 w) w) (resVal l) (if h : us.toArray.size = 1 then us.toArray[0] else .tuple us.toArray) := by
    have hl2 := g3.length
    unfold resVal
    split
    · obtain ⟨v, rfl, hv⟩ := g3.one'
      simpa using hv
    · rename_i hne
      have : ¬ us.toArray.size = 1 := by
        intro e
        simp at e
        rw [hl2] at e
        match l, e with
        | [v], _ => exact hne v rfl
      rw [dif_neg this]
      simp only [RepAV]
      exact ⟨_, rfl, by simpa using g3⟩
  have hrr := decRes_rep hdec hval
  refine RepAV.closed (c := c0 (Far A0 w0 w) w) (c' := c0 (News w0 w A) w) ⟨fun b hb => ?_, fun _ _ => rfl⟩ (encRes_closed rs z) hrr
  rcases hb.1 with h5 | h5
  · exact .inl (hA0 b h5)
  · exact .inr ⟨h5, hb.2⟩
/-- Two records alone. -/
theorem sim_two {w0 w : World} (h0 : Below w0.heap.size w0 w) {b1 b2 : Nat} (hne : b1 ≠ b2) (hB1 : w0.heap.size ≤ b1) (hB2 : w0.heap.size ≤ b2) {cs1 cs2 sl : List AV} {v1 v2 : Array Value} {T1 T2 : TypeId} {tmps : Array Value}
    (h1 : w.heap[b1]? = some (.cells v1 T1 (0, 0))) (h2 : w.heap[b2]? = some (.cells v2 T2 (0, 0))) (hm1 : isMark cs1 = false) (hm2 : isMark cs2 = false) (hk1 : isBld cs1 = false) (hk2 : isBld cs2 = false)
    (μ : Mu) (hμ : μ = ⟨fun x => match x with | .r 0 => some b1 | .r 1 => some b2 | _ => none, fun _ => 0, none⟩) (A0 : Dom) (hA0 : A0 = ⟨fun _ => False, fun _ => False, fun _ => False, w0, fun r => match r with | 0 => some b1 | 1 => some b2 | _ => none, 2, .bool false⟩)
    (hc1 : RepAVs (cx A0 w0 [some cs1, some cs2] [] w μ) cs1 v1.toList) (hc2 : RepAVs (cx A0 w0 [some cs1, some cs2] [] w μ) cs2 v2.toList) (hsl : RepAVs (cx A0 w0 [some cs1, some cs2] [] w μ) sl tmps.toList) : Sim A0 w0 ⟨sl, [some cs1, some cs2], []⟩ tmps w μ := by
  have hat : ∀ x b, μ.at_ x = some b → (x = .r 0 ∧ b = b1) ∨ (x = .r 1 ∧ b = b2) := by
    intro x b h
    rw [hμ] at h
    simp only at h
    split at h <;> simp_all
  have hlt1 := (Array.getElem?_eq_some_iff.1 h1).1
  have hlt2 := (Array.getElem?_eq_some_iff.1 h2).1
  have a1 : μ.at_ (.r 0) = some b1 := by subst hμ; rfl
  have a2 : μ.at_ (.r 1) = some b2 := by subst hμ; rfl
  have g0 : getL [some cs1, some cs2] 0 = some cs1 := rfl
  have g1 : getL [some cs1, some cs2] 1 = some cs2 := rfl
  have hget : ∀ r c, getL [some cs1, some cs2] r = some c → (r = 0 ∧ c = cs1) ∨ (r = 1 ∧ c = cs2) := by
    intro r c h
    rcases r with _ | _ | r <;> simp [getL] at h <;> simp [h]
  refine ⟨hsl, ?_, ?_, ?_, ?_, h0, ?_, ?_, ?_, ?_, trivial, ?_, ?_, ?_⟩
  · intro r cells h hk
    rcases hget r cells h with ⟨rfl, rfl⟩ | ⟨rfl, rfl⟩
    · exact ⟨b1, v1, a1, ⟨T1, h1⟩, hc1⟩
    · exact ⟨b2, v2, a2, ⟨T2, h2⟩, hc2⟩
  · intro t o h; simp [getL] at h
  · intro y b h
    rcases hat y b h with ⟨rfl, rfl⟩ | ⟨rfl, rfl⟩
    · exact ⟨hB1, hlt1, rfl⟩
    · exact ⟨hB2, hlt2, rfl⟩
  · intro y z b k1 k2
    rcases hat y b k1 with ⟨rfl, rfl⟩ | ⟨rfl, rfl⟩ <;> rcases hat z _ k2 with ⟨rfl, e⟩ | ⟨rfl, e⟩ <;> first | rfl | (exfalso; omega)
  · intro b h; rw [hA0] at h; cases h
  · intro b h; rw [hA0] at h; cases h
  · rw [hA0]; simp
  · intro r b h
    rw [hA0] at h
    rcases r with _ | _ | r <;> simp only at h <;> cases h
    · exact ⟨by rw [hA0]; simp, fun _ => a1⟩
    · exact ⟨by rw [hA0]; simp, fun _ => a2⟩
  · refine ⟨fun r c g1 g2 => ?_, fun t o h => by simp [getL] at h⟩
    rcases hget r c g1 with ⟨rfl, rfl⟩ | ⟨rfl, rfl⟩
    · rw [hk1] at g2; cases g2
    · rw [hk2] at g2; cases g2
  · intro r c h
    rcases hget r _ h with ⟨rfl, e⟩ | ⟨rfl, e⟩
    · rw [← e] at hm1; simp [isMark] at hm1
    · rw [← e] at hm2; simp [isMark] at hm2
  · intro d h; rw [hμ] at h; cases h
/-! The states between. -/
@[reducible] noncomputable def q_sA : Shape := ⟨[.hole .str, .dead, .ptr 0 0, .ptr 1 0, .dead, .dead, .dead, .dead, .dead, .dead, .dead, .dead, .dead, .dead, .dead, .dead, .dead, .dead, .dead, .dead, .dead, .dead], [some [.hole (.int .i64), .hole (.int .i64), .hole .str, .nilS, .nilS], some [.hole (.int .i64)]], []⟩
@[reducible] noncomputable def q_sB : Shape := ⟨[.hole .str, .dead, .ptr 0 0, .ptr 1 0, .ptr 2 0, .dead, .dead, .dead, .dead, .dead, .dead, .dead, .dead, .dead, .dead, .dead, .dead, .dead, .dead, .dead, .dead, .dead], [some [.hole (.int .i64), .hole (.int .i64), .hole .str, .nilS, .nilS], some [.hole (.int .i64)], some [.hole .str, .hole (.int .i64), .nilS]], []⟩
@[reducible] noncomputable def q_sC : Shape := ⟨[.dead, .dead, .ptr 0 0, .ptr 1 0, .ptr 2 0, .dead, .dead, .dead, .dead, .dead, .dead, .dead, .dead, .dead, .dead, .dead, .dead, .dead, .dead, .dead, .dead, .dead], [some [.hole (.int .i64), .hole (.int .i64), .hole .str, .hole (.list .value), .hole (.list .str)], some [.hole (.int .i64)], some [.hole .str, .dead, .dead]], []⟩
@[reducible] noncomputable def q_sD : Shape := ⟨[.dead, .dead, .ptr 0 0, .ptr 1 0, .dead, .dead, .dead, .dead, .dead, .dead, .dead, .dead, .dead, .dead, .dead, .dead, .dead, .dead, .dead, .hole .bool, .dead, .dead], [some [.hole (.int .i64), .hole (.int .i64), .hole .str, .hole (.list .value), .hole (.list .str)], some [.hole (.int .i64)]], []⟩
@[reducible] noncomputable def q_sP : Shape := ⟨[.dead, .dead, .ptr 0 0, .ptr 1 0, .dead, .dead, .dead, .dead, .dead, .dead, .dead, .dead, .dead, .dead, .dead, .dead, .dead, .dead, .dead, .dead, .dead, .dead], [some [.dead, .dead, .dead, .dead, .dead], some [.hole (.int .i64)]], []⟩
noncomputable def q_a (s : List UInt8) (e : Int) : q_sA.den := ((s, ((), ((), ((), (((), ((), ((), ((), ((), ((), ((), ((), ((), ((), ((), ((), ((), ((), ((), ((), ((), ((), ()))))))))))))))))))))))), ((0, (0, ([], ((), ((), ()))))), ((e, ()), ())), ())
noncomputable def q_b (s : List UInt8) : q_sB.den := ((s, ((), ((), ((), ((), (((), ((), ((), ((), ((), ((), ((), ((), ((), ((), ((), ((), ((), ((), ((), ((), ((), ()))))))))))))))))))))))), ((0, (0, ([], ((), ((), ()))))), ((0, ()), ((s, (0, ((), ()))), ()))), ())
noncomputable def q_cz (z : h11_O.den) : q_sC.den := (((), ((), ((), ((), ((), (((), ((), ((), ((), ((), ((), ((), ((), ((), ((), ((), ((), ((), ((), ((), ((), ((), ()))))))))))))))))))))))), ((h11_o_x0_0 z, (h11_o_x0_1 z, (h11_o_x0_2 z, (h11_o_x0_3 z, (h11_o_x0_4 z, ()))))), ((0, ()), ((h11_o_r0_0 z, ((), ((), ()))), ()))), ())
noncomputable def q_dz (z : h11_O.den) (b : Bool) : q_sD.den := (((), ((), ((), ((), ((), (((), ((), ((), ((), ((), ((), ((), ((), ((), ((), ((), ((), ((), ((), (b, ((), ((), ()))))))))))))))))))))))), ((h11_o_x0_0 z, (h11_o_x0_1 z, (h11_o_x0_2 z, (h11_o_x0_3 z, (h11_o_x0_4 z, ()))))), ((0, ()), ())), ())
noncomputable def q_p : q_sP.den := (((), ((), ((), ((), (((), ((), ((), ((), ((), ((), ((), ((), ((), ((), ((), ((), ((), ((), ((), ((), ((), ((), ()))))))))))))))))))))))), (((), ((), ((), ((), ((), ()))))), ((0, ()), ())), ())
noncomputable def q_st0 (s : List UInt8) : St := ⟨[.d .str s, .dead, .dead, .dead, .dead, .dead, .dead, .dead, .dead, .dead, .dead, .dead, .dead, .dead, .dead, .dead, .dead, .dead, .dead, .dead, .dead, .dead], [], []⟩
noncomputable def q_st5 (s : List UInt8) : St := ⟨[.d .str s, .dead, .ptr 0 0, .ptr 1 0, .ptr 2 0, .dead, .dead, .dead, .dead, .dead, .dead, .dead, .dead, .dead, .dead, .dead, .dead, .dead, .dead, .dead, .dead, .dead], [some [.d (.int .i64) (0 : Int), .d (.int .i64) (0 : Int), .d .str ([] : List UInt8), .nilS, .nilS], some [.d (.int .i64) (0 : Int)], some [.d .str s, .d (.int .i64) (0 : Int), .sx (.stk [])]], []⟩
theorem q_e0 (s : List UInt8) : evC E5 (.region 0 q0 false) (q_st0 s) (fun ex st => match ex with | .normal => abs q_sA st | _ => none) = some (q_a s 0) := by kernel_rfl
theorem q_e1 (s : List UInt8) : evC E5 (.seq (.region 1 q1 false) (.cond (.tmp 7) (.seq (.region 2 q2 false) .ret) .skip)) (fill q_sA (q_a s 0)) (fun ex st => (match ex with | .normal => (abs q_sA st).map .inl | .ret => ((evRes E5 st Try.f5.results.toList).bind fun l => decRes f5_rs (resVal l)).map .inr | _ => none : Option (q_sA.den ⊕ argsDen f5_rs))) = cond (decide ((s.length : Int) > 65536)) (some (.inr (zeroR 2))) (some (.inl (q_a s 0))) := by kernel_rfl
theorem q_e4 (s : List UInt8) : evC E5 (.region 4 q4 false) (fill q_sA (q_a s 0)) (fun ex st => match ex with | .normal => abs q_sB st | _ => none) = some (q_b s) := by kernel_rfl
theorem q_e5 (s : List UInt8) : evOps E5 q5 (List.range q5.size) (q_st5 s) (fun st => ((abs q_sC st).map .inl : Option (q_sC.den ⊕ (AV × q_sP.den)))) (fun av st => ((abs q_sP st).map fun p => .inr (av, p)))
    = (h11_F (h11_y s 0 [])).bind fun o => match o with | .inl z => some (.inl (q_cz z)) | .inr z => some (.inr (.ifc 35 [.agg [.d (.int .i64) (h11_z_x0_0_0 z)]], q_p)) := by kernel_rfl
theorem q_e6 (z : h11_O.den) : evC E5 (.region 6 q6 false) (fill q_sC (q_cz z)) (fun ex st => match ex with | .normal => abs q_sD st | _ => none) = some (q_dz z (h11_o_r0_0 z != [])) := by kernel_rfl
theorem q_e7 (z : h11_O.den) (b : Bool) : evOps E5 q7 (List.range q7.size) (fill q_sD (q_dz z b)) (fun st => (none : Option (AV × q_sP.den))) (fun av st => ((abs q_sP st).map fun p => (av, p)))
    = (h12_F (h12_y 20)).bind fun o => match o with | .inl z => none | .inr z => some (.ifc 35 [.agg [.d (.int .i64) (h12_z_x0_0_0 z)]], q_p) := by kernel_rfl
theorem q_e8 (z : h11_O.den) (b : Bool) : evC E5 (.seq (.region 8 q8 false) .ret) (fill q_sD (q_dz z b)) (fun ex st => match ex with | .ret => (evRes E5 st Try.f5.results.toList).bind fun l => decRes f5_rs (resVal l) | _ => none) = some (valR z) := by kernel_rfl
theorem q_e9 (n : Int) : ((evRes E5 ⟨[.dead, .dead, .ptr 0 0, .ptr 1 0, .dead, .dead, .dead, .dead, .dead, .dead, .dead, .dead, .dead, .dead, .dead, .dead, .dead, .dead, .dead, .dead, .dead, .dead], [some [.d (.int .i64) (0 : Int), .d (.int .i64) (0 : Int), .d .str ([] : List UInt8), .nilS, .nilS], some [.d (.int .i64) n]], []⟩ Try.f5.results.toList).bind fun l => decRes f5_rs (resVal l)) = some (zeroR n) := by kernel_rfl
end Go.Pe.Try
