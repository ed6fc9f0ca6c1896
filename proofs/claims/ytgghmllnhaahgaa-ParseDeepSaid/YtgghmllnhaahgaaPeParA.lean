/- The deferred call of the parser. -/
import Derived.WalkKit
import Derived.LoopTactic
import Derived.OwnWalk
import Derived.Deep.RegionLaw
import Derived.Below
import Derived.IntWalk
import Derived.Lib.Hide
import Derived.Defers
import Derived.Recover
import Derived.Tactics
import Derived.Tactics2
import Derived.Laws.Pointers
import Derived.Test.YtgghmllnhaahgaaPeGP1
set_option linter.unusedSectionVars false
set_option linter.unusedVariables false
set_option linter.unusedSimpArgs false
namespace Go.Pe.Try
open Go.Proofs Go.RowKit
theorem stepS {P : Program} {ops : Array Oper} {Q : Exit → Act → List Frame → World → Prop} {i : Nat} {rest : List Nat} {a : Act} {cs : List Frame} {w : World} (o : Oper) (v : Value) (w' : World) (a' : Act)
    (ho : ops[i]? = some o) (hg : o.guard = none) (hr : (execOp a.eval o).run P w = .ok (.value v) w') (ha : a.put o.dst v = a') (h : wpOpsS P ops Q rest a' cs w') : wpOpsS P ops Q (i :: rest) a cs w := by
  have hw : Region.wanted o (yielded ops a.tmps) = true := by simp [Region.wanted, hg]
  simp only [wpOpsS, ho, hw, if_true, hr, Oper.upon]; rw [ha]; exact h
theorem stepS_skip {P : Program} {ops : Array Oper} {Q : Exit → Act → List Frame → World → Prop} {i : Nat} {rest : List Nat} {a : Act} {cs : List Frame} {w : World} (o : Oper) (w' : World)
    (ho : ops[i]? = some o) (hg : o.guard = none) (hr : (execOp a.eval o).run P w = .ok .skip w') (ha : a.put o.dst undef = a) (h : wpOpsS P ops Q rest a cs w') : wpOpsS P ops Q (i :: rest) a cs w := by
  have hw : Region.wanted o (yielded ops a.tmps) = true := by simp [Region.wanted, hg]
  simp only [wpOpsS, ho, hw, if_true, hr, Oper.upon]; rw [ha]; exact h
theorem stepS_rec {P : Program} {ops : Array Oper} {Q : Exit → Act → List Frame → World → Prop} {i : Nat} {rest : List Nat} {a : Act} {cs : List Frame} {w : World} (o : Oper) (v : Value) (cs' : List Frame) (a' : Act)
    (ho : ops[i]? = some o) (hg : o.guard = none) (hr : (execOp a.eval o).run P w = .ok .recover w) (hc : recoverD cs = some (v, cs')) (ha : a.put o.dst v = a') (h : wpOpsS P ops Q rest a' cs' w) : wpOpsS P ops Q (i :: rest) a cs w := by
  have hw : Region.wanted o (yielded ops a.tmps) = true := by simp [Region.wanted, hg]
  simp only [wpOpsS, ho, hw, if_true, hr, hc]; rw [ha]; exact h
theorem stepS_nil {P : Program} {ops : Array Oper} {Q : Exit → Act → List Frame → World → Prop} {i : Nat} {rest : List Nat} {a : Act} {cs : List Frame} {w : World} (o : Oper) (a' : Act)
    (ho : ops[i]? = some o) (hg : o.guard = none) (hr : (execOp a.eval o).run P w = .ok .recover w) (hc : recoverD cs = none) (ha : a.put o.dst .nilIface = a') (h : wpOpsS P ops Q rest a' cs w) : wpOpsS P ops Q (i :: rest) a cs w := by
  have hw : Region.wanted o (yielded ops a.tmps) = true := by simp [Region.wanted, hg]
  simp only [wpOpsS, ho, hw, if_true, hr, hc]; rw [ha]; exact h
theorem stepS_end {P : Program} {ops : Array Oper} {Q : Exit → Act → List Frame → World → Prop} {a : Act} {cs : List Frame} {w : World} (h : Q .normal a cs w) : wpOpsS P ops Q [] a cs w := h
attribute [local irreducible] wpOpsS
theorem rep_dead {c : Cx} : ∀ (vs : List Value) (l : List AV), l = List.replicate vs.length .dead → RepAVs c l vs
  | [], l, h => by subst h; simp [RepAVs]
  | v :: vs, l, h => by subst h; exact RepAVs.cons (by simp only [RepAV]) (rep_dead vs _ rfl)
theorem rep_ptr {c : Cx} {r off b : Nat} (h1 : r < c.recs.length) (h2 : c.μ.at_ (.r r) = some b) : RepAV c (.ptr r off) (.pointer (some ⟨b, off, none⟩)) := by
  simp only [RepAV]; exact ⟨h1, rfl, fun _ => ⟨b, h2, rfl⟩⟩
noncomputable def regO (c : Code) : Array Oper := match c with | .region _ ops _ => ops | _ => #[]
noncomputable def p0 : Array Oper := regO (codeOf Try.f10).cl
noncomputable def p1 : Array Oper := regO (codeOf Try.f10).cr.cl
noncomputable def p2 : Array Oper := regO (codeOf Try.f10).cr.cr.ct
theorem p_body : Try.f10.body = some (.seq (.region 0 p0 false) (.seq (.region 1 p1 false) (.cond (.tmp 9) (.region 2 p2 true) .skip))) := by kernel_rfl
noncomputable def p0_0 : Oper := (p0[0]?).getD ⟨none, .move (.tmp 0), 0, "", #[], none⟩
noncomputable def p0_1 : Oper := (p0[1]?).getD ⟨none, .move (.tmp 0), 0, "", #[], none⟩
noncomputable def p0_2 : Oper := (p0[2]?).getD ⟨none, .move (.tmp 0), 0, "", #[], none⟩
noncomputable def p0_3 : Oper := (p0[3]?).getD ⟨none, .move (.tmp 0), 0, "", #[], none⟩
noncomputable def p0_4 : Oper := (p0[4]?).getD ⟨none, .move (.tmp 0), 0, "", #[], none⟩
noncomputable def p0_5 : Oper := (p0[5]?).getD ⟨none, .move (.tmp 0), 0, "", #[], none⟩
noncomputable def p0_6 : Oper := (p0[6]?).getD ⟨none, .move (.tmp 0), 0, "", #[], none⟩
noncomputable def p0_7 : Oper := (p0[7]?).getD ⟨none, .move (.tmp 0), 0, "", #[], none⟩
noncomputable def p1_0 : Oper := (p1[0]?).getD ⟨none, .move (.tmp 0), 0, "", #[], none⟩
set_option maxRecDepth 100000 in
set_option maxHeartbeats 1000000 in
theorem catch_idle (b1 b2 : Nat) (w : World) :
    CallsD Try.prog 10 #[.pointer (some ⟨b1, 0, none⟩), .pointer (some ⟨b2, 0, none⟩)] .returning w fun e u' w' => e = .returned (.tuple #[]) ∧ u' = .returning ∧ w' = w.alloc (.cells #[.int .i64 0] 35) := by
  refine callsD_of_wpS Try.func10 p_body fun c₀ cs hu => ?_
  rw [show (#[Value.pointer (some ⟨b1, 0, none⟩), .pointer (some ⟨b2, 0, none⟩)] ++ Array.replicate (Try.f10.ntmps - (#[Value.pointer (some ⟨b1, 0, none⟩), .pointer (some ⟨b2, 0, none⟩)] : Array Value).size) undef) = #[.pointer (some ⟨b1, 0, none⟩), .pointer (some ⟨b2, 0, none⟩), undef, undef, undef, undef, undef, undef, undef, undef, undef, undef, undef] by kernel_rfl]
  refine wpS_seq (wpS_region ?_)
  rw [show List.range p0.size = [0, 1, 2, 3, 4, 5, 6, 7] by kernel_rfl]
  refine stepS_nil p0_0 ({ tmps := #[.pointer (some ⟨b1, 0, none⟩), .pointer (some ⟨b2, 0, none⟩), undef, undef, undef, .nilIface, undef, undef, undef, undef, undef, undef, undef], defers := [] }) (by kernel_rfl) (by kernel_rfl) (by kernel_rfl) (by simp [recoverD, hu]) (by kernel_rfl) ?_
  refine stepS p0_1 (.tuple #[.agg #[.int .i64 0], .bool false]) (w) ({ tmps := #[.pointer (some ⟨b1, 0, none⟩), .pointer (some ⟨b2, 0, none⟩), undef, undef, undef, .nilIface, .tuple #[.agg #[.int .i64 0], .bool false], undef, undef, undef, undef, undef, undef], defers := [] }) (by kernel_rfl) (by kernel_rfl) (by kernel_rfl) (by kernel_rfl) ?_
  refine stepS p0_2 (.tuple #[.agg #[.int .i64 0], .bool false]) (w) ({ tmps := #[.pointer (some ⟨b1, 0, none⟩), .pointer (some ⟨b2, 0, none⟩), undef, undef, .tuple #[.agg #[.int .i64 0], .bool false], .nilIface, .tuple #[.agg #[.int .i64 0], .bool false], undef, undef, undef, undef, undef, undef], defers := [] }) (by kernel_rfl) (by kernel_rfl) (by kernel_rfl) (by kernel_rfl) ?_
  refine stepS p0_3 (.agg #[.int .i64 0]) (w) ({ tmps := #[.pointer (some ⟨b1, 0, none⟩), .pointer (some ⟨b2, 0, none⟩), undef, undef, .tuple #[.agg #[.int .i64 0], .bool false], .nilIface, .tuple #[.agg #[.int .i64 0], .bool false], .agg #[.int .i64 0], undef, undef, undef, undef, undef], defers := [] }) (by kernel_rfl) (by kernel_rfl) (by kernel_rfl) (by kernel_rfl) ?_
  refine stepS p0_4 (.bool false) (w) ({ tmps := #[.pointer (some ⟨b1, 0, none⟩), .pointer (some ⟨b2, 0, none⟩), undef, undef, .tuple #[.agg #[.int .i64 0], .bool false], .nilIface, .tuple #[.agg #[.int .i64 0], .bool false], .agg #[.int .i64 0], .bool false, undef, undef, undef, undef], defers := [] }) (by kernel_rfl) (by kernel_rfl) (by kernel_rfl) (by kernel_rfl) ?_
  refine stepS p0_5 (.pointer (some ⟨w.heap.size, 0, none⟩)) (w.alloc (.cells #[.int .i64 0] 35)) ({ tmps := #[.pointer (some ⟨b1, 0, none⟩), .pointer (some ⟨b2, 0, none⟩), .pointer (some ⟨w.heap.size, 0, none⟩), undef, .tuple #[.agg #[.int .i64 0], .bool false], .nilIface, .tuple #[.agg #[.int .i64 0], .bool false], .agg #[.int .i64 0], .bool false, undef, undef, undef, undef], defers := [] }) (by kernel_rfl) (by kernel_rfl) (by kernel_rfl) (by kernel_rfl) ?_
  refine stepS_skip p0_6 (w.alloc (.cells #[.int .i64 0] 35)) (by kernel_rfl) (by kernel_rfl) (by rw [show p0_6 = ⟨none, .store 35 (.tmp 2) (.tmp 7), 0, p0_6.pos, p0_6.after, none⟩ by kernel_rfl]; simp [execOp, go_sem]) (by kernel_rfl) ?_
  refine stepS p0_7 (.bool false) ((w.alloc (.cells #[.int .i64 0] 35))) ({ tmps := #[.pointer (some ⟨b1, 0, none⟩), .pointer (some ⟨b2, 0, none⟩), .pointer (some ⟨w.heap.size, 0, none⟩), .bool false, .tuple #[.agg #[.int .i64 0], .bool false], .nilIface, .tuple #[.agg #[.int .i64 0], .bool false], .agg #[.int .i64 0], .bool false, undef, undef, undef, undef], defers := [] }) (by kernel_rfl) (by kernel_rfl) (by kernel_rfl) (by kernel_rfl) ?_
  refine stepS_end ?_
  show Code.wpS _ _ _ _ _ _
  refine wpS_seq (wpS_region ?_)
  rw [show List.range p1.size = [0] by kernel_rfl]
  refine stepS p1_0 (.bool false) ((w.alloc (.cells #[.int .i64 0] 35))) ({ tmps := #[.pointer (some ⟨b1, 0, none⟩), .pointer (some ⟨b2, 0, none⟩), .pointer (some ⟨w.heap.size, 0, none⟩), .bool false, .tuple #[.agg #[.int .i64 0], .bool false], .nilIface, .tuple #[.agg #[.int .i64 0], .bool false], .agg #[.int .i64 0], .bool false, .bool false, undef, undef, undef], defers := [] }) (by kernel_rfl) (by kernel_rfl) (by kernel_rfl) (by kernel_rfl) ?_
  refine stepS_end ?_
  show Code.wpS _ _ _ _ _ _
  refine wpS_cond (t := false) (by kernel_rfl) ?_
  refine wpS_of_wp (wp_skip ?_)
  cases c₀
  simp_all [bodyPostS, results, Try.results10]
set_option maxRecDepth 100000 in
set_option maxHeartbeats 1000000 in
theorem catch_fault (b1 b2 : Nat) (w : World) (n : Int) (T1 T2 : TypeId) (vs : Array Value) (x : Int) (hb1 : w.heap[b1]? = some (.cells vs T1 (0, 0))) (hv : vs.size = 5) (hb2 : w.heap[b2]? = some (.cells #[.int .i64 x] T2 (0, 0))) (hne : b1 ≠ b2) (w0 : World) (h0 : Below w0.heap.size w0 w) (hB1 : w0.heap.size ≤ b1) (hB2 : w0.heap.size ≤ b2) :
    CallsD Try.prog 10 #[.pointer (some ⟨b1, 0, none⟩), .pointer (some ⟨b2, 0, none⟩)] (.panicking [{ v := .iface 35 (.agg #[.int .i64 n]), recovered := false }]) w fun e u' w' => e = .returned (.tuple #[]) ∧ u' = .panicking [{ v := .iface 35 (.agg #[.int .i64 n]), recovered := true }] ∧ (∃ T, w'.heap[b1]? = some (.cells #[.int .i64 0, .int .i64 0, .string ⟨#[]⟩, .slice none 0 0, .slice none 0 0] T (0, 0))) ∧ (∃ T, w'.heap[b2]? = some (.cells #[.int .i64 n] T (0, 0))) ∧ Below w0.heap.size w0 w' := by
  refine callsD_of_wpS Try.func10 p_body fun c₀ cs hu => ?_
  rw [show (#[Value.pointer (some ⟨b1, 0, none⟩), .pointer (some ⟨b2, 0, none⟩)] ++ Array.replicate (Try.f10.ntmps - (#[Value.pointer (some ⟨b1, 0, none⟩), .pointer (some ⟨b2, 0, none⟩)] : Array Value).size) undef) = #[.pointer (some ⟨b1, 0, none⟩), .pointer (some ⟨b2, 0, none⟩), undef, undef, undef, undef, undef, undef, undef, undef, undef, undef, undef] by kernel_rfl]
  refine wpS_seq (wpS_region ?_)
  rw [show List.range p0.size = [0, 1, 2, 3, 4, 5, 6, 7] by kernel_rfl]
  refine stepS_rec p0_0 (.iface 35 (.agg #[.int .i64 n])) ({ c₀ with mode := .panicking [{ v := .iface 35 (.agg #[.int .i64 n]), recovered := true }] } :: cs) ({ tmps := #[.pointer (some ⟨b1, 0, none⟩), .pointer (some ⟨b2, 0, none⟩), undef, undef, undef, .iface 35 (.agg #[.int .i64 n]), undef, undef, undef, undef, undef, undef, undef], defers := [] }) (by kernel_rfl) (by kernel_rfl) (by kernel_rfl) (by simp [recoverD, hu]) (by kernel_rfl) ?_
  refine stepS p0_1 (.tuple #[.agg #[.int .i64 n], .bool true]) (w) ({ tmps := #[.pointer (some ⟨b1, 0, none⟩), .pointer (some ⟨b2, 0, none⟩), undef, undef, undef, .iface 35 (.agg #[.int .i64 n]), .tuple #[.agg #[.int .i64 n], .bool true], undef, undef, undef, undef, undef, undef], defers := [] }) (by kernel_rfl) (by kernel_rfl) (by kernel_rfl) (by kernel_rfl) ?_
  refine stepS p0_2 (.tuple #[.agg #[.int .i64 n], .bool true]) (w) ({ tmps := #[.pointer (some ⟨b1, 0, none⟩), .pointer (some ⟨b2, 0, none⟩), undef, undef, .tuple #[.agg #[.int .i64 n], .bool true], .iface 35 (.agg #[.int .i64 n]), .tuple #[.agg #[.int .i64 n], .bool true], undef, undef, undef, undef, undef, undef], defers := [] }) (by kernel_rfl) (by kernel_rfl) (by kernel_rfl) (by kernel_rfl) ?_
  refine stepS p0_3 (.agg #[.int .i64 n]) (w) ({ tmps := #[.pointer (some ⟨b1, 0, none⟩), .pointer (some ⟨b2, 0, none⟩), undef, undef, .tuple #[.agg #[.int .i64 n], .bool true], .iface 35 (.agg #[.int .i64 n]), .tuple #[.agg #[.int .i64 n], .bool true], .agg #[.int .i64 n], undef, undef, undef, undef, undef], defers := [] }) (by kernel_rfl) (by kernel_rfl) (by kernel_rfl) (by kernel_rfl) ?_
  refine stepS p0_4 (.bool true) (w) ({ tmps := #[.pointer (some ⟨b1, 0, none⟩), .pointer (some ⟨b2, 0, none⟩), undef, undef, .tuple #[.agg #[.int .i64 n], .bool true], .iface 35 (.agg #[.int .i64 n]), .tuple #[.agg #[.int .i64 n], .bool true], .agg #[.int .i64 n], .bool true, undef, undef, undef, undef], defers := [] }) (by kernel_rfl) (by kernel_rfl) (by kernel_rfl) (by kernel_rfl) ?_
  refine stepS p0_5 (.pointer (some ⟨w.heap.size, 0, none⟩)) (w.alloc (.cells #[.int .i64 0] 35)) ({ tmps := #[.pointer (some ⟨b1, 0, none⟩), .pointer (some ⟨b2, 0, none⟩), .pointer (some ⟨w.heap.size, 0, none⟩), undef, .tuple #[.agg #[.int .i64 n], .bool true], .iface 35 (.agg #[.int .i64 n]), .tuple #[.agg #[.int .i64 n], .bool true], .agg #[.int .i64 n], .bool true, undef, undef, undef, undef], defers := [] }) (by kernel_rfl) (by kernel_rfl) (by kernel_rfl) (by kernel_rfl) ?_
  refine stepS_skip p0_6 (w.alloc (.cells #[.int .i64 n] 35)) (by kernel_rfl) (by kernel_rfl) (by rw [show p0_6 = ⟨none, .store 35 (.tmp 2) (.tmp 7), 0, p0_6.pos, p0_6.after, none⟩ by kernel_rfl]; simp [execOp, go_sem]) (by kernel_rfl) ?_
  refine stepS p0_7 (.bool true) ((w.alloc (.cells #[.int .i64 n] 35))) ({ tmps := #[.pointer (some ⟨b1, 0, none⟩), .pointer (some ⟨b2, 0, none⟩), .pointer (some ⟨w.heap.size, 0, none⟩), .bool true, .tuple #[.agg #[.int .i64 n], .bool true], .iface 35 (.agg #[.int .i64 n]), .tuple #[.agg #[.int .i64 n], .bool true], .agg #[.int .i64 n], .bool true, undef, undef, undef, undef], defers := [] }) (by kernel_rfl) (by kernel_rfl) (by kernel_rfl) (by kernel_rfl) ?_
  refine stepS_end ?_
  show Code.wpS _ _ _ _ _ _
  refine wpS_seq (wpS_region ?_)
  rw [show List.range p1.size = [0] by kernel_rfl]
  refine stepS p1_0 (.bool true) ((w.alloc (.cells #[.int .i64 n] 35))) ({ tmps := #[.pointer (some ⟨b1, 0, none⟩), .pointer (some ⟨b2, 0, none⟩), .pointer (some ⟨w.heap.size, 0, none⟩), .bool true, .tuple #[.agg #[.int .i64 n], .bool true], .iface 35 (.agg #[.int .i64 n]), .tuple #[.agg #[.int .i64 n], .bool true], .agg #[.int .i64 n], .bool true, .bool true, undef, undef, undef], defers := [] }) (by kernel_rfl) (by kernel_rfl) (by kernel_rfl) (by kernel_rfl) ?_
  refine stepS_end ?_
  show Code.wpS _ _ _ _ _ _
  refine wpS_cond (t := true) (by kernel_rfl) ?_
  simp only [if_true]
  obtain ⟨hlt1, _⟩ := Array.getElem?_eq_some_iff.1 hb1
  obtain ⟨hlt2, _⟩ := Array.getElem?_eq_some_iff.1 hb2
  have g1 : (w.alloc (.cells #[.int .i64 n] 35)).heap[b1]? = some (.cells vs T1 (0, 0)) := by rw [Below.heap_alloc _ _ _ hlt1]; exact hb1
  have g2 : (w.alloc (.cells #[.int .i64 n] 35)).heap[b2]? = some (.cells #[.int .i64 x] T2 (0, 0)) := by rw [Below.heap_alloc _ _ _ hlt2]; exact hb2
  have g3 : (w.alloc (.cells #[.int .i64 n] 35)).heap[w.heap.size]? = some (.cells #[.int .i64 n] 35 (0, 0)) := by show (w.heap.push _)[w.heap.size]? = _; exact Array.getElem?_push_size
  have hsz : (w.alloc (.cells #[.int .i64 n] 35)).heap.size = w.heap.size + 1 := by show (w.heap.push _).size = _; exact Array.size_push _
  have hbel : Below w0.heap.size w0 (w.alloc (.cells #[.int .i64 n] 35)) := h0.alloc h0.size _
  generalize w.alloc (.cells #[.int .i64 n] 35) = W at *
  refine wpS_of_wp ((wpIn_wide (n := 0)).1 ?_)
  let μ0 : Mu := ⟨fun x => match x with | .r 0 => some b1 | .r 1 => some b2 | .r 2 => some w.heap.size | _ => none, fun _ => 0, none⟩
  let A0 : Dom := ⟨fun _ => False, fun _ => False, fun _ => False, w, fun r => match r with | 0 => some b1 | 1 => some b2 | _ => none, 2, .bool false⟩
  let st0 : St := ⟨[.ptr 0 0, .ptr 1 0, .ptr 2 0, .dead, .dead, .dead, .dead, .dead, .dead, .dead, .dead, .dead, .dead], [some [.dead, .dead, .dead, .dead, .dead], some [.dead], some [.d (.int .i64) n]], []⟩
  let st1 : St := ⟨[.ptr 0 0, .ptr 1 0, .ptr 2 0, .dead, .dead, .dead, .dead, .dead, .dead, .dead, .agg [.d (.int .i64) (0 : Int), .d (.int .i64) (0 : Int), .d .str ([] : List UInt8), .nilS, .nilS], .ptr 2 0, .d (.int .i64) n], [some [.d (.int .i64) (0 : Int), .d (.int .i64) (0 : Int), .d .str ([] : List UInt8), .nilS, .nilS], some [.d (.int .i64) n], some [.d (.int .i64) n]], []⟩
  have hat : ∀ x b, μ0.at_ x = some b → (x = .r 0 ∧ b = b1) ∨ (x = .r 1 ∧ b = b2) ∨ (x = .r 2 ∧ b = w.heap.size) := by
    intro x b h
    simp only [μ0] at h
    split at h <;> simp_all
  have hsim : Sim A0 w0 st0 #[.pointer (some ⟨b1, 0, none⟩), .pointer (some ⟨b2, 0, none⟩), .pointer (some ⟨w.heap.size, 0, none⟩), .bool true, .tuple #[.agg #[.int .i64 n], .bool true], .iface 35 (.agg #[.int .i64 n]), .tuple #[.agg #[.int .i64 n], .bool true], .agg #[.int .i64 n], .bool true, .bool true, undef, undef, undef] W μ0 := by
    refine ⟨?_, ?_, ?_, ?_, ?_, hbel, ?_, ?_, ?_, ?_, trivial, ?_, ?_, ?_⟩
    · exact RepAVs.cons (rep_ptr (by simp [cx, st0]) rfl) (RepAVs.cons (rep_ptr (by simp [cx, st0]) rfl) (RepAVs.cons (rep_ptr (by simp [cx, st0]) rfl) (rep_dead _ _ rfl)))
    · intro r cells h hk
      rcases r with _ | _ | _ | r <;> simp only [getL, st0] at h <;> simp at h <;> subst h
      · exact ⟨b1, vs, rfl, ⟨T1, g1⟩, rep_dead _ _ (by rw [Array.length_toList, hv]; rfl)⟩
      · exact ⟨b2, _, rfl, ⟨T2, g2⟩, rep_dead _ _ rfl⟩
      · exact ⟨w.heap.size, _, rfl, ⟨35, g3⟩, RepAVs.one (by simp only [RepAV, Rep])⟩
    · intro t o h; simp [getL, st0] at h
    · intro y b h
      rcases hat y b h with ⟨rfl, rfl⟩ | ⟨rfl, rfl⟩ | ⟨rfl, rfl⟩
      · exact ⟨hB1, by omega, by simp [getL, st0]⟩
      · exact ⟨hB2, by omega, by simp [getL, st0]⟩
      · exact ⟨h0.size, by omega, by simp [getL, st0]⟩
    · intro y z b h1 h2
      rcases hat y b h1 with ⟨rfl, rfl⟩ | ⟨rfl, rfl⟩ | ⟨rfl, rfl⟩ <;> rcases hat z _ h2 with ⟨rfl, e⟩ | ⟨rfl, e⟩ | ⟨rfl, e⟩ <;> first | rfl | (exfalso; omega)
    · intro b h; cases h
    · intro b h; cases h
    · simp [A0, st0]
    · intro r b h
      rcases r with _ | _ | r <;> simp only [A0] at h <;> cases h <;> exact ⟨by simp [A0], fun _ => rfl⟩
    · refine ⟨fun r c h1 h2 => ?_, fun t o h => by simp [getL, st0] at h⟩
      rcases r with _ | _ | _ | r <;> simp only [getL, st0] at h1 <;> simp at h1 <;> subst h1 <;> simp [isBld] at h2
    · intro r c h
      rcases r with _ | _ | _ | r <;> simp only [getL, st0] at h <;> simp at h
    · intro d h; cases h
  refine evC_sound (ρ := none) h12_E_okE (Dk := fun l => l = []) (A0 := A0) (w0 := w0) (S := St) (r := st1) (.region 2 p2 true) (fun ex st => match ex with | .normal => some st | _ => none) ?_ st0 _ W μ0 (by kernel_rfl) hsim rfl
  intro ex st' tm E a' w' μ' hK hs hl hd
  cases ex <;> simp only at hK <;> cases hK
  obtain ⟨rfl, rfl⟩ := hl
  have hm := hs.mem
  have hdf : a'.defers = [] := hd
  obtain ⟨c1, v1, e1, ⟨t1, o1⟩, r1⟩ := hm.hrec 0 _ rfl rfl
  obtain ⟨c2, v2, e2, ⟨t2, o2⟩, r2⟩ := hm.hrec 1 _ rfl rfl
  have k1 := (hm.pins 0 b1 rfl).2 rfl
  have k2 := (hm.pins 1 b2 rfl).2 rfl
  rw [k1] at e1; cases e1
  rw [k2] at e2; cases e2
  obtain ⟨l1, rfl⟩ : ∃ l : List Value, v1 = l.toArray := ⟨v1.toList, by simp⟩
  obtain ⟨l2, rfl⟩ : ∃ l : List Value, v2 = l.toArray := ⟨v2.toList, by simp⟩
  simp only [RepAVs, RepAV, Rep] at r1 r2
  simp at r1 r2
  subst r1; subst r2
  refine ⟨hdf, _, rfl, .tuple #[], by simp [results, Try.results10], rfl, rfl, ⟨t1, o1⟩, ⟨t2, o2⟩, hm.below⟩
end Go.Pe.Try
