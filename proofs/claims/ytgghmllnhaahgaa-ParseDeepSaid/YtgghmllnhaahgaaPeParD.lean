/- The parser, whole. -/
import Derived.Test.YtgghmllnhaahgaaPeParC
set_option linter.unusedSectionVars false
set_option linter.unusedVariables false
set_option linter.unusedSimpArgs false
namespace Go.Pe.Try
open Go.Proofs Go.RowKit
set_option maxRecDepth 100000
theorem stepIn {P : Program} {n : Nat} {ops : Array Oper} {Q : Exit → Act → World → Prop} {i : Nat} {rest : List Nat} {a : Act} {w : World} (o : Oper) (v : Value) (w' : World)
    (ho : ops[i]? = some o) (hg : o.guard = none) (hr : (execOp a.eval o).run P w = .ok (.value v) w') (h : wpOpsIn (Fr none) n P ops Q rest (a.put o.dst v) w') : wpOpsIn (Fr none) n P ops Q (i :: rest) a w := by
  have hw : Region.wanted o (yielded ops a.tmps) = true := by simp [Region.wanted, hg]
  simp only [wpOpsIn, ho, hw, if_true]
  refine ⟨fun _ _ => trivial, ?_⟩
  rw [show (Fr none).round = none from rfl, Oper.semAt_none, hr]; exact h
theorem stepIn_defer {P : Program} {n : Nat} {ops : Array Oper} {Q : Exit → Act → World → Prop} {i : Nat} {rest : List Nat} {a : Act} {w : World} (o : Oper) (d : Deferred) (w' : World)
    (ho : ops[i]? = some o) (hg : o.guard = none) (hr : (execOp a.eval o).run P w = .ok (.defer d) w') (h : wpOpsIn (Fr none) n P ops Q rest ({ a with defers := d :: a.defers }.put o.dst undef) w') : wpOpsIn (Fr none) n P ops Q (i :: rest) a w := by
  have hw : Region.wanted o (yielded ops a.tmps) = true := by simp [Region.wanted, hg]
  simp only [wpOpsIn, ho, hw, if_true]
  refine ⟨fun _ _ => trivial, ?_⟩
  rw [show (Fr none).round = none from rfl, Oper.semAt_none, hr]; exact h
theorem sim_pin {A0 : Dom} {w0 w : World} {st : St} {tmps : Array Value} {μ : Mu} (hs : Sim A0 w0 st tmps w μ) (pin : Nat → Option Nat) (np : Nat) (hnp : np ≤ st.recs.length) (hp : ∀ r b, pin r = some b → r < np ∧ ((getL st.recs r).isSome = true → μ.at_ (.r r) = some b)) :
    Sim { A0 with pin := pin, np := np } w0 st tmps w μ :=
  have hm := hs.mem
  ⟨hs.slots, ⟨hm.hrec, hm.hlst, hm.live, hm.inj, hm.below, hm.fr, hm.xo, hnp, hp, hm.gi, hm.bty, hm.htop, hm.deep⟩⟩
noncomputable def parD (b1 b2 : Nat) : Deferred := { target := .fn (.func 10) #[.pointer (some ⟨b1, 0, none⟩), .pointer (some ⟨b2, 0, none⟩)], args := #[] }
def parR (w : World) (A : Nat → Prop) (z : argsDen f5_rs) (e : Ending) (w' : World) : Prop := ∃ v, e = .returned v ∧ Below w.heap.size w w' ∧ RepAV (c0 (News w w' A) w') (encRes f5_rs z) v
def parA (w : World) (b1 b2 : Nat) : Dom := ⟨fun _ => False, fun _ => False, fun _ => False, w, fun r => match r with | 0 => some b1 | 1 => some b2 | _ => none, 2, .bool false⟩
theorem par_invoke (b1 b2 : Nat) (w : World) : (invoke (parD b1 b2).target (parD b1 b2).args).run Try.prog w = .ok (.enter 10 #[.pointer (some ⟨b1, 0, none⟩), .pointer (some ⟨b2, 0, none⟩)]) w := by kernel_rfl
theorem leave_panic {w w' : World} {b1 b2 : Nat} {tmps : Array Value} {μ : Mu} {n : Int} {A : Nat → Prop} {v : Value} {c : Cx} (h : Sim (parA w b1 b2) w (fill q_sP q_p) tmps w' μ) (hv : RepAV c (.ifc 35 [.agg [.d (.int .i64) n]]) v) :
    Leaves Try.prog Try.f5 tmps (parR w A (zeroR n)) [parD b1 b2] (.panicking [{ v := v, recovered := false }]) w' := by
  have hm := h.mem
  obtain ⟨u, rfl, hu⟩ : ∃ u, v = .iface 35 u ∧ RepAVs c [.agg [.d (.int .i64) n]] [u] := by simpa only [RepAV] using hv
  obtain ⟨u', hu', hx⟩ := hu.one'
  cases hu'
  simp only [RepAV] at hx
  obtain ⟨us, rfl, hy⟩ := hx
  obtain ⟨u1, e1, hw⟩ := hy.one'
  simp only [RepAV, Rep, List.cons.injEq, and_true] at hw
  subst hw
  obtain rfl : us = #[.int .i64 n] := by apply Array.ext'; simpa using e1
  have k1 := (hm.pins 0 b1 rfl).2 rfl
  have k2 := (hm.pins 1 b2 rfl).2 rfl
  obtain ⟨c1, v1, e1, ⟨T1, o1⟩, r1⟩ := hm.hrec 0 _ rfl rfl
  obtain ⟨c2, v2, e2, ⟨T2, o2⟩, r2⟩ := hm.hrec 1 _ rfl rfl
  rw [k1] at e1; cases e1
  rw [k2] at e2; cases e2
  have hl1 := r1.length
  obtain ⟨u2, e2, hu2⟩ := RepAVs.one' (av := .d (.int .i64) (0 : Int)) r2
  simp only [RepAV, Rep, List.cons.injEq, and_true] at hu2
  subst hu2
  obtain ⟨l2, rfl⟩ : ∃ l : List Value, v2 = l.toArray := ⟨v2.toList, by simp⟩
  simp only at e2
  subst e2
  have hne : b1 ≠ b2 := fun e => by subst e; have := hm.inj _ _ _ k1 k2; cases this
  refine leaves_cons (fv := .func 10) (cap := #[.pointer (some ⟨b1, 0, none⟩), .pointer (some ⟨b2, 0, none⟩)]) (dargs := #[]) (by simp) (par_invoke b1 b2 w') ?_
  refine (catch_fault b1 b2 w' n T1 T2 v1 0 o1 (by rw [← Array.length_toList]; exact hl1) o2 hne w hm.below (hm.live _ _ k1).1 (hm.live _ _ k2).1).mono ?_
  rintro e u' w'' ⟨rfl, rfl, ⟨T1', g1⟩, ⟨T2', g2⟩, hbel⟩
  show Leaves _ _ _ _ [] .returning w''
  obtain ⟨s0, t1, et1, _, hsl⟩ := h.slots.cons'
  obtain ⟨s1, t2, et2, _, hsl⟩ := hsl.cons'
  obtain ⟨s2, t3, et3, p2, hsl⟩ := hsl.cons'
  obtain ⟨s3, t4, et4, p3, hsl⟩ := hsl.cons'
  have hl := hsl.length
  simp only [RepAV] at p2 p3
  obtain ⟨_, _, p2⟩ := p2
  obtain ⟨_, _, p3⟩ := p3
  obtain ⟨_, q2, rfl⟩ := p2 rfl
  obtain ⟨_, q3, rfl⟩ := p3 rfl
  replace q2 : μ.at_ (.r 0) = _ := q2
  replace q3 : μ.at_ (.r 1) = _ := q3
  rw [k1] at q2; cases q2
  rw [k2] at q3; cases q3
  have hs := sim_two hbel hne (hm.live _ _ k1).1 (hm.live _ _ k2).1 (cs1 := [.d (.int .i64) (0 : Int), .d (.int .i64) (0 : Int), .d .str ([] : List UInt8), .nilS, .nilS]) (cs2 := [.d (.int .i64) n]) (sl := [.dead, .dead, .ptr 0 0, .ptr 1 0, .dead, .dead, .dead, .dead, .dead, .dead, .dead, .dead, .dead, .dead, .dead, .dead, .dead, .dead, .dead, .dead, .dead, .dead]) (tmps := tmps) g1 g2 rfl rfl rfl rfl _ rfl (parA w b1 b2) rfl
    (by simp [RepAVs, RepAV, Rep]) (by simp [RepAVs, RepAV, Rep]) (by
      rw [et1, et2, et3, et4]
      exact RepAVs.cons (by simp only [RepAV]) (RepAVs.cons (by simp only [RepAV]) (RepAVs.cons (rep_ptr (by simp [cx]) rfl) (RepAVs.cons (rep_ptr (by simp [cx]) rfl) (rep_dead _ _ (by have h18 : t4.length = 18 := hl; rw [h18]; rfl))))))
  obtain ⟨v, f1, f2⟩ := fin_of (a := ⟨tmps, []⟩) E5_ok (A := A) (A0 := parA w b1 b2) (fun b h => False.elim h) hs (q_e9 n)
  exact ⟨v, f1, v, rfl, hbel, f2⟩
end Go.Pe.Try
