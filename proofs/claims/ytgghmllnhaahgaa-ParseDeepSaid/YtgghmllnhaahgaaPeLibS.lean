/- Functions of the library that are told by contracts: as the evaluator calls them. -/
import Derived.Test.YtgghmllnhaahgaaPeTi
import Derived.Lib.Repeat
import Derived.Lib.Join
namespace Go.Pe
open Go.RowKit
set_option linter.unusedSectionVars false
variable [GI]
set_option linter.unusedVariables false

/-- strings.Repeat, within one allocation. -/
noncomputable def repeatF (y : argsDen [.one .str, .one (.int .i64)]) : Option (argsDen [.one .str]) :=
  if 0 ≤ y.2.1 ∧ y.2.1 ≤ 9223372036854775807 ∧ y.1.length * y.2.1.toNat ≤ 140737488355328 then some (Lib.repeatL y.1 y.2.1.toNat, ()) else none
theorem repeat_sound {P : Program} {f : Nat} (hfn : ∃ fn, P.funcs[f]? = some fn ∧ (fn.name == "runtime.NumGoroutine") = false ∧ fn.body.isSome = true)
    (h : ∀ (s : ByteArray) (c : Nat) (w : World), c ≤ 9223372036854775807 → s.size * c ≤ 140737488355328 → Calls P f #[.string s, .int .i64 c] w fun e w' => e = .returned (.string ⟨(Lib.repeatL s.data.toList c).toArray⟩) ∧ Below w.heap.size w w') :
    Sound P f (pfun repeatF) := by
  refine ⟨hfn, ?_⟩
  intro S args K r hG A w vs hA hgi hcl hrep
  simp only [pfun, Option.bind_eq_some_iff] at hG
  obtain ⟨⟨s, c, _⟩, hy, z, hz, hK⟩ := hG
  refine ⟨_, hK, encRes_closed _ z, ?_⟩
  have hargs := decArgs_rep hy hrep
  simp only [encArgs, KD.enc] at hargs
  obtain ⟨v1, _, rfl, r1, hargs⟩ := hargs.cons'
  obtain ⟨v2, _, rfl, r2, hargs⟩ := hargs.cons'
  obtain rfl := hargs.nil
  simp only [RepAV, Rep, List.cons.injEq, and_true] at r1 r2
  subst r1; subst r2
  unfold repeatF at hz
  split at hz
  · rename_i hc
    cases hz
    have h0 : (0 : Int) ≤ c := hc.1
    obtain ⟨n, rfl⟩ := Int.eq_ofNat_of_zero_le h0
    have := h ⟨s.toArray⟩ n w (by have h1 : (n : Int) ≤ 9223372036854775807 := hc.2.1; omega) (by simpa [ByteArray.size] using hc.2.2)
    refine this.mono fun e w' ⟨he, hb⟩ => ⟨_, he, hb, ?_⟩
    simp [encRes, encArgs, resVal, KD.enc, RepAV, Rep]
  · cases hz

/-- strings.Join, within one allocation. -/
noncomputable def joinF (y : argsDen [.one (.list .str), .one .str]) : Option (argsDen [.one .str]) :=
  if y.1.length ≤ 140737488355328 ∧ (Lib.join y.1 y.2.1).length ≤ 140737488355328 then some (Lib.join y.1 y.2.1, ()) else none
theorem strs_of {A : Nat → Prop} {w : World} : ∀ {xs : List (List UInt8)} {us : List Value}, RepAll (Rep A w .str) xs us → us = xs.map fun s => Value.string ⟨s.toArray⟩
  | [], _, h => by simpa [RepAll] using h
  | x :: xs, _, ⟨u1, u2, e, h1, h2⟩ => by
    simp only [Rep] at h1
    rw [e, h1, strs_of h2]; rfl
theorem join_sound {P : Program} {f : Nat} (hfn : ∃ fn, P.funcs[f]? = some fn ∧ (fn.name == "runtime.NumGoroutine") = false ∧ fn.body.isSome = true)
    (h0 : ∀ (a : Option Addr) (c : Nat) (sep : ByteArray) (w : World), Calls P f #[.slice a 0 c, .string sep] w fun e w' => e = .returned (.string ⟨#[]⟩) ∧ w' = w)
    (h : ∀ (bk o c : Nat) (xs : List ByteArray) (sep : ByteArray) (w : World) (hcells : ∀ (j : Nat) x, xs[j]? = some x → w.cell? ⟨bk, o + j, none⟩ = some (.string x)) (hbk : bk < w.heap.size) (hN : xs.length ≤ 140737488355328) (hcap : xs.length ≤ c) (hlen : (Lib.join (xs.map (·.data.toList)) sep.data.toList).length ≤ 140737488355328),
      Calls P f #[.slice (some ⟨bk, o, none⟩) xs.length c, .string sep] w fun e w' => e = .returned (.string ⟨(Lib.join (xs.map (·.data.toList)) sep.data.toList).toArray⟩) ∧ Below w.heap.size w w') :
    Sound P f (pfun joinF) := by
  refine ⟨hfn, ?_⟩
  intro S args K r hG A w vs hA hgi hcl hrep
  simp only [pfun, Option.bind_eq_some_iff] at hG
  obtain ⟨⟨xs, sep, _⟩, hy, z, hz, hK⟩ := hG
  refine ⟨_, hK, encRes_closed _ z, ?_⟩
  have hargs := decArgs_rep hy hrep
  simp only [encArgs, KD.enc] at hargs
  obtain ⟨v1, _, rfl, r1, hargs⟩ := hargs.cons'
  obtain ⟨v2, _, rfl, r2, hargs⟩ := hargs.cons'
  obtain rfl := hargs.nil
  simp only [RepAV, Rep, List.cons.injEq, and_true] at r2
  subst r2
  simp only [RepAV] at r1
  obtain ⟨v, e, a, cap, rfl, hcap, hm⟩ := r1
  simp only [List.cons.injEq, and_true] at e
  subst e
  unfold joinF at hz
  split at hz
  · rename_i hc
    cases hz
    rcases hm with rfl | ⟨ad, us, rfl, hsp, hAb, hcells, hall⟩
    · refine (h0 a cap ⟨sep.toArray⟩ w).mono fun e w' ⟨he, hw⟩ => ⟨_, he, hw ▸ Below.refl _ _, ?_⟩
      simp [encRes, encArgs, resVal, KD.enc, RepAV, Rep, Lib.join_nil]
    · have hus := strs_of hall
      have := h ad.block ad.off cap (xs.map fun s => ⟨s.toArray⟩) ⟨sep.toArray⟩ w (fun j x hx => ?_) (hA _ hAb) (by simpa using hc.1) (by simpa using hcap) (by simpa [List.map_map, Function.comp_def] using hc.2)
      · have ead : (⟨ad.block, ad.off, none⟩ : Addr) = ad := by cases ad; simp_all
        rw [ead] at this
        simp only [List.length_map] at this
        refine this.mono fun e w' ⟨he, hb⟩ => ⟨_, he, hb, ?_⟩
        simp [encRes, encArgs, resVal, KD.enc, RepAV, Rep, List.map_map, Function.comp_def]
      · have hj : j < us.length := by
          rw [hus, List.length_map]
          have := (List.getElem?_eq_some_iff.1 hx).1
          simpa using this
        refine (hcells j hj).trans ?_
        rw [hus]
        simpa using hx
  · cases hz
end Go.Pe
