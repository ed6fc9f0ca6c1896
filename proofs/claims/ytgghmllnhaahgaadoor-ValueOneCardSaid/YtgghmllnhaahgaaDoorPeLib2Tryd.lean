/- The library's functions at this program, as the evaluator calls them: FormatInt, ReplaceAll. -/
import Derived.Test.YtgghmllnhaahgaaDoorPeLibTryd
set_option linter.unusedSectionVars false
set_option linter.unusedVariables false
set_option linter.unusedSimpArgs false
namespace Go.Pe.Tryd
open Go.Proofs Go.RowKit Go.Lib Go.Sort
noncomputable def formatF (y : argsDen [.one (.int .i64), .one (.int .i64)]) : Option (argsDen [.one .str]) :=
  if y.2.1 = 10 ∧ -9223372036854775808 ≤ y.1 ∧ y.1 ≤ 9223372036854775807 then some (Lib.itoa y.1, ()) else none
theorem below_growN (w : World) (k : Nat) (os : Array Obj) : Below w.heap.size w (grow (w.drewN k) os) :=
  ⟨rfl, rfl, rfl, Lib.size_grow w k os, fun j hj => Lib.heap_grow_old w k os j hj⟩
theorem format_ok : Sound Tryd.prog 39 (pfun formatF) := by
  refine ⟨⟨_, Tryd.func39, by kernel_rfl, by kernel_rfl⟩, ?_⟩
  intro S args K r hG A w vs hA hgi hcl hrep
  simp only [pfun, Option.bind_eq_some_iff] at hG
  obtain ⟨⟨n, b, _⟩, hy, z, hz, hK⟩ := hG
  refine ⟨_, hK, encRes_closed _ z, ?_⟩
  have hargs := decArgs_rep hy hrep
  simp only [encArgs, KD.enc] at hargs
  obtain ⟨v1, _, rfl, r1, hargs⟩ := hargs.cons'
  obtain ⟨v2, _, rfl, r2, hargs⟩ := hargs.cons'
  obtain rfl := hargs.nil
  simp only [RepAV, Rep, List.cons.injEq, and_true] at r1 r2
  subst r1; subst r2
  unfold formatF at hz
  split at hz
  · rename_i hc
    cases hz
    obtain ⟨hb, h0, h1⟩ := hc
    simp only at hb; subst hb
    refine (Tryd.strconv_FormatInt_10 n h0 h1 w hgi.2).mono fun e w' ⟨he, k, os, hw⟩ => ⟨_, he, ?_, ?_⟩
    · rw [hw]; exact below_growN w k os
    · simp [encRes, encArgs, resVal, KD.enc, RepAV, Rep]
  · cases hz
noncomputable def replaceF (y : argsDen [.one .str, .one .str, .one .str]) : Option (argsDen [.one .str]) :=
  if y.1.length < 4294967281 ∧ 1 ≤ y.2.1.length ∧ y.1.length + Lib.countB ⟨y.1.toArray⟩ ⟨y.2.1.toArray⟩ * y.2.2.1.length ≤ 140737488355328 then some (Lib.replaceAll y.1 y.2.1 y.2.2.1, ()) else none
theorem replace_ok : Sound Tryd.prog 72 (pfun replaceF) := by
  refine ⟨⟨_, Tryd.func72, by kernel_rfl, by kernel_rfl⟩, ?_⟩
  intro S args K r hG A w vs hA hgi hcl hrep
  simp only [pfun, Option.bind_eq_some_iff] at hG
  obtain ⟨⟨s, old, new, _⟩, hy, z, hz, hK⟩ := hG
  refine ⟨_, hK, encRes_closed _ z, ?_⟩
  have hargs := decArgs_rep hy hrep
  simp only [encArgs, KD.enc] at hargs
  obtain ⟨v1, _, rfl, r1, hargs⟩ := hargs.cons'
  obtain ⟨v2, _, rfl, r2, hargs⟩ := hargs.cons'
  obtain ⟨v3, _, rfl, r3, hargs⟩ := hargs.cons'
  obtain rfl := hargs.nil
  simp only [RepAV, Rep, List.cons.injEq, and_true] at r1 r2 r3
  subst r1; subst r2; subst r3
  unfold replaceF at hz
  split at hz
  · rename_i hc
    cases hz
    obtain ⟨⟨m, hm⟩, _⟩ := hgi
    refine (Tryd.strings_ReplaceAll ⟨s.toArray⟩ ⟨old.toArray⟩ ⟨new.toArray⟩ m w (by simpa [ByteArray.size] using hc.1) hm (by simpa [ByteArray.size] using hc.2.1) (by simpa [ByteArray.size] using hc.2.2)).mono fun e w' ⟨he, hw⟩ => ⟨_, he, hw, ?_⟩
    simp [encRes, encArgs, resVal, KD.enc, RepAV, Rep]
  · cases hz
end Go.Pe.Tryd
