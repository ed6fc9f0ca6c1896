/- The operations that read memory. -/
import Derived.Test.YtgghmllnhaahgaaPeOps1
namespace Go.Pe
open Go.RowKit
set_option linter.unusedSectionVars false
variable [GI]
set_option linter.unusedSimpArgs false
set_option linter.unusedVariables false

theorem add_addr {ad : Addr} (h : ad.spot = none) (n : Nat) : ad.add n = ⟨ad.block, ad.off + n, none⟩ := by
  obtain ⟨b, o, s⟩ := ad; subst h; unfold Addr.add; split <;> simp_all
theorem Own.cells {w : World} {b : Nat} {vs : Array Value} (h : Own w b vs) : CellsAt w ⟨b, 0, none⟩ vs.toList := by
  obtain ⟨el, e⟩ := h
  intro j hj
  simp [World.cell?, e]

section
variable {P : Program} {S : Type} {c : Cx} {w : World}

theorem optRep {st : St} {a : Act} (h : RepAVs c st.slots a.tmps.toList) (x : Option Operand) :
    match opt st x, x.map a.eval with | none, none => True | some av, some v => RepAV c av v | _, _ => False := by
  cases x with
  | none => simp [opt]
  | some x => simp only [opt, Option.map_some]; exact ev_rep h x

/-- A cut of what a slice reads as. -/
theorem SliceRep.cut {A : Nat → Prop} {α : Type} {R : α → List Value → Prop} {sz : Nat} (hs : ∀ x u, R x u → u.length = sz) {L : List α} {a : Option Addr} {cap l h' : Nat}
    (hv : SliceRep A w R L (.slice a L.length cap)) (hl : l ≤ h') (hh : h' ≤ L.length) (cap' : Nat) (hc : cap' = cap - l ∨ cap' = h' - l) (m : Nat) (hm : l < h' → m ≠ l) :
    SliceRep A w R ((L.take h').drop l) (.slice (if m = l then a else a.map (·.add (l * sz))) (h' - l) cap') := by
  obtain ⟨a', cap0, e, hcap, hmem⟩ := hv
  cases e
  have hlen : ((L.take h').drop l).length = h' - l := by simp; omega
  refine ⟨_, cap', by rw [hlen], by rw [hlen]; omega, ?_⟩
  by_cases he : (L.take h').drop l = []
  · exact .inl he
  · have hlt : l < h' := by
      rcases Nat.lt_or_ge l h' with h | h
      · exact h
      · exact absurd (List.eq_nil_of_length_eq_zero (by rw [hlen]; omega)) he
    rcases hmem with hm' | ⟨ad, us, ha, hsp, hA, hcs, hr⟩
    · subst hm'; simp at hh; omega
    · subst ha
      refine .inr ⟨⟨ad.block, ad.off + l * sz, none⟩, (us.take (h' * sz)).drop (l * sz), ?_, rfl, hA, (hcs.take _).drop _, (hr.take hs h').drop hs l⟩
      rw [if_neg (hm hlt)]; simp [add_addr hsp]

variable {ε : Env} (hε : EnvOk P ε)
include hε

theorem slice_run {t : Nat} {x : AV} {lo hi mx : Option AV} {vx : Value} {vlo vhi vmx : Option Value} (hx : RepAV c x vx)
    (hlo : match lo, vlo with | none, none => True | some a, some v => RepAV c a v | _, _ => False)
    (hhi : match hi, vhi with | none, none => True | some a, some v => RepAV c a v | _, _ => False)
    (hmx : match mx, vmx with | none, none => True | some a, some v => RepAV c a v | _, _ => False)
    (hw : c.w = w) (K : AV → Option S) (r : S) (h : evSlice ε t x lo hi mx K = some r) :
    ∃ av v, K av = some r ∧ (Instr.sliceAt t vx vlo vhi vmx).run P w = .ok v w ∧ RepAV c av v := by
  unfold evSlice at h
  split at h
  · -- a string
    split at h
    · rename_i s hs
      simp only [RepAV, Rep, List.cons.injEq, and_true] at hx; subst hx
      cases vmx <;> simp only at hmx
      obtain ⟨l, h', hl, hh, hK, hr⟩ := cut_run (P := P) (c := c) (w := w) s (b := false) (cap := s.length) hlo hhi (Nat.le_refl _) _ r h
      refine ⟨_, .string ⟨((s.take h').drop l).toArray⟩, hK, ?_, by simp only [RepAV, Rep]⟩
      have hu := isStr_ok hε hs
      simp [Instr.sliceAt, Instr.slice, run_underlying hu, size_str, hr, extract_str]
    · cases h
  · split at h
    · rename_i e L hs
      simp only [RepAV, Rep, List.cons.injEq, and_true] at hx
      obtain ⟨_, rfl, hx⟩ := hx
      obtain ⟨a, cap, rfl, hcap, hm⟩ := hx
      cases vmx <;> simp only at hmx
      obtain ⟨et, inf, hu, hi', hsz⟩ := szOk_ok hε hs
      obtain ⟨l, h', hl, hh, hK, hr⟩ := cut_run (P := P) (c := c) (w := w) L (b := true) (cap := cap) hlo hhi hcap _ r h
      refine ⟨_, .slice (if cap = l then a else a.map (·.add (l * e.size))) (h' - l) (cap - l), hK, ?_, ?_⟩
      · simp [Instr.sliceAt, Instr.slice, run_underlying hu, hr, sizeOf, typeInfo, hi', hsz]
      · simp only [RepAV, Rep, List.cons.injEq, and_true]
        exact ⟨_, rfl, SliceRep.cut (sz := e.size) (fun x u h => h.length) ⟨a, cap, rfl, hcap, hm⟩ hl hh _ (.inl rfl) cap (fun _ => by omega)⟩
    · cases h
  · split at h
    · rename_i e L hs
      simp only [RepAV, Rep, List.cons.injEq, and_true] at hx
      obtain ⟨⟨a0, rfl⟩, _, rfl, hx⟩ := hx
      obtain ⟨a, cap, e1, hcap, hm⟩ := hx
      cases e1
      cases vmx <;> simp only at hmx
      obtain ⟨et, inf, hu, hi', hsz⟩ := szOk_ok hε hs
      obtain ⟨l, h', hl, hh, hK, hr⟩ := cut_run (P := P) (c := c) (w := w) L (b := true) (cap := L.length) hlo hhi hcap _ r h
      refine ⟨_, .slice (if L.length = l then a0 else a0.map (·.add (l * e.size))) (h' - l) (L.length - l), hK, ?_, ?_⟩
      · simp [Instr.sliceAt, Instr.slice, run_underlying hu, hr, sizeOf, typeInfo, hi', hsz]
      · simp only [RepAV, Rep, List.cons.injEq, and_true]
        exact ⟨_, rfl, SliceRep.cut (sz := e.size) (fun x u h => h.length) ⟨a0, L.length, rfl, hcap, hm⟩ hl hh _ (.inl rfl) _ (fun _ => by omega)⟩
    · cases h
  · split at h
    · split at h
      · rename_i e L km m _ kb b hs
        unfold sameInt at h
        split at h
        · rename_i he
          have he' : (m : Int) = b := he
          simp only [RepAV, Rep, List.cons.injEq, and_true] at hx
          obtain ⟨_, rfl, hx⟩ := hx
          obtain ⟨a0, cap, rfl, hcap, hm⟩ := hx
          cases vmx <;> simp only at hmx
          cases vhi <;> simp only at hhi
          simp only [RepAV, Rep, List.cons.injEq, and_true] at hmx hhi
          subst hmx; subst hhi
          obtain ⟨et, inf, hu, hi', hsz⟩ := szOk_ok hε hs
          obtain ⟨l, h', hl, hh, hK, hr⟩ := cut_run3 (P := P) (c := c) (w := w) L (b := true) (cap := cap) (k' := km) hlo hcap _ r h
          rw [← he'] at hr
          refine ⟨_, .slice (if h' = l then a0 else a0.map (·.add (l * e.size))) (h' - l) (h' - l), hK, ?_, ?_⟩
          · rw [← he']; simp [Instr.sliceAt, Instr.slice, run_underlying hu, hr, sizeOf, typeInfo, hi', hsz]
          · simp only [RepAV, Rep, List.cons.injEq, and_true]
            have hlen : ((L.take h').drop l).length = h' - l := by simp; omega
            exact ⟨⟨_, by rw [hlen]⟩, _, rfl, SliceRep.cut (sz := e.size) (fun x u h => h.length) ⟨a0, _, rfl, hcap, hm⟩ hl hh _ (.inr rfl) h' (fun _ => by omega)⟩
        · cases h
      · cases h
    · cases h
  · split at h
    · split at h
      · rename_i e L km m _ kb b hs
        unfold sameInt at h
        split at h
        · rename_i he
          have he' : (m : Int) = b := he
          simp only [RepAV, Rep, List.cons.injEq, and_true] at hx
          obtain ⟨⟨a0, rfl⟩, _, rfl, hx⟩ := hx
          obtain ⟨a1, cap, e1, hcap, hm⟩ := hx
          cases e1
          cases vmx <;> simp only at hmx
          cases vhi <;> simp only at hhi
          simp only [RepAV, Rep, List.cons.injEq, and_true] at hmx hhi
          subst hmx; subst hhi
          obtain ⟨et, inf, hu, hi', hsz⟩ := szOk_ok hε hs
          obtain ⟨l, h', hl, hh, hK, hr⟩ := cut_run3 (P := P) (c := c) (w := w) L (b := true) (cap := L.length) (k' := km) hlo hcap _ r h
          rw [← he'] at hr
          refine ⟨_, .slice (if h' = l then a0 else a0.map (·.add (l * e.size))) (h' - l) (h' - l), hK, ?_, ?_⟩
          · rw [← he']; simp [Instr.sliceAt, Instr.slice, run_underlying hu, hr, sizeOf, typeInfo, hi', hsz]
          · simp only [RepAV, Rep, List.cons.injEq, and_true]
            have hlen : ((L.take h').drop l).length = h' - l := by simp; omega
            exact ⟨⟨_, by rw [hlen]⟩, _, rfl, SliceRep.cut (sz := e.size) (fun x u h => h.length) ⟨a0, _, rfl, hcap, hm⟩ hl hh _ (.inr rfl) h' (fun _ => by omega)⟩
        · cases h
      · cases h
    · cases h
  · split at h
    · split at h
      · rename_i r' fs _ _ kb n hs
        change Int at n
        unfold sameInt at h
        split at h
        · rename_i hn
          simp only [RepAV, RepSX] at hx
          obtain ⟨cap, b, h1, h2, rfl, h3⟩ := hx
          cases vmx <;> simp only at hmx
          cases vlo <;> simp only at hlo
          cases vhi <;> simp only at hhi
          simp only [RepAV, Rep, List.cons.injEq, and_true] at hhi
          subst hhi
          obtain ⟨et, inf, hu, hi', hsz⟩ := szOk_ok hε hs
          refine ⟨_, .slice (some ⟨b, 0, none⟩) fs.length cap, h, ?_, by simp only [RepAV, RepSX]; exact ⟨cap, b, h1, h2, rfl⟩⟩
          subst hn
          have hr : (Instr.sliceBounds true (fs.length + 1) cap none (some (.int kb (fs.length : Int))) none).run P w = .ok (0, fs.length, cap) w := by
            have h4 : (0 : Int) ≤ (fs.length : Int) ∧ (fs.length : Int) ≤ (cap : Int) := by omega
            simp [Instr.sliceBounds, Instr.sliceBound, asIntOf, h4]
            omega
          have hc0 : cap ≠ 0 := by omega
          simp [Instr.sliceAt, Instr.slice, run_underlying hu, hr, sizeOf, typeInfo, hi', hsz, Addr.add]
        · cases h
      · cases h
    · cases h
  · cases h
end
end Go.Pe
