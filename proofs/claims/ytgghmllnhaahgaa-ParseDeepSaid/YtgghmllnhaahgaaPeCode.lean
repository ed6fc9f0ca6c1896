/- Regions in the order of the text, code, pieces of it by themselves, loops. -/
import Derived.Test.YtgghmllnhaahgaaPeDraw3
import Derived.LoopNIn
namespace Go.Pe
open Go.RowKit
set_option linter.unusedSectionVars false
variable [GI]
set_option linter.unusedSimpArgs false
set_option linter.unusedVariables false

def Ex.out : Ex → Exit
  | .normal => .normal
  | .exit id => .exit id
  | .ret => .ret
  | .panic => .panic []

section
variable {P : Program} {A0 : Dom} {Dk : List Deferred → Prop} {w0 : World} {S : Type}
variable {ε : Env} (hε : EnvOk P ε)
include hε

theorem nilCmp_run {w : World} {st : St} {a : Act} {μ : Mu} (hs : Sim A0 w0 st a.tmps w μ) {o : Oper} {q : (e : Ty) × List e.den} (h : nilCmp ε st o = some q) :
    ∃ b : Bool, (execOp a.eval o).run P w = .ok (.value (.bool b)) w ∧ (b = true → q.2 = []) ∧ ∀ c, o.op ≠ .defer c := by
  unfold nilCmp at h
  split at h
  · rename_i t x ty hop
    split at h
    · rename_i e xs hx
      split at h
      · rename_i hel
        cases h
        obtain ⟨et, het⟩ := Option.isSome_iff_exists.1 hel
        have hu := elemT_ok hε het
        have h1 := ev_rep hs.slots x
        rw [hx] at h1
        simp only [RepAV, Rep] at h1
        obtain ⟨v, hv1, hsl⟩ := h1
        simp only [List.cons.injEq, and_true] at hv1; subst hv1
        obtain ⟨a', cap, hv, _, hor⟩ := hsl
        have hg := guard_ok (P := P) (w := w) .eql t x (.const (.slice none 0 0)) (a.eval x) (.slice none 0 0) ⟨by rw [hv]; simp, by rw [hv]; simp⟩
        have heq : ∀ b, (Op.equal t (.slice a' xs.length cap) (.slice none 0 0)).run P w = .ok b w → (execOp a.eval o).run P w = .ok (.value (.bool b)) w := fun b hb => by
          rw [hv] at hg
          have hc : a.eval (.const (.slice none 0 0)) = .slice none 0 0 := rfl
          simp [execOp, hop, hv, hc, hg, binOp, hb]
        refine ⟨a'.isNone, heq _ ?_, fun hb => ?_, by rw [hop]; intro c h; cases h⟩
        · unfold Op.equal
          rw [show Op.maxDepth = (Op.maxDepth - 1) + 1 from by decide]
          unfold Op.equalIn
          simp only [Sem.run_bind, run_underlying hu, Result.andThen_ok]
          cases a' <;> rfl
        · rcases hor with h | ⟨ad, us, h1, _⟩
          · exact h
          · rw [h1] at hb; cases hb
      · cases h
    · cases h
  · cases h
theorem evOps_sound {ρ : Option Nat} {n : Nat} {ops : Array Oper} {Q : Exit → Act → World → Prop} {K : St → Option S} {Z : AV → St → Option S} {r : S}
    (hK : ∀ st' a' w' μ', K st' = some r → Sim A0 w0 st' a'.tmps w' μ' → Dk a'.defers → Q .normal a' w')
    (hZ : ∀ av st' v a' w' μ', Z av st' = some r → RepAV (cx A0 w0 st'.recs st'.lsts w' μ') av v → Sim A0 w0 st' a'.tmps w' μ' → Dk a'.defers → Q (.panic [{ v := v, recovered := false }]) a' w') :
    ∀ (l : List Nat) (st : St) (a : Act) (w : World) (μ : Mu), evOps ε ops l st K Z = some r → Sim A0 w0 st a.tmps w μ → Dk a.defers → wpOpsIn (Fr ρ) n P ops Q l a w
  | [], st, a, w, μ, h, hs, hd => hK st a w μ h hs hd
  | i :: rest, st, a, w, μ, h, hs, hd => by
    simp only [evOps, putN_eq] at h
    simp only [wpOpsIn]
    split at h
    · rename_i hi; rw [hi]; exact evOps_sound hK hZ rest st a w μ h hs hd
    · rename_i o hi
      rw [hi]
      have run : ∀ (st1 : St), Sim A0 w0 st1 a.tmps w μ → evOpZ ε st1 o (fun v st' => evOps ε ops rest (st'.put o.dst v) K Z) Z = some r → o.wpIn (Fr ρ) n P a w (wpOpsIn (Fr ρ) n P ops Q rest) Q := by
        intro st1 hs1 h1
        rcases evOpZ_sound hε hs1 o _ _ r h1 with ⟨av, st', hK', hop⟩ | ⟨av, st', hK', hop⟩
        · refine hop ρ n _ _ fun v w' ⟨μ', hrep, hsim⟩ => ?_
          exact evOps_sound hK hZ rest _ _ w' μ' hK' (Sim.put (a := a) hsim o.dst hrep) (by rw [put_defers]; exact hd)
        · refine hop ρ n _ _ fun v w' ⟨μ', hrep, hsim⟩ => ?_
          exact hZ av st' v a w' μ' hK' hrep hsim hd
      have skip : ∀ (st1 : St), Sim A0 w0 st1 a.tmps w μ → evOps ε ops rest (st1.put o.dst (.tup [])) K Z = some r → (∀ f, o.about P w a.eval = some f → (Fr ρ).fn f) ∧ wpOpsIn (Fr ρ) n P ops Q rest (a.put o.dst undef) w := by
        intro st1 hs1 h1
        refine ⟨fun _ _ => trivial, ?_⟩
        exact evOps_sound hK hZ rest _ _ w μ h1 (Sim.put (a := a) hs1 o.dst (by simp only [RepAV, RepAVs]; exact ⟨#[], rfl, rfl⟩)) (by rw [put_defers]; exact hd)
      split at h
      · rename_i hg
        have hw : Region.wanted o (yielded ops a.tmps) = true := by simp [Region.wanted, hg]
        simp only [hw, if_true]
        split at h
        · rename_i q hq
          obtain ⟨b, hrun, hb, hnd⟩ := nilCmp_run hε hs hq
          have hput : ∀ b' : Bool, b = b' → evOps ε ops rest (st.put o.dst (.d .bool b')) K Z = some r → wpOpsIn (Fr ρ) n P ops Q rest (a.put o.dst (.bool b)) w := fun b' e h => by
            subst e
            exact evOps_sound hK hZ rest _ _ w μ h (Sim.put (a := a) hs o.dst (by simp only [RepAV, Rep])) (by rw [put_defers]; exact hd)
          refine ⟨fun f _ => trivial, ?_⟩
          rw [Oper.semAt_eq _ _ _ hnd, hrun]
          show wpOpsIn (Fr ρ) n P ops Q rest (a.put o.dst (.bool b)) w
          unfold nilEq at h
          split at h
          · split at h
            · rename_i e1 e2
              cases b
              · exact hput false rfl (e2 ▸ h)
              · exact hput true rfl h
            · cases h
          · rename_i hne
            cases b
            · exact hput false rfl h
            · exact absurd (hb rfl) hne
        · exact (run st hs h)
      · rename_i j want hg
        split at h
        · cases h
        · rename_i d hj
          split at h
          · rename_i hb
            obtain ⟨v, hv, hr⟩ := hs.slots.get d _ hb
            simp only [RepAV, RepAVs] at hr
            obtain ⟨us, rfl, _⟩ := hr
            have hy : yielded ops a.tmps j = none := by
              have : a.tmps[d]? = some (.tuple us) := by simpa using hv
              simp [yielded, hj, this]
            have hw : Region.wanted o (yielded ops a.tmps) = false := by simp [Region.wanted, hg, hy]
            simp only [hw, Bool.false_eq_true, if_false]
            exact skip st hs h
          · rename_i b hb
            have hrep := hs.slots.get d _ hb
            obtain ⟨v, hv, hr⟩ := hrep
            simp only [RepAV, Rep, List.cons.injEq, and_true] at hr
            subst hr
            have hy : yielded ops a.tmps j = some b := by
              have : a.tmps[d]? = some (.bool b) := by simpa using hv
              simp [yielded, hj, this]
            have hset : ∀ b', b = b' → Sim A0 w0 { st with slots := st.slots.set d (.d .bool b') } a.tmps w μ := by
              intro b' e; subst e
              refine ⟨?_, hs.mem⟩
              have h1 : st.slots.set d (.d .bool b) = st.slots := by
                apply List.ext_getElem?
                intro k
                by_cases e : k = d
                · subst e; rw [List.getElem?_set_self (List.getElem?_eq_some_iff.1 hb).1, hb]
                · rw [List.getElem?_set_ne (Ne.symm e)]
              rw [h1]; exact hs.slots
            cases b with
            | true =>
              simp only [cond_true] at h
              cases want with
              | true =>
                have hw : Region.wanted o (yielded ops a.tmps) = true := by simp [Region.wanted, hg, hy]
                simp only [hw, if_true] at h ⊢
                exact (run _ (hset _ rfl) h)
              | false =>
                have hw : Region.wanted o (yielded ops a.tmps) = false := by simp [Region.wanted, hg, hy]
                simp only [hw, Bool.false_eq_true, if_false] at h ⊢
                exact skip _ (hset _ rfl) h
            | false =>
              simp only [cond_false] at h
              cases want with
              | true =>
                have hw : Region.wanted o (yielded ops a.tmps) = false := by simp [Region.wanted, hg, hy]
                simp only [hw, Bool.false_eq_true, if_false, if_true] at h ⊢
                exact skip _ (hset _ rfl) h
              | false =>
                have hw : Region.wanted o (yielded ops a.tmps) = true := by simp [Region.wanted, hg, hy]
                simp only [hw, Bool.false_eq_true, if_false, if_true] at h ⊢
                exact (run _ (hset _ rfl) h)
          · cases h

/-- How code is left. -/
def Lands (ex : Ex) (tm : Array Value) (a : Act) (E : Exit) : Prop := match ex with
  | .panic => ∃ v, tm = #[v] ∧ E = .panic [{ v := v, recovered := false }]
  | ex => tm = a.tmps ∧ E = ex.out
theorem evC_sound {ρ : Option Nat} {n : Nat} {Q : Exit → Act → World → Prop} {r : S} : ∀ (c : Code) (K : Ex → St → Option S)
    (_ : ∀ ex st' tm E a' w' μ', K ex st' = some r → Sim A0 w0 st' tm w' μ' → Lands ex tm a' E → Dk a'.defers → Q E a' w')
    (st : St) (a : Act) (w : World) (μ : Mu), evC ε c st K = some r → Sim A0 w0 st a.tmps w μ → Dk a.defers → c.wpIn (Fr ρ) n P Q a w
  | .skip, K, hK, st, a, w, μ, h, hs, hd => wpIn_skip (hK .normal st _ _ a w μ h hs ⟨rfl, rfl⟩ hd)
  | .label _, K, hK, st, a, w, μ, h, hs, hd => wpIn_label (hK .normal st _ _ a w μ h hs ⟨rfl, rfl⟩ hd)
  | .region id ops draw, K, hK, st, a, w, μ, h, hs, hd => by
    simp only [evC] at h
    cases draw with
    | true => exact evD_sound hε hε.uni hε.mixed (fun st' a' w' μ' h1 h2 h3 => hK .normal st' _ _ a' w' μ' h1 h2 ⟨rfl, rfl⟩ h3) st a w μ h hs hd
    | false => exact wpIn_region (evOps_sound hε (fun st' a' w' μ' h1 h2 h3 => hK .normal st' _ _ a' w' μ' h1 h2 ⟨rfl, rfl⟩ h3)
        (fun av st' v a' w' μ' h1 h2 h3 h4 => hK .panic { st' with slots := [av] } #[v] _ a' w' μ' h1 ⟨RepAVs.one h2, h3.mem⟩ ⟨v, rfl, rfl⟩ h4) _ st a w μ h hs hd)
  | .seq x y, K, hK, st, a, w, μ, h, hs, hd => by
    simp only [evC] at h
    refine wpIn_seq (evC_sound x _ (fun ex st' tm E a' w' μ' h1 h2 hl h3 => ?_) st a w μ h hs hd)
    cases ex with
    | normal => obtain ⟨rfl, rfl⟩ := hl; exact evC_sound y K hK st' a' w' μ' h1 h2 h3
    | exit id => obtain ⟨rfl, rfl⟩ := hl; exact hK (.exit id) st' _ _ a' w' μ' h1 h2 ⟨rfl, rfl⟩ h3
    | ret => obtain ⟨rfl, rfl⟩ := hl; exact hK .ret st' _ _ a' w' μ' h1 h2 ⟨rfl, rfl⟩ h3
    | panic => obtain ⟨v, rfl, rfl⟩ := hl; exact hK .panic st' _ _ a' w' μ' h1 h2 ⟨v, rfl, rfl⟩ h3
  | .cond c x y, K, hK, st, a, w, μ, h, hs, hd => by
    simp only [evC] at h
    split at h
    · rename_i b hc
      have hcr := ev_rep hs.slots c
      rw [hc] at hcr
      simp only [RepAV, Rep, List.cons.injEq, and_true] at hcr
      cases b with
      | true => exact wpIn_cond_true hcr (evC_sound x K hK st a w μ h hs hd)
      | false => exact wpIn_cond_false hcr (evC_sound y K hK st a w μ h hs hd)
    · cases h
  | .block id c, K, hK, st, a, w, μ, h, hs, hd => by
    simp only [evC] at h
    refine wpIn_block (evC_sound c _ (fun ex st' tm E a' w' μ' h1 h2 hl h3 => ?_) st a w μ h hs hd)
    cases ex with
    | normal => obtain ⟨rfl, rfl⟩ := hl; exact hK .normal st' _ _ a' w' μ' h1 h2 ⟨rfl, rfl⟩ h3
    | exit j =>
      obtain ⟨rfl, rfl⟩ := hl
      simp only at h1
      simp only [Ex.out, Exit.inBlock]
      split at h1
      · rename_i e; rw [if_pos e]; exact hK .normal st' _ _ a' w' μ' h1 h2 ⟨rfl, rfl⟩ h3
      · rename_i e; rw [if_neg e]; exact hK (.exit j) st' _ _ a' w' μ' h1 h2 ⟨rfl, rfl⟩ h3
    | ret => obtain ⟨rfl, rfl⟩ := hl; exact hK .ret st' _ _ a' w' μ' h1 h2 ⟨rfl, rfl⟩ h3
    | panic => obtain ⟨v, rfl, rfl⟩ := hl; exact hK .panic st' _ _ a' w' μ' h1 h2 ⟨v, rfl, rfl⟩ h3
  | .exit id, K, hK, st, a, w, μ, h, hs, hd => wpIn_exit (hK (.exit id) st _ _ a w μ h hs ⟨rfl, rfl⟩ hd)
  | .ret, K, hK, st, a, w, μ, h, hs, hd => wpIn_ret (hK .ret st _ _ a w μ h hs ⟨rfl, rfl⟩ hd)
  | .loop _, _, _, _, _, _, _, h, _, _ => by simp [evC] at h
  | .rangeFunc .., _, _, _, _, _, _, h, _, _ => by simp [evC] at h
  | .scope _, _, _, _, _, _, _, h, _, _ => by simp [evC] at h
  | .goto _, _, _, _, _, _, _, h, _, _ => by simp [evC] at h
  | .refuse _, _, _, _, _, _, _, h, _, _ => by simp [evC] at h
end

end Go.Pe
