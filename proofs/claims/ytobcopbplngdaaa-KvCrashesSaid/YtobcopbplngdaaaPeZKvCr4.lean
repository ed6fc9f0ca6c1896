/- Texts of the proof, what is used of them: Code, Ghost, Fun, Ti, Range, Iter, Adopt, ShelfIter, GiTryk, SortedTry, LibS, ShelfTryk, BldTryk, LibTryk, RepsTryk. -/
import Derived.LoopNIn
import Derived.RangeFuncLeaves
import Derived.RangeFuncOwn
import Derived.RangeFuncIn
import Derived.RangeFuncRecord
import Derived.RangeFuncSeq
import Derived.Shelf.SlIter.Nil
import Derived.Shelf.SlIter.Sorted
import Derived.Shelf.SortM.Plain
import Derived.Shelf.SortM.SortNone
import Derived.Test.YtobcopbplngdaaaProg
import Derived.Lib.Repeat
import Derived.Lib.Join
import Derived.Shelf.Strings.Builder1
import Derived.Shelf.Strings.Builder2
import Derived.Shelf.Strings.OnBuilder
import Derived.Shelf.Small.Bits
import Derived.Shelf.Strings.BuilderF
import Derived.Shelf.Strings.BuilderK
import Derived.Shelf.Strconv.Itoa0
import Derived.Shelf.Strings.Prefix
import Derived.Shelf.Bits.Mul64
import Derived.Shelf.Strings.Repeat
import Derived.WalkKit
import Derived.LoopTactic
import Derived.OwnWalk
import Derived.Deep.RegionLaw
import Derived.Below
import Derived.IntWalk
import Derived.Lib.Hide
import Derived.Lib.UnsafeStr
import Derived.Laws.CopyOwn
import Derived.Laws.MakeOwn
import Derived.Test.YtobcopbplngdaaaPeZKvCr3
section
namespace Go.Pe
open Go.RowKit
set_option linter.unusedSectionVars false
variable [GI]
set_option linter.unusedSimpArgs false
set_option linter.unusedVariables false

def Ex.out : Ex → Exit
  | .normal => .normal
  | .exit id => .exit id
  | .ret => .ret
  | .panic => .panic []

section
variable {P : Program} {A0 : Dom} {Dk : List Deferred → Prop} {w0 : World} {S : Type}
variable {ε : Env} (hε : EnvOk P ε)
include hε

theorem nilCmp_run {w : World} {st : St} {a : Act} {μ : Mu} (hs : Sim A0 w0 st a.tmps w μ) {o : Oper} {q : (e : Ty) × List e.den} (h : nilCmp ε st o = some q) :
    ∃ b : Bool, (execOp a.eval o).run P w = .ok (.value (.bool b)) w ∧ (b = true → q.2 = []) ∧ ∀ c, o.op ≠ .defer c := by
  unfold nilCmp at h
  split at h
  · rename_i t x ty hop
    split at h
    · rename_i e xs hx
      split at h
      · rename_i hel
        cases h
        obtain ⟨et, het⟩ := Option.isSome_iff_exists.1 hel
        have hu := elemT_ok hε het
        have h1 := ev_rep hs.slots x
        rw [hx] at h1
        simp only [RepAV, Rep] at h1
        obtain ⟨v, hv1, hsl⟩ := h1
        simp only [List.cons.injEq, and_true] at hv1; subst hv1
        obtain ⟨a', cap, hv, _, hor⟩ := hsl
        have hg := guard_ok (P := P) (w := w) .eql t x (.const (.slice none 0 0)) (a.eval x) (.slice none 0 0) ⟨by rw [hv]; simp, by rw [hv]; simp⟩
        have heq : ∀ b, (Op.equal t (.slice a' xs.length cap) (.slice none 0 0)).run P w = .ok b w → (execOp a.eval o).run P w = .ok (.value (.bool b)) w := fun b hb => by
          rw [hv] at hg
          have hc : a.eval (.const (.slice none 0 0)) = .slice none 0 0 := rfl
          simp [execOp, hop, hv, hc, hg, binOp, hb]
        refine ⟨a'.isNone, heq _ ?_, fun hb => ?_, by rw [hop]; intro c h; cases h⟩
        · unfold Op.equal
          rw [show Op.maxDepth = (Op.maxDepth - 1) + 1 from by decide]
          unfold Op.equalIn
          simp only [Sem.run_bind, run_underlying hu, Result.andThen_ok]
          cases a' <;> rfl
        · rcases hor with h | ⟨ad, us, h1, _⟩
          · exact h
          · rw [h1] at hb; cases hb
      · cases h
    · cases h
  · cases h
theorem evOps_sound {ρ : Option Nat} {n : Nat} {ops : Array Oper} {Q : Exit → Act → World → Prop} {K : St → Option S} {Z : AV → St → Option S} {r : S}
    (hK : ∀ st' a' w' μ', K st' = some r → Sim A0 w0 st' a'.tmps w' μ' → Dk a'.defers → Q .normal a' w')
    (hZ : ∀ av st' v a' w' μ', Z av st' = some r → RepAV (cx A0 w0 st'.recs st'.lsts w' μ') av v → Sim A0 w0 st' a'.tmps w' μ' → Dk a'.defers → Q (.panic [{ v := v, recovered := false }]) a' w') :
    ∀ (l : List Nat) (st : St) (a : Act) (w : World) (μ : Mu), evOps ε ops l st K Z = some r → Sim A0 w0 st a.tmps w μ → Dk a.defers → wpOpsIn (Fr ρ) n P ops Q l a w
  | [], st, a, w, μ, h, hs, hd => hK st a w μ h hs hd
  | i :: rest, st, a, w, μ, h, hs, hd => by
    simp only [evOps, putN_eq] at h
    simp only [wpOpsIn]
    split at h
    · rename_i hi; rw [hi]; exact evOps_sound hK hZ rest st a w μ h hs hd
    · rename_i o hi
      rw [hi]
      have run : ∀ (st1 : St), Sim A0 w0 st1 a.tmps w μ → evOpZ ε st1 o (fun v st' => evOps ε ops rest (st'.put o.dst v) K Z) Z = some r → o.wpIn (Fr ρ) n P a w (wpOpsIn (Fr ρ) n P ops Q rest) Q := by
        intro st1 hs1 h1
        rcases evOpZ_sound hε hs1 o _ _ r h1 with ⟨av, st', hK', hop⟩ | ⟨av, st', hK', hop⟩
        · refine hop ρ n _ _ fun v w' ⟨μ', hrep, hsim⟩ => ?_
          exact evOps_sound hK hZ rest _ _ w' μ' hK' (Sim.put (a := a) hsim o.dst hrep) (by rw [put_defers]; exact hd)
        · refine hop ρ n _ _ fun v w' ⟨μ', hrep, hsim⟩ => ?_
          exact hZ av st' v a w' μ' hK' hrep hsim hd
      have skip : ∀ (st1 : St), Sim A0 w0 st1 a.tmps w μ → evOps ε ops rest (st1.put o.dst (.tup [])) K Z = some r → (∀ f, o.about P w a.eval = some f → (Fr ρ).fn f) ∧ wpOpsIn (Fr ρ) n P ops Q rest (a.put o.dst undef) w := by
        intro st1 hs1 h1
        refine ⟨fun _ _ => trivial, ?_⟩
        exact evOps_sound hK hZ rest _ _ w μ h1 (Sim.put (a := a) hs1 o.dst (by simp only [RepAV, RepAVs]; exact ⟨#[], rfl, rfl⟩)) (by rw [put_defers]; exact hd)
      split at h
      · rename_i hg
        have hw : Region.wanted o (yielded ops a.tmps) = true := by simp [Region.wanted, hg]
        simp only [hw, if_true]
        split at h
        · rename_i q hq
          obtain ⟨b, hrun, hb, hnd⟩ := nilCmp_run hε hs hq
          have hput : ∀ b' : Bool, b = b' → evOps ε ops rest (st.put o.dst (.d .bool b')) K Z = some r → wpOpsIn (Fr ρ) n P ops Q rest (a.put o.dst (.bool b)) w := fun b' e h => by
            subst e
            exact evOps_sound hK hZ rest _ _ w μ h (Sim.put (a := a) hs o.dst (by simp only [RepAV, Rep])) (by rw [put_defers]; exact hd)
          refine ⟨fun f _ => trivial, ?_⟩
          rw [Oper.semAt_eq _ _ _ hnd, hrun]
          show wpOpsIn (Fr ρ) n P ops Q rest (a.put o.dst (.bool b)) w
          unfold nilEq at h
          split at h
          · split at h
            · rename_i e1 e2
              cases b
              · exact hput false rfl (e2 ▸ h)
              · exact hput true rfl h
            · cases h
          · rename_i hne
            cases b
            · exact hput false rfl h
            · exact absurd (hb rfl) hne
        · exact (run st hs h)
      · rename_i j want hg
        split at h
        · cases h
        · rename_i d hj
          split at h
          · rename_i hb
            obtain ⟨v, hv, hr⟩ := hs.slots.get d _ hb
            simp only [RepAV, RepAVs] at hr
            obtain ⟨us, rfl, _⟩ := hr
            have hy : yielded ops a.tmps j = none := by
              have : a.tmps[d]? = some (.tuple us) := by simpa using hv
              simp [yielded, hj, this]
            have hw : Region.wanted o (yielded ops a.tmps) = false := by simp [Region.wanted, hg, hy]
            simp only [hw, Bool.false_eq_true, if_false]
            exact skip st hs h
          · rename_i b hb
            have hrep := hs.slots.get d _ hb
            obtain ⟨v, hv, hr⟩ := hrep
            simp only [RepAV, Rep, List.cons.injEq, and_true] at hr
            subst hr
            have hy : yielded ops a.tmps j = some b := by
              have : a.tmps[d]? = some (.bool b) := by simpa using hv
              simp [yielded, hj, this]
            have hset : ∀ b', b = b' → Sim A0 w0 { st with slots := st.slots.set d (.d .bool b') } a.tmps w μ := by
              intro b' e; subst e
              refine ⟨?_, hs.mem⟩
              have h1 : st.slots.set d (.d .bool b) = st.slots := by
                apply List.ext_getElem?
                intro k
                by_cases e : k = d
                · subst e; rw [List.getElem?_set_self (List.getElem?_eq_some_iff.1 hb).1, hb]
                · rw [List.getElem?_set_ne (Ne.symm e)]
              rw [h1]; exact hs.slots
            cases b with
            | true =>
              simp only [cond_true] at h
              cases want with
              | true =>
                have hw : Region.wanted o (yielded ops a.tmps) = true := by simp [Region.wanted, hg, hy]
                simp only [hw, if_true] at h ⊢
                exact (run _ (hset _ rfl) h)
              | false =>
                have hw : Region.wanted o (yielded ops a.tmps) = false := by simp [Region.wanted, hg, hy]
                simp only [hw, Bool.false_eq_true, if_false] at h ⊢
                exact skip _ (hset _ rfl) h
            | false =>
              simp only [cond_false] at h
              cases want with
              | true =>
                have hw : Region.wanted o (yielded ops a.tmps) = false := by simp [Region.wanted, hg, hy]
                simp only [hw, Bool.false_eq_true, if_false, if_true] at h ⊢
                exact skip _ (hset _ rfl) h
              | false =>
                have hw : Region.wanted o (yielded ops a.tmps) = true := by simp [Region.wanted, hg, hy]
                simp only [hw, Bool.false_eq_true, if_false, if_true] at h ⊢
                exact (run _ (hset _ rfl) h)
          · cases h

def Lands (ex : Ex) (tm : Array Value) (a : Act) (E : Exit) : Prop := match ex with
  | .panic => ∃ v, tm = #[v] ∧ E = .panic [{ v := v, recovered := false }]
  | ex => tm = a.tmps ∧ E = ex.out
theorem evC_sound {ρ : Option Nat} {n : Nat} {Q : Exit → Act → World → Prop} {r : S} : ∀ (c : Code) (K : Ex → St → Option S)
    (_ : ∀ ex st' tm E a' w' μ', K ex st' = some r → Sim A0 w0 st' tm w' μ' → Lands ex tm a' E → Dk a'.defers → Q E a' w')
    (st : St) (a : Act) (w : World) (μ : Mu), evC ε c st K = some r → Sim A0 w0 st a.tmps w μ → Dk a.defers → c.wpIn (Fr ρ) n P Q a w
  | .skip, K, hK, st, a, w, μ, h, hs, hd => wpIn_skip (hK .normal st _ _ a w μ h hs ⟨rfl, rfl⟩ hd)
  | .label _, K, hK, st, a, w, μ, h, hs, hd => wpIn_label (hK .normal st _ _ a w μ h hs ⟨rfl, rfl⟩ hd)
  | .region id ops draw, K, hK, st, a, w, μ, h, hs, hd => by
    simp only [evC] at h
    cases draw with
    | true => exact evD_sound hε hε.uni hε.mixed (fun st' a' w' μ' h1 h2 h3 => hK .normal st' _ _ a' w' μ' h1 h2 ⟨rfl, rfl⟩ h3) st a w μ h hs hd
    | false => exact wpIn_region (evOps_sound hε (fun st' a' w' μ' h1 h2 h3 => hK .normal st' _ _ a' w' μ' h1 h2 ⟨rfl, rfl⟩ h3)
        (fun av st' v a' w' μ' h1 h2 h3 h4 => hK .panic { st' with slots := [av] } #[v] _ a' w' μ' h1 ⟨RepAVs.one h2, h3.mem⟩ ⟨v, rfl, rfl⟩ h4) _ st a w μ h hs hd)
  | .seq x y, K, hK, st, a, w, μ, h, hs, hd => by
    simp only [evC] at h
    refine wpIn_seq (evC_sound x _ (fun ex st' tm E a' w' μ' h1 h2 hl h3 => ?_) st a w μ h hs hd)
    cases ex with
    | normal => obtain ⟨rfl, rfl⟩ := hl; exact evC_sound y K hK st' a' w' μ' h1 h2 h3
    | exit id => obtain ⟨rfl, rfl⟩ := hl; exact hK (.exit id) st' _ _ a' w' μ' h1 h2 ⟨rfl, rfl⟩ h3
    | ret => obtain ⟨rfl, rfl⟩ := hl; exact hK .ret st' _ _ a' w' μ' h1 h2 ⟨rfl, rfl⟩ h3
    | panic => obtain ⟨v, rfl, rfl⟩ := hl; exact hK .panic st' _ _ a' w' μ' h1 h2 ⟨v, rfl, rfl⟩ h3
  | .cond c x y, K, hK, st, a, w, μ, h, hs, hd => by
    simp only [evC] at h
    split at h
    · rename_i b hc
      have hcr := ev_rep hs.slots c
      rw [hc] at hcr
      simp only [RepAV, Rep, List.cons.injEq, and_true] at hcr
      cases b with
      | true => exact wpIn_cond_true hcr (evC_sound x K hK st a w μ h hs hd)
      | false => exact wpIn_cond_false hcr (evC_sound y K hK st a w μ h hs hd)
    · cases h
  | .block id c, K, hK, st, a, w, μ, h, hs, hd => by
    simp only [evC] at h
    refine wpIn_block (evC_sound c _ (fun ex st' tm E a' w' μ' h1 h2 hl h3 => ?_) st a w μ h hs hd)
    cases ex with
    | normal => obtain ⟨rfl, rfl⟩ := hl; exact hK .normal st' _ _ a' w' μ' h1 h2 ⟨rfl, rfl⟩ h3
    | exit j =>
      obtain ⟨rfl, rfl⟩ := hl
      simp only at h1
      simp only [Ex.out, Exit.inBlock]
      split at h1
      · rename_i e; rw [if_pos e]; exact hK .normal st' _ _ a' w' μ' h1 h2 ⟨rfl, rfl⟩ h3
      · rename_i e; rw [if_neg e]; exact hK (.exit j) st' _ _ a' w' μ' h1 h2 ⟨rfl, rfl⟩ h3
    | ret => obtain ⟨rfl, rfl⟩ := hl; exact hK .ret st' _ _ a' w' μ' h1 h2 ⟨rfl, rfl⟩ h3
    | panic => obtain ⟨v, rfl, rfl⟩ := hl; exact hK .panic st' _ _ a' w' μ' h1 h2 ⟨v, rfl, rfl⟩ h3
  | .exit id, K, hK, st, a, w, μ, h, hs, hd => wpIn_exit (hK (.exit id) st _ _ a w μ h hs ⟨rfl, rfl⟩ hd)
  | .ret, K, hK, st, a, w, μ, h, hs, hd => wpIn_ret (hK .ret st _ _ a w μ h hs ⟨rfl, rfl⟩ hd)
  | .loop _, _, _, _, _, _, _, h, _, _ => by simp [evC] at h
  | .rangeFunc .., _, _, _, _, _, _, h, _, _ => by simp [evC] at h
  | .scope _, _, _, _, _, _, _, h, _, _ => by simp [evC] at h
  | .goto _, _, _, _, _, _, _, h, _, _ => by simp [evC] at h
  | .refuse _, _, _, _, _, _, _, h, _, _ => by simp [evC] at h
end

end Go.Pe
end
section
namespace Go.Pe
open Go.RowKit
set_option linter.unusedSectionVars false
variable [GI]
set_option linter.unusedSimpArgs false
set_option linter.unusedVariables false

inductive GS | focus (q j : Nat) | unfocus (q j : Nat) | drop (q j : Nat)
structure Cx.DeepN (N : Nat) (c c' : Cx) : Prop where
  A : ∀ b, c.A b → c'.A b
  w : ∀ b, c.A b → c'.w.heap[b]? = c.w.heap[b]?
  n : ∀ k, k ≠ 0 → k ≤ N → c'.μ.at_ (.n k) = c.μ.at_ (.n k)
  b : ∀ k b, k ≠ 0 → k ≤ N → c.μ.at_ (.n k) = some b → c'.w.heap[b]? = c.w.heap[b]?
section
variable {A0 : Dom} {w0 w : World} {recs : List (Option (List AV))} {lsts : List (Option LObj)} {μ : Mu} {st : St} {tmps : Array Value}

structure Renamed (μ μ' : Mu) (σ : Loc → Option Loc) : Prop where
  at_ : ∀ x, μ'.at_ x = (σ x).bind μ.at_
  inj : ∀ x y z, σ x = some z → σ y = some z → x = y
theorem Renamed.src {μ' : Mu} {σ : Loc → Option Loc} (h : Renamed μ μ' σ) {x : Loc} {b : Nat} (hx : μ'.at_ x = some b) : ∃ y, σ x = some y ∧ μ.at_ y = some b := by
  rw [h.at_, Option.bind_eq_some_iff] at hx; exact hx
theorem Renamed.imm {μ' : Mu} {σ : Loc → Option Loc} (h : Renamed μ μ' σ) {b : Nat} (hb : Imm A0 w0 μ w b) : Imm A0 w0 μ' w b :=
  ⟨hb.1, hb.2.1, fun x hx => by obtain ⟨y, _, hy⟩ := h.src hx; exact hb.2.2 y hy⟩
theorem NestAt.cap {c : Cx} {k : Nat} {e : Ty} {xs : List e.den} {v : Value} (h : NestAt c k e xs v) : ∃ cp, (c.μ.at_ (.n k) = none ∧ xs = [] ∧ v = .slice none 0 0) ∨
    ∃ b vs, c.μ.at_ (.n k) = some b ∧ v = .slice (some ⟨b, 0, none⟩) xs.length cp ∧ Own c.w b vs ∧ vs.size = cp * e.size ∧ xs.length ≤ cp ∧ ∃ us rest, vs.toList = us ++ rest ∧ RepAll (Rep c.A c.w e) xs us := by
  rcases h with h | ⟨b, vs, cap, h⟩
  · exact ⟨0, .inl h⟩
  · exact ⟨cap, .inr ⟨b, vs, h⟩⟩
structure Cx.LeK (ts : List Nat) (c c' : Cx) : Prop where
  A : ∀ b, c.A b → c'.A b
  w : ∀ b, c.A b → c'.w.heap[b]? = c.w.heap[b]?
  nr : c.recs.length ≤ c'.recs.length
  nl : c.lsts.length ≤ c'.lsts.length
  r : ∀ r, r < c.recs.length → (getL c'.recs r).isSome = true → (getL c.recs r).isSome = true ∧ c'.μ.at_ (.r r) = c.μ.at_ (.r r)
  l : ∀ t o', hasN t ts = false → t < c.lsts.length → getL c'.lsts t = some o' → ∃ o, getL c.lsts t = some o ∧ o'.e = o.e ∧ o'.len = o.len ∧ c'.μ.at_ (.l t) = c.μ.at_ (.l t) ∧ c'.μ.capOf o' t = c.μ.capOf o t
end
end Go.Pe
end
section
namespace Go.Pe
open Go.RowKit
set_option linter.unusedSectionVars false
variable [GI]
set_option linter.unusedSimpArgs false
set_option linter.unusedVariables false

@[reducible] def OutDen : List (Ex × Shape) → Type
  | [] => Empty
  | [(_, sh)] => sh.den
  | (_, sh) :: q :: r => sh.den ⊕ OutDen (q :: r)
def packOut : (outs : List (Ex × Shape)) → Ex → St → Option (OutDen outs)
  | [], _, _ => none
  | [(e, sh)], ex, st => if ex = e then abs sh st else none
  | (e, sh) :: q :: r, ex, st => if ex = e then (abs sh st).map .inl else (packOut (q :: r) ex st).map .inr
def unOut : (outs : List (Ex × Shape)) → OutDen outs → Ex × St
  | [(e, sh)], z => (e, fill sh z)
  | (e, sh) :: _ :: _, .inl z => (e, fill sh z)
  | _ :: q :: r, .inr o => unOut (q :: r) o
def unOutK {S : Type} : (outs : List (Ex × Shape)) → OutDen outs → (Ex → St → Option S) → Option S
  | [], _, _ => none
  | [(e, sh)], z, K => K e (fill sh z)
  | (e, sh) :: q :: r, o, K => match o with | .inl z => K e (fill sh z) | .inr o => unOutK (q :: r) o K
theorem unOutK_eq {S : Type} : ∀ (outs : List (Ex × Shape)) (o : OutDen outs) (K : Ex → St → Option S), unOutK outs o K = K (unOut outs o).1 (unOut outs o).2
  | [], o, _ => nomatch o
  | [(e, sh)], z, K => rfl
  | (e, sh) :: q :: r, .inl z, K => rfl
  | (e, sh) :: q :: r, .inr o, K => unOutK_eq (q :: r) o K
def npOf (I : Shape) : Nat := I.recs.length % 64 + 64 * I.lsts.length
def fits (np : Nat) (sh : Shape) : Bool := Nat.ble (np % 64) sh.recs.length && Nat.ble (np / 64) sh.lsts.length
def Under (A0 : Dom) (np : Nat) : Prop := A0.np ≤ np % 64 ∧ A0.nl ≤ np / 64
theorem fits_abs {A0 : Dom} {np : Nat} {sh : Shape} (hu : Under A0 np) (h : fits np sh = true) : A0.np ≤ sh.recs.length ∧ A0.nl ≤ sh.lsts.length := by
  simp only [fits, Bool.and_eq_true] at h
  exact ⟨Nat.le_trans hu.1 (Nat.le_of_ble_eq_true h.1), Nat.le_trans hu.2 (Nat.le_of_ble_eq_true h.2)⟩
def outsOk (np : Nat) : List (Ex × Shape) → Bool
  | [] => true
  | (_, sh) :: r => fits np sh && outsOk np r
theorem packOut_sound {A0 w0 w st} {tmps : Array Value} {μ} (hs : Sim A0 w0 st tmps w μ) {ex : Ex} {np : Nat} (hu : Under A0 np) : ∀ {outs : List (Ex × Shape)} {o : OutDen outs}, outsOk np outs = true → packOut outs ex st = some o → (unOut outs o).1 = ex ∧ ∃ μ', Sim A0 w0 (unOut outs o).2 tmps w μ'
  | [], _, _, h => by simp [packOut] at h
  | [(e, sh)], o, hn, h => by
    simp only [outsOk, Bool.and_eq_true] at hn
    simp only [packOut] at h
    split at h
    · rename_i he
      exact ⟨he.symm, _, abs_sound hs (fits_abs hu hn.1).1 (fits_abs hu hn.1).2 h⟩
    · cases h
  | (e, sh) :: q :: r, o, hn, h => by
    rw [outsOk, Bool.and_eq_true] at hn
    simp only [packOut] at h
    split at h
    · rename_i he
      simp only [Option.map_eq_some_iff] at h
      obtain ⟨z, hz, rfl⟩ := h
      exact ⟨he.symm, _, abs_sound hs (fits_abs hu hn.1).1 (fits_abs hu hn.1).2 hz⟩
    · simp only [Option.map_eq_some_iff] at h
      obtain ⟨z, hz, rfl⟩ := h
      exact packOut_sound (outs := q :: r) (o := z) hs hu hn.2 hz

structure Dom.Ext (A0 A1 : Dom) : Prop where
  A : A1.A = A0.A
  X : ∀ b, A0.X b → A1.X b
  pin : A1.pin = A0.pin
  np : A1.np = A0.np
  keep : A1.keep = A0.keep
  pinl : A1.pinl = A0.pinl
  nl : A1.nl = A0.nl
  F : ∀ b, A0.F b → A1.F b ∧ A1.wF.heap[b]? = A0.wF.heap[b]?
theorem Dom.Ext.refl (A0 : Dom) : A0.Ext A0 := ⟨rfl, fun _ h => h, rfl, rfl, rfl, rfl, rfl, fun _ h => ⟨h, rfl⟩⟩
theorem Dom.Ext.trans {A0 A1 A2 : Dom} (h : A0.Ext A1) (k : A1.Ext A2) : A0.Ext A2 :=
  ⟨k.A.trans h.A, fun b hb => k.X b (h.X b hb), k.pin.trans h.pin, k.np.trans h.np, k.keep.trans h.keep, k.pinl.trans h.pinl, k.nl.trans h.nl, fun b hb => by obtain ⟨h1, h2⟩ := h.F b hb; obtain ⟨h3, h4⟩ := k.F b h1; exact ⟨h3, h4.trans h2⟩⟩
theorem Dom.Ext.imm {A0 A1 : Dom} (h : A0.Ext A1) {w0 w : World} {μ : Mu} {b : Nat} (hb : Imm A1 w0 μ w b) : Imm A0 w0 μ w b := by
  have := hb.1.1
  rw [h.A] at this
  exact ⟨⟨this, fun hx => hb.1.2 (h.X b hx)⟩, hb.2⟩
theorem Dom.Ext.le {A0 A1 : Dom} (h : A0.Ext A1) (w0 : World) (recs : List (Option (List AV))) (lsts : List (Option LObj)) (w : World) (μ : Mu) : (cx A1 w0 recs lsts w μ).Le (cx A0 w0 recs lsts w μ) :=
  ⟨fun _ hb => h.imm hb, fun _ _ => rfl, Nat.le_refl _, Nat.le_refl _, fun _ _ hs => ⟨hs, rfl⟩, fun _ o _ ho => ⟨o, ho, rfl, rfl, rfl, rfl⟩, fun x v hx => by simp only [cx] at hx ⊢; rw [← h.keep]; exact hx⟩
theorem LstAt.imp {c c' : Cx} {t : Nat} {o : LObj} (hle : c.Le c') (hw : c'.w = c.w) (hμ : c'.μ = c.μ) (h : LstAt c t o) : LstAt c' t o := by
  rcases h with ⟨h1, h2⟩ | ⟨b, vs, hb, ho, hsz, hc, us, rest, e, hr⟩
  · exact .inl ⟨by rw [hμ]; exact h1, h2⟩
  · exact .inr ⟨b, vs, by rw [hμ]; exact hb, by rw [hw]; exact ho, by rw [hμ]; exact hsz, by rw [hμ]; exact hc, us, rest, e, hr.imp fun x u hx => hx.mono hle.A hle.w⟩
theorem Dom.Ext.sim {A0 A1 : Dom} (h : A0.Ext A1) {w0 w : World} {st : St} {tmps : Array Value} {μ : Mu} (hs : Sim A1 w0 st tmps w μ) : Sim A0 w0 st tmps w μ := by
  have hle := h.le w0 st.recs st.lsts w μ
  have hm := hs.mem
  refine ⟨hs.slots.mono hle, ?_, ?_, hm.live, hm.inj, hm.below, ?_, fun b hb => hm.xo b (h.X b hb), ?_, ?_, hm.gi, hm.bty, fun r c hr => (hm.htop r c hr).imp (c := cx A1 w0 st.recs st.lsts w μ) rfl rfl (fun _ _ => rfl) fun us hu => hu.mono hle, fun d hd => (hm.deep d hd).mono (c := cx A1 w0 st.recs st.lsts w μ) ⟨hle.A, hle.w, fun _ => rfl, fun _ _ _ => rfl, Nat.le_refl _, fun _ _ h => h⟩, ⟨by rw [← h.nl]; exact hm.pinl.1, by rw [← h.nl, ← h.pinl]; exact hm.pinl.2⟩⟩
  · intro r cells hr hk
    obtain ⟨b, vs, h1, h2, h3⟩ := hm.hrec r cells hr hk
    exact ⟨b, vs, h1, h2, h3.mono hle⟩
  · intro t o ht; exact (hm.hlst t o ht).imp hle rfl rfl
  · intro b hb
    obtain ⟨h1, h2⟩ := h.F b hb
    obtain ⟨h3, h4, h5⟩ := hm.fr b h1
    exact ⟨h3, h4.trans h2, h5⟩
  · rw [← h.np]; exact hm.np
  · rw [← h.pin, ← h.np]; exact hm.pins
theorem Under.ext {A0 A1 : Dom} {np : Nat} (h : Under A0 np) (he : A0.Ext A1) : Under A1 np := ⟨by rw [he.np]; exact h.1, by rw [he.nl]; exact h.2⟩
def PieceSound (P : Program) (np : Nat) (tp : Bool) (c : Code) (sh : Shape) (outs : List (Ex × Shape)) (F : sh.den → Option (OutDen outs)) : Prop :=
  fits np sh = true ∧ ∀ y o, F y = some o → ∀ (ρ : Option Nat) (n : Nat) (B A0 : Dom) (w0 : World) (Q : Exit → Act → World → Prop) (a : Act) (w : World) (μ : Mu), (tp = true → ρ = none) → B.Ext A0 → Under A0 np → Sim A0 w0 (fill sh y) a.tmps w μ → Dok B w0 A0 a.defers →
    (∀ A1 tm E a' w' μ', A0.Ext A1 → Sim A1 w0 (unOut outs o).2 tm w' μ' → Lands (unOut outs o).1 tm a' E → Dok B w0 A1 a'.defers → Q E a' w') → c.wpIn (Fr ρ) n P Q a w

inductive Ann (P : Program) (np : Nat) (tp : Bool) : Code → Type 1
  | leaf (c : Code) : Ann P np tp c
  | seq {a b : Code} (x : Ann P np tp a) (y : Ann P np tp b) : Ann P np tp (.seq a b)
  | cond {c : Operand} {a b : Code} (x : Ann P np tp a) (y : Ann P np tp b) : Ann P np tp (.cond c a b)
  | block {id : Nat} {c : Code} (x : Ann P np tp c) : Ann P np tp (.block id c)
  | piece {c : Code} (sh : Shape) (outs : List (Ex × Shape)) (F : sh.den → Option (OutDen outs)) (h : PieceSound P np tp c sh outs F) : Ann P np tp c

noncomputable def evA (ε : Env) {P : Program} {np : Nat} {tp : Bool} {S : Type} : {c : Code} → Ann P np tp c → St → (Ex → St → Option S) → Option S
  | _, .leaf c, st, K => evC ε c st K
  | _, .seq x y, st, K => evA ε x st fun ex st' => match ex with | .normal => evA ε y st' K | e => K e st'
  | _, .cond (c := c) x y, st, K => (match st.ev c with | .d .bool b => cond b (evA ε x st K) (evA ε y st K) | _ => none)
  | _, .block (id := id) x, st, K => evA ε x st fun ex st' => match ex with | .exit j => if j = id then K .normal st' else K (.exit j) st' | e => K e st'
  | _, .piece sh outs F _, st, K => (abs sh st).bind fun y => (F y).bind fun o => unOutK outs o K

section
variable {P : Program} {B : Dom} {w0 : World} {S : Type}
variable {ε : Env} (hε : EnvOk P ε)
include hε

theorem evA_sound {np : Nat} {tp : Bool} {ρ : Option Nat} (hρ : tp = true → ρ = none) {n : Nat} {r : S} : ∀ {c : Code} (x : Ann P np tp c) {A0 : Dom} (_ : B.Ext A0) (_ : Under A0 np) {Q : Exit → Act → World → Prop} (K : Ex → St → Option S)
    (_ : ∀ A1 ex st' tm E a' w' μ', A0.Ext A1 → K ex st' = some r → Sim A1 w0 st' tm w' μ' → Lands ex tm a' E → Dok B w0 A1 a'.defers → Q E a' w')
    (st : St) (a : Act) (w : World) (μ : Mu), evA ε x st K = some r → Sim A0 w0 st a.tmps w μ → Dok B w0 A0 a.defers → c.wpIn (Fr ρ) n P Q a w
  | _, .leaf c, A0, hB, hnp, Q, K, hK, st, a, w, μ, h, hs, hd => evC_sound (Dk := Dok B w0 A0) hε c K (fun ex st' tm E a' w' μ' h1 h2 hl h3 => hK A0 ex st' tm E a' w' μ' (Dom.Ext.refl _) h1 h2 hl h3) st a w μ h hs hd
  | _, .seq x y, A0, hB, hnp, Q, K, hK, st, a, w, μ, h, hs, hd => by
    simp only [evA] at h
    refine wpIn_seq (evA_sound hρ x hB hnp _ (fun A1 ex st' tm E a' w' μ' he h1 h2 hl h3 => ?_) st a w μ h hs hd)
    cases ex with
    | normal => obtain ⟨rfl, rfl⟩ := hl; exact evA_sound hρ y (hB.trans he) (hnp.ext he) K (fun A2 ex st' tm E a' w' μ' he2 => hK A2 ex st' tm E a' w' μ' (he.trans he2)) st' a' w' μ' h1 h2 h3
    | exit id => obtain ⟨rfl, rfl⟩ := hl; exact hK A1 (.exit id) st' _ _ a' w' μ' he h1 h2 ⟨rfl, rfl⟩ h3
    | ret => obtain ⟨rfl, rfl⟩ := hl; exact hK A1 .ret st' _ _ a' w' μ' he h1 h2 ⟨rfl, rfl⟩ h3
    | panic => obtain ⟨v, rfl, rfl⟩ := hl; exact hK A1 .panic st' _ _ a' w' μ' he h1 h2 ⟨v, rfl, rfl⟩ h3
  | _, .cond (c := c) x y, A0, hB, hnp, Q, K, hK, st, a, w, μ, h, hs, hd => by
    simp only [evA] at h
    split at h
    · rename_i b hc
      have hcr := ev_rep hs.slots c
      rw [hc] at hcr
      simp only [RepAV, Rep, List.cons.injEq, and_true] at hcr
      cases b with
      | true => exact wpIn_cond_true hcr (evA_sound hρ x hB hnp K hK st a w μ h hs hd)
      | false => exact wpIn_cond_false hcr (evA_sound hρ y hB hnp K hK st a w μ h hs hd)
    · cases h
  | _, .block (id := id) x, A0, hB, hnp, Q, K, hK, st, a, w, μ, h, hs, hd => by
    simp only [evA] at h
    refine wpIn_block (evA_sound hρ x hB hnp _ (fun A1 ex st' tm E a' w' μ' he h1 h2 hl h3 => ?_) st a w μ h hs hd)
    cases ex with
    | normal => obtain ⟨rfl, rfl⟩ := hl; exact hK A1 .normal st' _ _ a' w' μ' he h1 h2 ⟨rfl, rfl⟩ h3
    | exit j =>
      obtain ⟨rfl, rfl⟩ := hl
      simp only at h1
      simp only [Ex.out, Exit.inBlock]
      split at h1
      · rename_i e; rw [if_pos e]; exact hK A1 .normal st' _ _ a' w' μ' he h1 h2 ⟨rfl, rfl⟩ h3
      · rename_i e; rw [if_neg e]; exact hK A1 (.exit j) st' _ _ a' w' μ' he h1 h2 ⟨rfl, rfl⟩ h3
    | ret => obtain ⟨rfl, rfl⟩ := hl; exact hK A1 .ret st' _ _ a' w' μ' he h1 h2 ⟨rfl, rfl⟩ h3
    | panic => obtain ⟨v, rfl, rfl⟩ := hl; exact hK A1 .panic st' _ _ a' w' μ' he h1 h2 ⟨v, rfl, rfl⟩ h3
  | _, .piece sh outs F hF, A0, hB, hnp, Q, K, hK, st, a, w, μ, h, hs, hd => by
    simp only [evA, Option.bind_eq_some_iff] at h
    obtain ⟨y, hy, o, ho, h⟩ := h
    rw [unOutK_eq] at h
    exact hF.2 y o ho ρ n B A0 w0 Q a w _ hρ hB hnp (abs_sound hs (fits_abs hnp hF.1).1 (fits_abs hnp hF.1).2 hy) hd fun A1 tm E a' w' μ' he h1 hl h2 => hK A1 _ _ tm E a' w' μ' he h h1 hl h2

omit hε in
theorem piece_of (hε : EnvOk P ε) {np : Nat} {tp : Bool} {c : Code} (x : Ann P np tp c) {sh : Shape} {outs : List (Ex × Shape)} {F : sh.den → Option (OutDen outs)} (h1 : fits np sh = true) (h2 : outsOk np outs = true) (h : ∀ y, F y = evA ε x (fill sh y) (packOut outs)) : PieceSound P np tp c sh outs F := by
  refine ⟨h1, ?_⟩
  intro y o ho ρ n B A0 w0 Q a w μ hρ hB hnp hs hd hQ
  rw [h] at ho
  have hok := h2
  refine evA_sound (B := B) hε hρ x hB hnp _ (fun A1 ex st' tm E a' w' μ' he h1 h2 hl h3 => ?_) _ a w μ ho hs hd
  obtain ⟨e, μ2, h4⟩ := packOut_sound h2 (hnp.ext he) hok h1
  exact hQ A1 tm E a' w' μ2 he h4 (by rw [e]; exact hl) h3

omit hε in
def iter {α β : Type} (step : (α → Option β) → α → Option β) : Nat → α → Option β
  | 0 => fun _ => none
  | n + 1 => step (iter step n)
omit hε in
theorem loop_of (hε : EnvOk P ε) {np : Nat} {tp : Bool} {c : Code} (x : Ann P np tp c) {sh : Shape} {outs : List (Ex × Shape)} {step : (sh.den → Option (OutDen outs)) → sh.den → Option (OutDen outs)}
    (h1 : fits np sh = true) (h2 : outsOk np outs = true) (h : ∀ rec y, step rec y = evA ε x (fill sh y) (fun ex st => match ex with | .normal => (abs sh st).bind rec | e => packOut outs e st)) : ∀ n, PieceSound P np tp (.loop c) sh outs (iter step n) := by
  intro m
  refine ⟨h1, ?_⟩
  have hfit := h1
  have hok := h2
  intro y o ho ρ n B A0 w0 Q a w μ hρ hB hnp hs hd hQ
  refine wpIn_loop_rounds m ?_
  induction m generalizing y a w μ A0 with
  | zero => simp [iter] at ho
  | succ m ih =>
    rw [roundsIn_succ]
    simp only [iter] at ho
    rw [h] at ho
    refine evA_sound (B := B) (w0 := w0) hε hρ x hB hnp _ (fun A1 ex st' tm E a' w' μ' he h1 h2 hl h3 => ?_) _ a w μ ho hs hd
    have hnp1 : Under A1 np := hnp.ext he
    have out : ∀ ex, packOut outs ex st' = some o → Lands ex tm a' E → Q E a' w' := fun ex h1 hl => by
      obtain ⟨e, μ2, h4⟩ := packOut_sound h2 hnp1 hok h1
      exact hQ A1 tm E a' w' μ2 he h4 (by rw [e]; exact hl) h3
    cases ex with
    | normal =>
      obtain ⟨rfl, rfl⟩ := hl
      simp only [Option.bind_eq_some_iff] at h1
      obtain ⟨y', hy', h1⟩ := h1
      exact ih y' h1 A1 a' w' _ (hB.trans he) hnp1 (abs_sound h2 (fits_abs hnp1 hfit).1 (fits_abs hnp1 hfit).2 hy') h3 fun A2 tm2 E2 a2 w2 μ2 he2 => hQ A2 tm2 E2 a2 w2 μ2 (he.trans he2)
    | exit id => obtain ⟨rfl, rfl⟩ := hl; exact out (.exit id) h1 ⟨rfl, rfl⟩
    | ret => obtain ⟨rfl, rfl⟩ := hl; exact out .ret h1 ⟨rfl, rfl⟩
    | panic => obtain ⟨v, rfl, rfl⟩ := hl; exact out .panic h1 ⟨v, rfl, rfl⟩
end

inductive KD where
  | one (t : Ty) | agg (ts : List Ty)
@[reducible] def tysDen : List Ty → Type
  | [] => Unit
  | t :: r => t.den × tysDen r
@[reducible] def KD.den : KD → Type
  | .one t => t.den
  | .agg ts => tysDen ts
@[reducible] def argsDen : List KD → Type
  | [] => Unit
  | k :: r => k.den × argsDen r
def encTys : (ts : List Ty) → tysDen ts → List AV
  | [], _ => []
  | t :: r, x => .d t x.1 :: encTys r x.2
def decTys : (ts : List Ty) → List AV → Option (tysDen ts)
  | [], [] => some ()
  | t :: r, v :: vs => (asTy [] t v).bind fun x => (decTys r vs).bind fun y => some (x, y)
  | _, _ => none
def KD.enc : (k : KD) → k.den → AV
  | .one t, x => .d t x
  | .agg ts, x => .agg (encTys ts x)
def KD.dec : (k : KD) → AV → Option k.den
  | .one t, v => asTy [] t v
  | .agg ts, .agg l => decTys ts l
  | .agg _, _ => none
def encArgs : (ks : List KD) → argsDen ks → List AV
  | [], _ => []
  | k :: r, x => k.enc x.1 :: encArgs r x.2
def decArgs : (ks : List KD) → List AV → Option (argsDen ks)
  | [], [] => some ()
  | k :: r, v :: vs => (k.dec v).bind fun x => (decArgs r vs).bind fun y => some (x, y)
  | _, _ => none
def encRes (ks : List KD) (x : argsDen ks) : AV := resVal (encArgs ks x)
def decRes : (ks : List KD) → AV → Option (argsDen ks)
  | [k], v => (k.dec v).bind fun x => some (x, ())
  | ks, .tup l => decArgs ks l
  | _, _ => none

theorem asTy_single {A w} {t : Ty} {v : AV} {x : t.den} {val : Value} (h : asTy [] t v = some x) (hr : RepAV (c0 A w) v val) : RepAV (c0 A w) (.d t x) val := by
  simp only [RepAV]
  exact asTy_rep (c := c0 A w) (A' := A) (fun _ h => h) (fun t o v h => no_lists t o v h) h hr
theorem decTys_rep {A w} : ∀ {ts : List Ty} {l : List AV} {x : tysDen ts} {vs}, decTys ts l = some x → RepAVs (c0 A w) l vs → RepAVs (c0 A w) (encTys ts x) vs
  | [], [], _, _, _, hr => by simpa only [encTys] using hr
  | [], _ :: _, _, _, h, _ => by simp [decTys] at h
  | _ :: _, [], _, _, h, _ => by simp [decTys] at h
  | t :: ts, v :: l, x, vs, h, hr => by
    simp only [decTys, Option.bind_eq_some_iff, Option.some.injEq] at h
    obtain ⟨y, hy, ys, hys, rfl⟩ := h
    obtain ⟨val, rest, rfl, h1, h2⟩ := hr.cons'
    exact RepAVs.cons (asTy_single hy h1) (decTys_rep hys h2)
theorem KD.dec_rep {A w} : ∀ {k : KD} {v : AV} {x : k.den} {val}, k.dec v = some x → RepAV (c0 A w) v val → RepAV (c0 A w) (k.enc x) val
  | .one t, v, x, val, h, hr => asTy_single h hr
  | .agg ts, v, x, val, h, hr => by
    cases v <;> simp only [KD.dec] at h <;> try (cases h; done)
    simp only [KD.enc, RepAV] at hr ⊢
    obtain ⟨us, e, hu⟩ := hr
    exact ⟨us, e, decTys_rep h hu⟩
theorem decArgs_rep {A w} : ∀ {ks : List KD} {l : List AV} {x : argsDen ks} {vs}, decArgs ks l = some x → RepAVs (c0 A w) l vs → RepAVs (c0 A w) (encArgs ks x) vs
  | [], [], _, _, _, hr => by simpa only [encArgs] using hr
  | [], _ :: _, _, _, h, _ => by simp [decArgs] at h
  | _ :: _, [], _, _, h, _ => by simp [decArgs] at h
  | k :: ks, v :: l, x, vs, h, hr => by
    simp only [decArgs, Option.bind_eq_some_iff, Option.some.injEq] at h
    obtain ⟨y, hy, ys, hys, rfl⟩ := h
    obtain ⟨val, rest, rfl, h1, h2⟩ := hr.cons'
    exact RepAVs.cons (KD.dec_rep hy h1) (decArgs_rep hys h2)
theorem encTys_closed : ∀ (ts : List Ty) (x : tysDen ts), closedL (encTys ts x) = true
  | [], _ => rfl
  | t :: ts, x => by simp [encTys, closedL, AV.closed, encTys_closed ts x.2]
theorem KD.enc_closed : ∀ (k : KD) (x : k.den), (k.enc x).closed = true
  | .one _, _ => rfl
  | .agg ts, x => by simp [KD.enc, AV.closed, encTys_closed]
theorem encArgs_closed : ∀ (ks : List KD) (x : argsDen ks), closedL (encArgs ks x) = true
  | [], _ => rfl
  | k :: ks, x => by simp [encArgs, closedL, KD.enc_closed, encArgs_closed ks x.2]
theorem encRes_closed (ks : List KD) (x : argsDen ks) : (encRes ks x).closed = true := by
  unfold encRes
  have := encArgs_closed ks x
  generalize encArgs ks x = l at this
  unfold resVal
  split
  · simpa [closedL] using this
  · simpa [AV.closed] using this
theorem decRes_rep {A w} {ks : List KD} {v : AV} {x : argsDen ks} {val} (h : decRes ks v = some x) (hr : RepAV (c0 A w) v val) : RepAV (c0 A w) (encRes ks x) val := by
  have key : ∀ {ks : List KD} {l : List AV} {x : argsDen ks}, ks.length ≠ 1 → decArgs ks l = some x → RepAV (c0 A w) (.tup l) val → RepAV (c0 A w) (encRes ks x) val := by
    intro ks l x hl h hr
    have hlen : (encArgs ks x).length = ks.length := by
      clear h hl hr
      induction ks with
      | nil => rfl
      | cons k ks ih => simp [encArgs, ih]
    simp only [RepAV] at hr
    obtain ⟨us, e, hu⟩ := hr
    have := decArgs_rep h hu
    unfold encRes resVal
    split
    · rename_i he; rw [he] at hlen; simp at hlen; omega
    · simp only [RepAV]; exact ⟨us, e, this⟩
  match ks, v, x, h with
  | [k], v, x, h =>
    simp only [decRes, Option.bind_eq_some_iff, Option.some.injEq] at h
    obtain ⟨y, hy, rfl⟩ := h
    exact KD.dec_rep hy hr
  | [], .tup l, x, h => exact key (by simp) h hr
  | k :: k' :: ks, .tup l, x, h => exact key (by simp) h hr

noncomputable def evFunA (ε : Env) {P : Program} {np : Nat} {tp : Bool} {S : Type} (fn : Func) {c : Code} (x : Ann P np tp c) (args : List AV) (K : AV → Option S) : Option S :=
  evA ε x { slots := args ++ List.replicate (fn.ntmps - args.length) .dead, recs := [], lsts := [] } fun ex st => match ex with
    | .normal | .ret => (evRes ε st fn.results.toList).bind fun l => K (resVal l)
    | _ => none

def pfun {ps rs : List KD} (F : argsDen ps → Option (argsDen rs)) : PFun := fun args K => (decArgs ps args).bind fun x => (F x).bind fun y => K (encRes rs y)

section
variable {P : Program} {ε : Env}

def resF (tmps : Array Value) : ResultVar → Sem Value
  | .tmp t => pure (tmps.getD t undef)
  | .cell a t => do loadVar t (← asAddr (tmps.getD a undef))
def Far (A0 : Dom) (w0 w : World) (b : Nat) : Prop := (A0.A b ∨ w0.heap.size ≤ b) ∧ b < w.heap.size

theorem evRes_sound (hε : EnvOk P ε) {A0 w0 w st} {a : Act} {μ} (hs : Sim A0 w0 st a.tmps w μ) : ∀ (rs : List ResultVar) (l : List AV), evRes ε st rs = some l →
    ∃ vs : List Value, (rs.mapM (resF a.tmps)).run P w = .ok vs w ∧ closedL l = true ∧ RepAVs (c0 (Far A0 w0 w) w) l vs
  | [], l, h => by
    simp only [evRes, Option.some.injEq] at h; subst h
    exact ⟨[], by simp, rfl, by simp [RepAVs]⟩
  | .tmp t :: rs, l, h => by
    simp only [evRes, Option.bind_eq_some_iff, Option.some.injEq] at h
    obtain ⟨v, hv, m, hm, rfl⟩ := h
    obtain ⟨vs, h1, h2, h3⟩ := evRes_sound hε hs rs m hm
    have hr := ev_rep hs.slots (.tmp t)
    simp only [St.ev] at hr
    obtain ⟨g1, g2⟩ := close_rep (A' := Far A0 w0 w) hs.mem (fun b hb => ⟨hb.1.1, hb.2.1⟩) (fun t b hb => ⟨.inr (hs.mem.live _ _ hb).1, (hs.mem.live _ _ hb).2.1⟩) hv hr
    refine ⟨_ :: vs, ?_, by simp [closedL, g1, h2], RepAVs.cons g2 h3⟩
    simp [List.mapM_cons, resF, h1, Act.eval]
  | .cell q t :: rs, l, h => by
    simp only [evRes] at h
    split at h
    · rename_i r hq
      split at h
      · rename_i cells i hcells hi
        split at h
        · rename_i hsz
          simp only [Option.bind_eq_some_iff, Option.some.injEq] at h
          obtain ⟨v, hv, v', hv', m, hm, rfl⟩ := h
          obtain ⟨vs, h1, h2, h3⟩ := evRes_sound hε hs rs m hm
          have hti := hε.ti t i hi
          have hr := ev_rep hs.slots (.tmp q)
          simp only [St.ev, hq] at hr
          simp only [RepAV, cx] at hr
          obtain ⟨b, hb, hval⟩ := hr.2.2 (by rw [hcells]; rfl)
          obtain ⟨cs, hown, hcr⟩ := hs.mem.rec_at hcells hb
          have hpart : partOf cells 0 i.size i.agg = some v := by
            unfold partOf
            cases hag : i.agg with
            | true =>
              simp only [hag, if_true, Option.some.injEq] at hv ⊢
              subst hv
              rw [if_pos (by omega)]; simp [← hsz]
            | false =>
              simp only [hag, Bool.false_eq_true, if_false] at hv ⊢
              cases cells with
              | nil => simp at hv
              | cons x xs => simpa using hv
          obtain ⟨val, hrun, hrep⟩ := load_cells (P := P) (c := cx A0 w0 st.recs st.lsts w μ) (w := w) hti hcr hown.cells hpart
          obtain ⟨g1, g2⟩ := close_rep (A' := Far A0 w0 w) hs.mem (fun b hb => ⟨hb.1.1, hb.2.1⟩) (fun t b hb => ⟨.inr (hs.mem.live _ _ hb).1, (hs.mem.live _ _ hb).2.1⟩) hv' hrep
          refine ⟨val :: vs, ?_, by simp [closedL, g1, h2], RepAVs.cons g2 h3⟩
          simp only [Nat.zero_add] at hrun
          have he : a.tmps.getD q undef = .pointer (some ⟨b, 0, none⟩) := hval
          simp [List.mapM_cons, resF, h1, he, asAddr, hrun]
        · cases h
      · cases h
    · cases h

theorem results_run {w : World} {fn : Func} {tmps : Array Value} {vs : List Value} (h : (fn.results.toList.mapM (resF tmps)).run P w = .ok vs w) : (results fn tmps).run P w = .ok (if h : vs.toArray.size = 1 then vs.toArray[0] else .tuple vs.toArray) w := by
  have e : results fn tmps = (do let vs ← fn.results.mapM (resF tmps); pure (if h : vs.size = 1 then vs[0] else .tuple vs)) := by
    unfold results
    rfl
  rw [e, Array.mapM_eq_mapM_toList]
  simp [h]

theorem Dok.drop {B : Dom} {w0 : World} {A A' : Dom} {D : Nat} (hF : ∀ b, A.F b → b ≠ D → A'.F b) (hX : ∀ b, A.X b → b ≠ D → A'.X b) (hw : A'.wF = A.wF) : ∀ {ds : List Deferred}, (∀ d ∈ ds, d ≠ { target := .collected D, args := #[] }) → Dok B w0 A ds → Dok B w0 A' ds
  | [], _, _ => trivial
  | d :: ds, hne, h => by
    obtain ⟨⟨D', h1, h2, h3, h4, h5, h5', h6, h7⟩, h8⟩ := h
    have hD : D' ≠ D := fun e => hne d (by simp) (by rw [h1, e])
    exact ⟨⟨D', h1, hF _ h2 hD, hX _ h3 hD, by rw [hw]; exact h4, h5, h5', h6, h7⟩, Dok.drop hF hX hw (fun d hd => hne d (by simp [hd])) h8⟩
def Dom.less (A1 : Dom) (D : Nat) : Dom := { A1 with F := fun b => A1.F b ∧ b ≠ D, X := fun b => A1.X b ∧ b ≠ D }
theorem sim_shut {A1 : Dom} {w0 w : World} {st : St} {tmps : Array Value} {μ : Mu} {D : Nat} {o : Obj} (hs : Sim A1 w0 st tmps w μ) (hF : A1.F D) (hX : A1.X D) (hD : w.heap[D]? = some (.deferred (some []))) (hw0 : w0.heap.size ≤ D) :
    Sim (A1.less D) w0 st tmps (w.putObj D o) μ := by
  have hm := hs.mem
  have hoth : ∀ b, b ≠ D → (w.putObj D o).heap[b]? = w.heap[b]? := fun b hb => World.putObj_heap_other hb
  have hsize : (w.putObj D o).heap.size = w.heap.size := by simp [World.putObj]
  have hown : ∀ {b vs}, Own w b vs → b ≠ D := by
    rintro b vs ⟨el, e⟩ rfl
    rw [hD] at e; cases e
  have hownL : ∀ {e : Ty} {b vs}, OwnL e w b vs → b ≠ D := by
    rintro e b vs h rfl
    rcases h.obj with ⟨es, c, e⟩ | ⟨el, e⟩ <;> (rw [hD] at e; cases e)
  have hle : (cx A1 w0 st.recs st.lsts w μ).Le (cx (A1.less D) w0 st.recs st.lsts (w.putObj D o) μ) :=
    ⟨fun b hb => ⟨⟨hb.1.1, fun h => hb.1.2 h.1⟩, by rw [hsize]; exact hb.2.1, hb.2.2⟩, fun b hb => hoth b (fun e => hb.1.2 (e ▸ hX)), Nat.le_refl _, Nat.le_refl _, fun _ _ hs => ⟨hs, rfl⟩, fun _ o _ ho => ⟨o, ho, rfl, rfl, rfl, rfl⟩, fun _ _ h => h⟩
  have hat : ∀ x b, μ.at_ x = some b → (w.putObj D o).heap[b]? = w.heap[b]? := fun x b hx => hoth b fun e => (hm.xo D hX).2 x (e ▸ hx)
  refine ⟨hs.slots.mono hle, ?_, ?_, fun x b hx => ?_, hm.inj, ?_, ?_, fun b hb => by obtain ⟨h1, h2⟩ := hm.xo b hb.1; exact ⟨by rw [hsize]; exact h1, h2⟩, hm.np, hm.pins, hm.gi, hm.bty.ext fun x b hx => hoth b fun e => (hm.xo D hX).2 x (e ▸ hx), fun r c hr => (hm.htop r c hr).imp (c := cx A1 w0 st.recs st.lsts w μ) rfl rfl (fun b hb => hat _ b hb) fun us hu => hu.mono hle, fun d hd => (hm.deep d hd).mono (c := cx A1 w0 st.recs st.lsts w μ) ⟨hle.A, hle.w, fun _ => rfl, fun k b hb => hat _ b hb, Nat.le_refl _, fun _ _ h => h⟩, hm.pinl⟩
  · intro r cells hr hk
    obtain ⟨b, vs, h1, h2, h3⟩ := hm.hrec r cells hr hk
    exact ⟨b, vs, h1, h2.ext (hoth b (hown h2)), h3.mono hle⟩
  · intro t o ht
    rcases hm.hlst t o ht with h1 | ⟨b, vs, hb, ho, hsz, hc, us, rest, e, hr⟩
    · exact .inl h1
    · exact .inr ⟨b, vs, hb, ho.ext (hoth b (hownL ho)), hsz, hc, us, rest, e, hr.imp fun x u hx => hx.mono hle.A hle.w⟩
  · obtain ⟨h1, h2, h3⟩ := hm.live x b hx
    exact ⟨h1, by rw [hsize]; exact h2, h3⟩
  · exact hm.below.trans ((Below.refl _ w).grown (grownBy_putObj' w D o) (by have := hm.below.size; have := (Array.getElem?_eq_some_iff.1 hD).1; omega) (fun k e => by cases e; exact hw0))
  · rintro b ⟨hb, hne⟩
    obtain ⟨h1, h2, h3⟩ := hm.fr b hb
    exact ⟨by rw [hsize]; exact h1, by rw [hoth b hne]; exact h2, h3⟩
theorem leaveU {B : Dom} {w0 : World} {fn : Func} {R : Ending → World → Prop} {n : Nat} {st : St} {tmps ta : Array Value} {μ : Mu} {u : FrameMode} (hu : u ≠ .run) : ∀ (ds : List Deferred) (A1 : Dom) (w : World), B.Ext A1 → Dok B w0 A1 ds → Sim A1 w0 st tmps w μ →
    (∀ w1, Sim B w0 st tmps w1 μ → LeavesIn (Fr none) n P fn ta R [] u w1) → LeavesInM (Fr none) n P fn ta R ds u w
  | [], A1, w, he, _, hs, hfin => by
    exact hfin w (he.sim hs)
  | d :: ds, A1, w, he, hd, hs, hfin => by
    obtain ⟨⟨D, h1, h2, h3, h4, h5, h5', h6, h7⟩, h8⟩ := hd
    have hD : w.heap[D]? = some (.deferred (some [])) := (hs.mem.fr D h2).2.1.trans h4
    refine ⟨hu, .inl ⟨D, w.putObj D (.deferred none), by rw [h1], run_takeDeferred hD, ?_⟩⟩
    refine leaveU hu ds (A1.less D) _ ⟨he.A, fun b hb => ⟨he.X b hb, fun e => h5' (e ▸ hb)⟩, he.pin, he.np, he.keep, he.pinl, he.nl, fun b hb => ⟨⟨(he.F b hb).1, fun e => h5 (e ▸ hb)⟩, (he.F b hb).2⟩⟩ ?_ (sim_shut hs h2 h3 hD h6) hfin
    exact Dok.drop (A' := A1.less D) (fun b h1 h2 => ⟨h1, h2⟩) (fun b h1 h2 => ⟨h1, h2⟩) rfl h7 h8

theorem leave {B : Dom} {w0 : World} {fn : Func} {R : Ending → World → Prop} {n : Nat} {st : St} {tmps : Array Value} {μ : Mu} (ds : List Deferred) (A1 : Dom) (w : World) (hB : B.Ext A1) (hd : Dok B w0 A1 ds) (hs : Sim A1 w0 st tmps w μ)
    (hfin : ∀ w1, Sim B w0 st tmps w1 μ → ∃ v, (results fn tmps).run P w1 = .ok v w1 ∧ R (.returned v) w1) : LeavesInM (Fr none) n P fn tmps R ds .returning w :=
  leaveU (by simp) ds A1 w hB hd hs fun w1 h1 => by
    obtain ⟨v, h2, h3⟩ := hfin w1 h1
    exact ⟨v, h2, h3⟩

theorem sound_of (hε : EnvOk P ε) {f : Nat} {fn : Func} {c : Code} (hf : P.funcs[f]? = some fn) (hnm : (fn.name == "runtime.NumGoroutine") = false) (hb : fn.body = some c) (x : Ann P 0 true c) {ps rs : List KD}
    {F : argsDen ps → Option (argsDen rs)} (hF : ∀ y, F y = evFunA ε fn x (encArgs ps y) (decRes rs)) : Sound P f (pfun F) := by
  refine ⟨⟨fn, hf, hnm, by rw [hb]; rfl⟩, ?_⟩
  intro S args K r h A w vs hA hgi hcl hrep
  simp only [pfun, Option.bind_eq_some_iff] at h
  obtain ⟨y, hy, z, hz, hK⟩ := h
  refine ⟨encRes rs z, hK, encRes_closed rs z, ?_⟩
  rw [hF] at hz
  have hargs := decArgs_rep hy hrep
  refine (callsIn_wide (n := 0)).1 (callsIn_of_wp_marks (F := Fr none) hf hb trivial ?_)
  have hlen := hargs.length
  let μ0 : Mu := ⟨fun _ => none, fun _ => 0, none⟩
  have hsub : (c0 A w).Sub (cx (Dom.of A w) w [] [] w μ0) := ⟨fun b hb => ⟨⟨.inl hb, fun h => h⟩, hA b hb, fun x hx => by cases hx⟩, fun _ _ => rfl⟩
  have hdead : ∀ n, RepAVs (cx (Dom.of A w) w [] [] w μ0) (List.replicate n .dead) (List.replicate n undef) := by
    intro n
    induction n with
    | zero => simp [RepAVs]
    | succ n ih => exact RepAVs.cons (by simp only [RepAV]) ih
  have hsim : Sim (Dom.of A w) w { slots := encArgs ps y ++ List.replicate (fn.ntmps - (encArgs ps y).length) .dead, recs := [], lsts := [] } (vs.toArray ++ Array.replicate (fn.ntmps - vs.toArray.size) undef) w μ0 := by
    refine ⟨?_, ?_, ?_, ?_, ?_, Below.refl _ _, ?_, ?_, ?_, ?_, hgi, ⟨fun r c h => by simp [getL] at h, fun t o h => by simp [getL] at h⟩, fun r c h => by simp [getL] at h, fun d h => (by cases h), ⟨Nat.le_refl _, fun t b h => (by cases h)⟩⟩
    · have := (RepAVs.closed hsub hargs (encArgs_closed ps y)).append (hdead (fn.ntmps - (encArgs ps y).length))
      simpa [hlen] using this
    · intro r cells h; simp [getL] at h
    · intro t o h; simp [getL] at h
    · intro x b h; cases h
    · intro x y b h; cases h
    · intro b h; cases h
    · intro b h; cases h
    · exact Nat.le_refl _
    · intro r b h; cases h
  refine evA_sound (B := Dom.of A w) (ρ := none) hε (fun _ => rfl) x (A0 := Dom.of A w) (Dom.Ext.refl _) ⟨Nat.le_refl 0, Nat.le_refl 0⟩ _ (fun A1 ex st tm E a' w2 μ' he h1 h2 hl h3 => ?_) _ _ w μ0 hz hsim trivial
  have fin : tm = a'.tmps → (evRes ε st fn.results.toList).bind (fun l => decRes rs (resVal l)) = some z → LeavesInM (Fr none) 0 P fn a'.tmps (fun e w' => ∃ v', e = .returned v' ∧ Below w.heap.size w w' ∧ RepAV (c0 (News w w' A) w') (encRes rs z) v') a'.defers .returning w2 := by
    intro htm h4
    subst htm
    simp only [Option.bind_eq_some_iff] at h4
    obtain ⟨l, hl, hdec⟩ := h4
    refine leave _ A1 w2 he h3 h2 fun w' h2 => ?_
    obtain ⟨us, g1, g2, g3⟩ := evRes_sound (a := a') hε h2 _ l hl
    refine ⟨_, results_run g1, _, rfl, h2.mem.below, ?_⟩
    have hval : RepAV (c0 (Far (Dom.of A w) w w') w') (resVal l) (if h : us.toArray.size = 1 then us.toArray[0] else .tuple us.toArray) := by
      have hl2 := g3.length
      unfold resVal
      split
      · obtain ⟨v, rfl, hv⟩ := g3.one'
        simpa using hv
      · rename_i hne
        have : ¬ us.toArray.size = 1 := by
          intro e
          simp at e
          rw [hl2] at e
          match l, e with
          | [v], _ => exact hne v rfl
        rw [dif_neg this]
        simp only [RepAV]
        exact ⟨_, rfl, by simpa using g3⟩
    have hrr := decRes_rep hdec hval
    refine RepAV.closed (c := c0 (Far (Dom.of A w) w w') w') (c' := c0 (News w w' A) w') ⟨fun b hb => ?_, fun _ _ => rfl⟩ (encRes_closed rs z) hrr
    rcases hb.1 with h5 | h5
    · exact .inl h5
    · exact .inr ⟨h5, hb.2⟩
  cases ex with
  | normal => obtain ⟨e1, rfl⟩ := hl; exact fin e1 h1
  | ret => obtain ⟨e1, rfl⟩ := hl; exact fin e1 h1
  | exit id => cases h1
  | panic => cases h1

def evResH (ε : Env) (st : St) : List ResultVar → Option (List AV)
  | [] => some []
  | .tmp t :: r => (evResH ε st r).bind fun l => some (st.slots.getD t .dead :: l)
  | .cell a t :: r => match st.slots.getD a .dead with
    | .ptr q 0 => (match getL st.recs q, ε.ti t with
      | some cells, some i => (partOf cells 0 i.size i.agg).bind fun v => (evResH ε st r).bind fun l => some (v :: l)
      | _, _ => none)
    | _ => none
theorem evResH_sound (hε : EnvOk P ε) {A0 w0 w st} {a : Act} {μ} (hs : Sim A0 w0 st a.tmps w μ) : ∀ (rs : List ResultVar) (l : List AV), evResH ε st rs = some l →
    ∃ vs : List Value, (rs.mapM (resF a.tmps)).run P w = .ok vs w ∧ RepAVs (cx A0 w0 st.recs st.lsts w μ) l vs
  | [], l, h => by
    simp only [evResH, Option.some.injEq] at h; subst h
    exact ⟨[], by simp, by simp [RepAVs]⟩
  | .tmp t :: rs, l, h => by
    simp only [evResH, Option.bind_eq_some_iff, Option.some.injEq] at h
    obtain ⟨m, hm, rfl⟩ := h
    obtain ⟨vs, h1, h3⟩ := evResH_sound hε hs rs m hm
    have hr := ev_rep hs.slots (.tmp t)
    simp only [St.ev] at hr
    refine ⟨_ :: vs, ?_, RepAVs.cons hr h3⟩
    simp [List.mapM_cons, resF, h1, Act.eval]
  | .cell q t :: rs, l, h => by
    simp only [evResH] at h
    split at h
    · rename_i r hq
      split at h
      · rename_i cells i hcells hi
        simp only [Option.bind_eq_some_iff, Option.some.injEq] at h
        obtain ⟨v, hpart, m, hm, rfl⟩ := h
        obtain ⟨vs, h1, h3⟩ := evResH_sound hε hs rs m hm
        have hti := hε.ti t i hi
        have hr := ev_rep hs.slots (.tmp q)
        simp only [St.ev, hq] at hr
        simp only [RepAV, cx] at hr
        obtain ⟨b, hb, hval⟩ := hr.2.2 (by rw [hcells]; rfl)
        obtain ⟨cs, hown, hcr⟩ := hs.mem.rec_at hcells hb
        obtain ⟨val, hrun, hrep⟩ := load_cells (P := P) (c := cx A0 w0 st.recs st.lsts w μ) (w := w) hti hcr hown.cells hpart
        refine ⟨val :: vs, ?_, RepAVs.cons hrep h3⟩
        simp only [Nat.zero_add] at hrun
        have he : a.tmps.getD q undef = .pointer (some ⟨b, 0, none⟩) := hval
        simp [List.mapM_cons, resF, h1, he, asAddr, hrun]
      · cases h
    · cases h

noncomputable def evFunH (ε : Env) {P : Program} {np : Nat} {tp : Bool} (fn : Func) {c : Code} (x : Ann P np tp c) (I O : Shape) (y : I.den) : Option O.den :=
  evA ε x { slots := (fill I y).slots ++ List.replicate (fn.ntmps - (fill I y).slots.length) .dead, recs := (fill I y).recs, lsts := (fill I y).lsts } fun ex st => match ex with
    | .normal | .ret => (evResH ε st fn.results.toList).bind fun l => abs O ⟨l, st.recs, st.lsts⟩
    | _ => none
theorem sound_ofH (hε : EnvOk P ε) {f : Nat} {fn : Func} {c : Code} (hf : P.funcs[f]? = some fn) (hnm : (fn.name == "runtime.NumGoroutine") = false) (hb : fn.body = some c) {I O : Shape} (x : Ann P (npOf I) true c) (hsm : Nat.blt I.recs.length 64 = true) (hIO : fits (npOf I) O = true)
    {F : I.den → Option O.den} (hF : ∀ y, F y = evFunH ε fn x I O y) : SoundH P f ⟨I, O, F⟩ := by
  refine ⟨⟨fn, hf, hnm, by rw [hb]; rfl⟩, ?_⟩
  intro y o ho A0 w0 w vs μ hs
  replace ho : F y = some o := ho
  rw [hF] at ho
  refine (callsIn_wide (n := 0)).1 (callsIn_of_wp_marks (F := Fr none) hf hb trivial ?_)
  have hlen := hs.slots.length
  have hdead : ∀ n, RepAVs (cx A0 w0 (fill I y).recs (fill I y).lsts w μ) (List.replicate n .dead) (List.replicate n undef) := by
    intro n
    induction n with
    | zero => simp [RepAVs]
    | succ n ih => exact RepAVs.cons (by simp only [RepAV]) ih
  have hsim : Sim A0 w0 { slots := (fill I y).slots ++ List.replicate (fn.ntmps - (fill I y).slots.length) .dead, recs := (fill I y).recs, lsts := (fill I y).lsts } (vs.toArray ++ Array.replicate (fn.ntmps - vs.toArray.size) undef) w μ := by
    refine ⟨?_, hs.mem⟩
    have := hs.slots.append (hdead (fn.ntmps - (fill I y).slots.length))
    simp only [List.toList_toArray] at hlen
    simpa [hlen] using this
  have hnp : Under A0 (npOf I) := by
    have h1 := hs.mem.np
    have h2 := hs.mem.pinl.1
    simp only [fill] at h1 h2
    rw [fillR_length] at h1
    rw [fillT_length] at h2
    have h3 : I.recs.length < 64 := by simpa [Nat.blt_eq] using hsm
    unfold Under npOf
    constructor <;> omega
  refine evA_sound (B := A0) (ρ := none) hε (fun _ => rfl) x (Dom.Ext.refl _) hnp _ (fun A1 ex st tm E a' w2 μ' he h1 h2 hl h3 => ?_) _ _ w μ ho hsim trivial
  have fin : tm = a'.tmps → ((evResH ε st fn.results.toList).bind fun l => abs O ⟨l, st.recs, st.lsts⟩) = some o → LeavesInM (Fr none) 0 P fn a'.tmps (fun e w' => ∃ us μ', e = .returned (retVal us) ∧ Sim A0 w0 (fill O o) us.toArray w' μ') a'.defers .returning w2 := by
    intro htm h4
    subst htm
    simp only [Option.bind_eq_some_iff] at h4
    obtain ⟨l, hl, habs⟩ := h4
    refine leave _ A1 w2 he h3 h2 fun w' h2 => ?_
    obtain ⟨us, g1, g3⟩ := evResH_sound (a := a') hε h2 _ l hl
    have hs2 : Sim A0 w0 ⟨l, st.recs, st.lsts⟩ us.toArray w' μ' := ⟨by simpa using g3, h2.mem⟩
    exact ⟨_, results_run g1, us, _, rfl, abs_sound hs2 (fits_abs hnp hIO).1 (fits_abs hnp hIO).2 habs⟩
  cases ex with
  | normal => obtain ⟨e1, rfl⟩ := hl; exact fin e1 h1
  | ret => obtain ⟨e1, rfl⟩ := hl; exact fin e1 h1
  | exit id => cases h1
  | panic => cases h1

end
end Go.Pe
end
section
namespace Go.Pe
open Go.RowKit
set_option linter.unusedSectionVars false
variable [GI]

def tysOf (f : Nat → Option Ty) : List Nat → Option Ty
  | [] => some .unit
  | [t] => f t
  | t :: r => (f t).bind fun a => (tysOf f r).bind fun b => some (.prod a b)
def tyOf (P : Program) (vt : Nat) : Nat → Nat → Option Ty
  | 0, _ => none
  | n + 1, t => if t = vt then some .value else match P.underlying t with
    | some .bool => some .bool
    | some (.int k) => some (.int k)
    | some .string => some .str
    | some (.slice e) => (tyOf P vt n e).map .list
    | some (.struct fs) => tysOf (tyOf P vt n) (fs.toList.map (·.type))
    | some (.array m e) => tysOf (tyOf P vt n) (List.replicate m e)
    | _ => none
def tyU8 (t : Nat) (e : Ty) : Option Ty := match e with
  | .int .u8 => (match Nat.beq t GI.u8 with | true => some (.int .u8) | false => none)
  | e => some e
theorem tyU8_some {t : Nat} {e e' : Ty} (h : tyU8 t e = some e') : e' = e ∧ (e' = .int .u8 → t = GI.u8) := by
  unfold tyU8 at h
  split at h
  · split at h
    · rename_i hb; cases h; exact ⟨rfl, fun _ => Nat.eq_of_beq_eq_true hb⟩
    · cases h
  · rename_i hne; cases h; exact ⟨rfl, fun e => absurd e hne⟩
def aggD : TypeDesc → Bool | .struct _ | .array _ _ => true | _ => false
def tiOf (P : Program) (vt t : Nat) : Option TI :=
  match P.underlying t, P.info? t with
  | some d, some inf => match inf.zero with
    | some z => if z.cells.size = inf.size ∧ inf.bytes ≤ 16384 ∧ isAggV z = aggD d then
        some ⟨d, inf.size, (match d with | .struct _ | .array _ _ => true | _ => false), (tyOf P vt 8 t).bind fun e => if e.size = inf.size ∧ e.isMap = false then tyU8 t e else none, z.cells.toList.map ofConst,
          (match d with | .struct fs => !P.stoodInHeld t && !P.eqGuardType P.depth t && eqFs 0 fs.toList | _ => false), Nat.beq t GI.bt⟩ else none
    | none => none
  | _, _ => none

theorem consts_rep (c : Cx) : ∀ l : List Value, RepAVs c (l.map ofConst) l
  | [] => by simp [RepAVs]
  | v :: l => by simp only [List.map_cons]; exact RepAVs.cons (ofConst_rep c v) (consts_rep c l)
theorem tiOf_ok {P : Program} {vt t : Nat} {i : TI} (h : tiOf P vt t = some i) : TiOk P t i := by
  unfold tiOf at h
  split at h
  · rename_i d inf hd hi
    split at h
    · rename_i z hz
      split at h
      · rename_i hc
        cases h
        refine ⟨hd, ⟨inf, hi, rfl, hc.2.1, z, hz, hc.1, fun c => consts_rep _ _⟩, rfl, fun e he => ?_, fun e he => ?_, fun he => ?_, fun he => Nat.eq_of_beq_eq_true he, fun he => ?_, fun inf' z' h1 h2 => by rw [hi] at h1; cases h1; rw [hz] at h2; cases h2; exact hc.2.2⟩
        · simp only [Option.bind_eq_some_iff] at he
          obtain ⟨e', _, he⟩ := he
          split at he
          · rename_i hs; rw [(tyU8_some he).1]; exact hs.1
          · cases he
        · simp only [Option.bind_eq_some_iff] at he
          obtain ⟨e', _, he⟩ := he
          split at he
          · rename_i hs; rw [(tyU8_some he).1]; exact hs.2
          · cases he
        · simp only [Option.bind_eq_some_iff] at he
          obtain ⟨e', _, he⟩ := he
          split at he
          · exact (tyU8_some he).2 rfl
          · cases he
        · dsimp only at he
          split at he
          · rename_i fs
            simp only [Bool.and_eq_true, Bool.not_eq_true'] at he
            exact ⟨fs, hd, he.1.1, he.1.2, he.2⟩
          · cases he
      · cases h
    · cases h
  · cases h

def _root_.Go.Code.cl : Code → Code | .seq a _ => a | c => c
def _root_.Go.Code.cr : Code → Code | .seq _ b => b | c => c
def _root_.Go.Code.cb : Code → Code | .block _ b => b | .loop b => b | c => c
def codeOf (f : Func) : Code := match f.body with | some c => c | none => .skip

structure FnRow (P : Program) where
  f : Nat
  G : PFun
  sc : Bool
  sound : Sound P f @G
  uni : PFun.Uni @G
def fnOf {P : Program} : List (FnRow P) → Nat → Option (PFun × Bool)
  | [], _ => none
  | r :: l, f => match Nat.beq r.f f with | true => some (r.G, r.sc) | false => fnOf l f
structure HRow (P : Program) where
  f : Nat
  h : HF
  sound : SoundH P f h
def hfOf {P : Program} : List (HRow P) → Nat → List HF
  | [], _ => []
  | r :: l, f => match Nat.beq r.f f with | true => r.h :: hfOf l f | false => hfOf l f
theorem hfOf_ok {P : Program} : ∀ {l : List (HRow P)} {f : Nat} {h : HF}, h ∈ hfOf l f → SoundH P f h
  | [], f, h, hh => by simp [hfOf] at hh
  | r :: l, f, h, hh => by
    simp only [hfOf] at hh
    split at hh
    · rename_i e
      have e : r.f = f := by simpa using e
      rcases List.mem_cons.1 hh with rfl | hh
      · exact e ▸ r.sound
      · exact hfOf_ok hh
    · exact hfOf_ok hh
structure PRow (P : Program) where
  f : Nat
  h : PF
  sound : SoundP P f h
def envOf (P : Program) (vt : Nat) (l : List (FnRow P)) (hl : List (HRow P)) (own : List Nat := []) : Env := ⟨tiOf P vt, fnOf l, hfOf hl, fun _ => [], fun _ => false, own, fun _ => none⟩
theorem fnOf_ok {P : Program} : ∀ {l : List (FnRow P)} {f : Nat} {G : PFun} {sc : Bool}, fnOf l f = some (@G, sc) → Sound P f @G ∧ PFun.Uni @G
  | r :: l, f, G, sc, h => by
    simp only [fnOf] at h
    split at h
    · rename_i e
      have e : r.f = f := by simpa using e
      subst e
      have h1 : (r.G : PFun) = @G := congrArg Prod.fst (Option.some.inj h)
      exact ⟨h1 ▸ r.sound, h1 ▸ r.uni⟩
    · exact fnOf_ok h
theorem envOf_ok {P : Program} (vt : Nat) (l : List (FnRow P)) (hl : List (HRow P)) (hm : P.follows .mixedOrders = true) (own : List Nat := []) : EnvOk P (envOf P vt l hl own) :=
  ⟨fun _ _ h => tiOf_ok h, fun _ _ _ h => (fnOf_ok h).1, fun _ _ _ h => (fnOf_ok h).2, hm, fun _ _ h => hfOf_ok h, (fun _ _ h => by cases h), (fun _ h => by cases h), (fun _ _ h => by cases h)⟩
structure ERow (P : Program) where
  f : Nat
  G : Ext
  sound : ExtOk P f @G
def extOf {P : Program} : List (ERow P) → Nat → Option Ext
  | [], _ => none
  | r :: l, f => match Nat.beq r.f f with | true => some @r.G | false => extOf l f
theorem extOf_ok {P : Program} : ∀ {l : List (ERow P)} {f : Nat} {G : Ext}, extOf l f = some @G → ExtOk P f @G
  | [], f, G, h => by cases h
  | r :: l, f, G, h => by
    simp only [extOf] at h
    split at h
    · rename_i e
      have e : r.f = f := by simpa using e
      cases h
      exact e ▸ r.sound
    · exact extOf_ok h
def envOfE (P : Program) (vt : Nat) (l : List (FnRow P)) (hl : List (HRow P)) (xl : List (ERow P)) (own : List Nat := []) : Env := ⟨tiOf P vt, fnOf l, hfOf hl, fun _ => [], fun _ => false, own, extOf xl⟩
theorem envOfE_ok {P : Program} (vt : Nat) (l : List (FnRow P)) (hl : List (HRow P)) (xl : List (ERow P)) (hm : P.follows .mixedOrders = true) (own : List Nat := []) : EnvOk P (envOfE P vt l hl xl own) :=
  ⟨fun _ _ h => tiOf_ok h, fun _ _ _ h => (fnOf_ok h).1, fun _ _ _ h => (fnOf_ok h).2, hm, fun _ _ h => hfOf_ok h, (fun _ _ h => by cases h), (fun _ h => by cases h), fun _ _ h => extOf_ok h⟩
theorem pfun_uni {ps rs : List KD} (F : argsDen ps → Option (argsDen rs)) : PFun.Uni (pfun F) := by
  intro S args K
  show ((decArgs ps args).bind fun x => (F x).bind fun y => K (encRes rs y)) = ((decArgs ps args).bind fun x => (F x).bind fun y => some (encRes rs y)).bind K
  rw [Option.bind_assoc]; congr; funext x; rw [Option.bind_assoc]; rfl
def KD.scalar : KD → Bool
  | .one .bool | .one (.int _) | .one .str => true
  | _ => false
def rowOf {P : Program} {f : Nat} {ps rs : List KD} {F : argsDen ps → Option (argsDen rs)} (sc : Bool) (h : Sound P f (pfun F)) : FnRow P := ⟨f, pfun F, sc, h, pfun_uni F⟩

def Ty.fuel : (t : Ty) → t.den → Nat
  | .bool, _ => 0
  | .int _, x => x.natAbs
  | .str, x => x.length
  | .list _, x => x.length
  | .unit, _ => 0
  | .prod a b, x => a.fuel x.1 + b.fuel x.2
  | .value, _ => 0
mutual
def SAV.fuel : (s : SAV) → s.den → Nat
  | .hole t, x => t.fuel x
  | .agg l, x => fuelL l x
  | .ifc _ l, x => fuelL l x
  | .fn _ a b, x => fuelL a x.1 + fuelL b x.2
  | .eptr _ _, i => i
  | .stk, x => x.length
  | .dead, _ | .ptr _ _, _ | .whole _, _ | .nilP, _ | .nilS, _ | .bld _, _ | .same, _ => 0
def fuelL : (l : List SAV) → SAVs.den l → Nat
  | [], _ => 0
  | s :: r, z => s.fuel z.1 + fuelL r z.2
end
def fuelR : (l : List (Option (List SAV))) → recsDen l → Nat
  | [], _ => 0
  | none :: r, z => fuelR r z
  | some l :: r, z => fuelL l z.1 + fuelR r z.2
def fuelT : (l : List (Option Ty)) → lstsDen l → Nat
  | [], _ => 0
  | none :: r, z => fuelT r z
  | some _ :: r, z => z.1.length + fuelT r z.2
def fuelOf (sh : Shape) (z : sh.den) : Nat := 1000000 + (fuelL sh.slots z.1 + fuelR sh.recs z.2.1 + fuelT sh.lsts z.2.2)
def go {sh : Shape} {β : Type} (step : (sh.den → Option β) → sh.den → Option β) (y : sh.den) : Option β := iter step (fuelOf sh y) y
theorem go_of {P : Program} {ε : Env} (hε : EnvOk P ε) {np : Nat} {tp : Bool} {c : Code} (x : Ann P np tp c) {sh : Shape} {outs : List (Ex × Shape)} {step : (sh.den → Option (OutDen outs)) → sh.den → Option (OutDen outs)}
    (h1 : fits np sh = true) (h2 : outsOk np outs = true) (h : ∀ rec y, step rec y = evA ε x (fill sh y) (fun ex st => match ex with | .normal => (abs sh st).bind rec | e => packOut outs e st)) : PieceSound P np tp (.loop c) sh outs (go step) :=
  ⟨h1, fun y o ho => (loop_of hε x h1 h2 h (fuelOf sh y)).2 y o ho⟩

end Go.Pe
end
section
namespace Go.Pe
open Go.RowKit
set_option linter.unusedSectionVars false
variable [GI]
set_option linter.unusedSimpArgs false
set_option linter.unusedVariables false

section
variable {A H : Dom} {w0 w : World} {st : St} {tmps : Array Value} {μ : Mu} {l : Nat}
theorem Dok.ext {B A A1 : Dom} (h : A.Ext A1) : ∀ {ds : List Deferred}, Dok B w0 A ds → Dok B w0 A1 ds
  | [], _ => trivial
  | d :: ds, ⟨⟨D, h1, h2, h3, h4, h5⟩, h6⟩ => ⟨⟨D, h1, (h.F D h2).1, h.X D h3, (h.F D h2).2.trans h4, h5⟩, Dok.ext h h6⟩
theorem Dok.old {B A : Dom} {D : Nat} (hD : ¬ A.F D) : ∀ {ds : List Deferred}, Dok B w0 A ds → ∀ d ∈ ds, d ≠ { target := .collected D, args := #[] }
  | [], _ => by simp
  | d :: ds, ⟨⟨D', h1, h2, _⟩, h6⟩ => by
    intro d' hd'
    rcases List.mem_cons.1 hd' with rfl | hd'
    · rw [h1]; intro e
      simp only [Deferred.mk.injEq, Target.collected.injEq, and_true] at e
      exact hD (e ▸ h2)
    · exact Dok.old hD h6 d' hd'
end

section
variable {P : Program} {ε : Env}
end
end Go.Pe
end
section
namespace Go.Pe
open Go.RowKit
set_option linter.unusedSectionVars false
variable [GI]
set_option linter.unusedSimpArgs false
set_option linter.unusedVariables false

section
variable {P : Program} {ops : Array Oper} {Q : Exit → Act → World → Prop} {l : List Nat} {i n : Nat} {ρ : Option Nat} {a : Act} {w w' : World} {v : Value} {d : Option Nat} {op : Op}
theorem RoundIn.fr {m : Nat} {L : Nat} {f : FuncId} {tmps : Array Value} {assign body : Code} {R : Ending → World → Prop} (h : RoundIn (Fr ρ) n P L f tmps assign body w R) : RoundIn (Fr ρ) m P L f tmps assign body w R :=
  ⟨h.1, fun c cs _ => h.2 c cs (fun d hd => by cases ρ <;> cases hd)⟩
end

section
variable {P : Program} {ε : Env} (hε : EnvOk P ε)
end

section
variable {P : Program} {ε : Env} (hε : EnvOk P ε)
theorem put_tmps (a : Act) {d e : Nat} (v : Value) (hd : d < a.tmps.size) : (a.put (some d) v).tmps.getD e undef = if e = d then v else a.tmps.getD e undef := by
  simp only [Act.put, Array.getD_eq_getD_getElem?, Array.getElem?_setIfInBounds]
  by_cases h : d = e
  · subst h; simp [hd]
  · rw [if_neg h, if_neg (fun e => h e.symm)]
theorem put_size (a : Act) {d : Option Nat} (v : Value) : (a.put d v).tmps.size = a.tmps.size := by
  cases d <;> simp [Act.put]
structure BackAt (a : Act) (L : Nat) (pv : Value) (k : Int) : Prop where
  sz : a.tmps.size = 19
  t0 : a.tmps.getD 0 undef = .func (.yield L) #[] #[]
  t1 : a.tmps.getD 1 undef = pv
  t3 : a.tmps.getD 3 undef = .int .i64 (k - 1)
  df : a.defers = []
theorem BackAt.put {a : Act} {L : Nat} {pv : Value} {k : Int} {d : Nat} {v : Value} (h : BackAt a L pv k) (h0 : d ≠ 0) (h1 : d ≠ 1) (h3 : d ≠ 3) (hd : d < 19) : BackAt (a.put (some d) v) L pv k :=
  ⟨(put_size _ _).trans h.sz, by rw [put_tmps _ _ (by rw [h.sz]; exact hd), if_neg (Ne.symm h0)]; exact h.t0, by rw [put_tmps _ _ (by rw [h.sz]; exact hd), if_neg (Ne.symm h1)]; exact h.t1, by rw [put_tmps _ _ (by rw [h.sz]; exact hd), if_neg (Ne.symm h3)]; exact h.t3, by rw [put_defers]; exact h.df⟩
end
end Go.Pe
end
section
namespace Go.Pe
open Go.RowKit
set_option linter.unusedSectionVars false
set_option linter.unusedVariables false
set_option linter.unusedSimpArgs false
variable [GI]
section
variable {A0 : Dom} {w0 w w' : World} {recs : List (Option (List AV))} {lsts : List (Option LObj)} {μ : Mu}
theorem le_adopt (hB : Below w.heap.size w w') {g : Nat} (hg : w.heap.size ≤ g) (l : LObj) (c : Nat) : (cx A0 w0 recs lsts w μ).Le (cx A0 w0 recs (lsts ++ [some l]) w' ((μ.upd (.l lsts.length) g).setCap lsts.length c)) :=
  ⟨fun b hb => ⟨hb.1, Nat.lt_of_lt_of_le hb.2.1 hB.size, fun x hx => by
      simp only [Mu.upd, Mu.setCap] at hx
      split at hx
      · cases hx; exact absurd hb.2.1 (Nat.not_lt.2 hg)
      · exact hb.2.2 x hx⟩, fun b hb => hB.block b hb.2.1, Nat.le_refl _, by simp [cx],
   fun r hr hs => ⟨hs, by simp [cx, Mu.upd, Mu.setCap]⟩,
   fun t o' ht ho => by
     have ht' : t < lsts.length := ht
     simp only [cx, getL_app ht'] at ho
     exact ⟨o', ho, rfl, rfl, by simp only [cx, Mu.upd, Mu.setCap]; rw [if_neg (by intro e; cases e; exact absurd ht' (Nat.lt_irrefl _))], Mu.capOf_eq (by simp only [cx, Mu.upd, Mu.setCap]; rw [if_neg (by omega)]) _⟩, fun x v h => RepSX.congr (μ := μ.upd (.l lsts.length) g) rfl rfl (RepSX.upd (by simp) h)⟩
theorem Mem.adoptLst (hm : Mem A0 w0 recs lsts w μ) (hB : Below w.heap.size w w') {g : Nat} (hg : w.heap.size ≤ g) (hg2 : g < w'.heap.size) {l : LObj} {us : List Value} {rest : List Value} (hr : RepL (Imm A0 w0 μ w) w l.e l.xs us rest) {vs : Array Value} (hvs : vs.toList = us ++ rest) {c : Nat} (hsz : vs.size = c * l.e.size) (hcap : l.xs.length ≤ c) (hown : OwnL l.e w' g vs) (hel : l.e = .int .u8 → w'.heap[g]? = some (.cells vs GI.u8 (0, 0))) :
    Mem A0 w0 recs (lsts ++ [some l]) w' ((μ.upd (.l lsts.length) g).setCap lsts.length c) := by
  have hle := le_adopt (A0 := A0) (w0 := w0) (recs := recs) (lsts := lsts) (μ := μ) hB hg l c
  have hlive : ∀ x b, μ.at_ x = some b → x ≠ .l lsts.length := by
    intro x b hx e; subst e
    obtain ⟨c, hc⟩ := Option.isSome_iff_exists.1 (hm.live _ _ hx).2.2
    exact absurd (getL_lt hc) (Nat.lt_irrefl _)
  have hnew : ∀ x, μ.at_ x ≠ some g := fun x hx => absurd (hm.live _ _ hx).2.1 (Nat.not_lt.2 hg)
  constructor
  · intro r cells' h hk
    obtain ⟨b, vs', hb, ho, hv⟩ := hm.hrec r cells' h hk
    exact ⟨b, vs', by simp only [Mu.upd, Mu.setCap]; rw [if_neg (hlive _ _ hb)]; exact hb, ho.ext (hB.block _ (hm.live _ _ hb).2.1), hv.mono hle⟩
  · intro t o ht
    rcases Nat.lt_trichotomy t lsts.length with hlt | heq | hgt
    · rw [getL_app hlt] at ht
      rcases hm.hlst t o ht with ⟨h1, h2⟩ | ⟨b, vs', hb, ho, hsz', hcap', us', rest', e, hr'⟩
      · exact .inl ⟨by simp only [cx, Mu.upd, Mu.setCap]; rw [if_neg (by intro e; cases e; exact absurd hlt (Nat.lt_irrefl _))]; exact h1, h2⟩
      · refine .inr ⟨b, vs', by simp only [cx, Mu.upd, Mu.setCap]; rw [if_neg (hlive _ _ hb)]; exact hb, ho.ext (hB.block _ (hm.live _ _ hb).2.1), ?_, ?_, us', rest', e, hr'.imp fun x u hx => hx.mono hle.A hle.w⟩
        · simp only [cx, Mu.upd, Mu.setCap]; rw [if_neg (by omega)]; exact hsz'
        · simp only [cx, Mu.upd, Mu.setCap]; rw [if_neg (by omega)]; exact hcap'
    · subst heq
      rw [getL_new] at ht; cases ht
      exact .inr ⟨g, vs, by simp [cx, Mu.upd, Mu.setCap], hown, by simp [cx, Mu.upd, Mu.setCap, hsz], by simp [cx, Mu.upd, Mu.setCap, hcap], us, rest, hvs, hr.imp fun x u hx => hx.mono hle.A hle.w⟩
    · have := getL_lt ht; simp at this; omega
  · intro x b hx
    simp only [Mu.upd, Mu.setCap] at hx
    split at hx
    · rename_i e; cases hx; subst e
      exact ⟨Nat.le_trans hm.below.size hg, hg2, by simp [getL_new]⟩
    · obtain ⟨h1, h2, h3⟩ := hm.live x b hx
      refine ⟨h1, Nat.lt_of_lt_of_le h2 hB.size, ?_⟩
      cases x with
      | r r => exact h3
      | n k => exact h3
      | l t =>
        obtain ⟨c, hc⟩ := Option.isSome_iff_exists.1 h3
        simp only; rw [getL_app (getL_lt hc)]; exact h3
  · intro x y b hx hy
    simp only [Mu.upd, Mu.setCap] at hx hy
    split at hx <;> split at hy
    · simp_all
    · cases hx; exact absurd hy (hnew _)
    · cases hy; exact absurd hx (hnew _)
    · exact hm.inj _ _ _ hx hy
  · exact hm.below.trans (hB.mono hm.below.size)
  · intro b hb
    obtain ⟨h1, h2, h3⟩ := hm.fr b hb
    refine ⟨Nat.lt_of_lt_of_le h1 hB.size, by rw [hB.block _ h1]; exact h2, fun x hx => ?_⟩
    simp only [Mu.upd, Mu.setCap] at hx
    split at hx
    · cases hx; exact absurd h1 (Nat.not_lt.2 hg)
    · exact h3 x hx
  · intro b hb
    obtain ⟨h1, h3⟩ := hm.xo b hb
    refine ⟨Nat.lt_of_lt_of_le h1 hB.size, fun x hx => ?_⟩
    simp only [Mu.upd, Mu.setCap] at hx
    split at hx
    · cases hx; exact absurd h1 (Nat.not_lt.2 hg)
    · exact h3 x hx
  · exact hm.np
  · intro r b hb
    obtain ⟨h1, h2⟩ := hm.pins r b hb
    exact ⟨h1, fun hs => by simp only [Mu.upd, Mu.setCap]; rw [if_neg (by intro e; cases e)]; exact h2 hs⟩
  · exact hm.gi
  · refine hm.bty.map (fun r' c' h1 h2 b hb => .inl ⟨r', c', h1, h2, by simpa [Mu.upd, Mu.setCap] using hb⟩) (fun t' o' h1 h2 b hb => ?_) fun x b vs T hx hv => ⟨vs, (hB.block _ (hm.live _ _ hx).2.1).trans hv⟩
    rcases Nat.lt_trichotomy t' lsts.length with hlt | heq | hgt
    · rw [getL_app hlt] at h1
      simp only [Mu.upd, Mu.setCap] at hb
      rw [if_neg (by intro e; cases e; exact absurd hlt (Nat.lt_irrefl _))] at hb
      exact .inl ⟨t', o', h1, h2, hb⟩
    · subst heq
      rw [getL_new] at h1; cases h1
      simp only [Mu.upd, Mu.setCap, if_true] at hb
      cases hb
      exact .inr ⟨vs, hel h2⟩
    · have := getL_lt h1; simp at this; omega
  · intro r c h
    exact (hm.htop r c h).imp (c := cx A0 w0 recs lsts w μ) rfl (by simp [cx, Mu.upd, Mu.setCap]) (fun b hb => hB.block _ (hm.live _ _ hb).2.1) fun us hu => hu.mono hle
  · intro d hd
    exact (hm.deep d hd).mono (c := cx A0 w0 recs lsts w μ) ⟨hle.A, hle.w, fun k => by simp [cx, Mu.upd, Mu.setCap], fun k b hb => hB.block _ (hm.live _ _ hb).2.1, hle.nr, fun r hr h => by simp only [cx, Mu.upd, Mu.setCap]; rw [if_neg (by intro e; cases e)]; exact h⟩
  · exact hm.pinl.le hle
theorem Sim.adoptStrs {st : St} {tmps : Array Value} (hs : Sim A0 w0 st tmps w μ) (hB : Below w.heap.size w w') {v : Value} {xs : List (List UInt8)}
    (h : (v = .slice none 0 0 ∧ xs = []) ∨ ∃ g cap cur el, v = .slice (some ⟨g, 0, none⟩) xs.length cap ∧ w.heap.size ≤ g ∧ w'.heap[g]? = some (.cells cur el (0, 0)) ∧ xs.length ≤ cap ∧ cur.size = cap ∧ cur.toList.take xs.length = xs.map fun x => Value.string ⟨x.toArray⟩) :
    ∃ μ', RepAV (cx A0 w0 st.recs (st.lsts ++ [some ⟨.str, xs⟩]) w' μ') (.whole st.lsts.length) v ∧ Sim A0 w0 { st with lsts := st.lsts ++ [some ⟨.str, xs⟩] } tmps w' μ' := by
  rcases h with ⟨rfl, rfl⟩ | ⟨g, cap, cur, el, rfl, hg, hcur, hle, hsz, htk⟩
  · refine ⟨μ, ?_, ?_, ?_⟩
    · simp only [RepAV, cx]
      refine ⟨by simp, rfl, fun o ho => ?_⟩
      rw [getL_new] at ho; cases ho
      refine (WholeAt.plain (o := ⟨.str, []⟩) rfl).2 (.inl ⟨?_, rfl⟩)
      cases hx : μ.at_ (.l st.lsts.length) with
      | none => rfl
      | some b =>
        obtain ⟨c, hc⟩ := Option.isSome_iff_exists.1 (hs.mem.live _ _ hx).2.2
        exact absurd (getL_lt hc) (Nat.lt_irrefl _)
    · exact (hs.slots.mono (cx.ext hB)).mono (le_nilLst _)
    · exact (hs.mem.ext hB).nilLst rfl rfl
  · have hrep : ∀ l : List (List UInt8), RepAll (Rep (Imm A0 w0 μ w) w .str) l (l.map fun x => Value.string ⟨x.toArray⟩) := by
      intro l
      induction l with
      | nil => rfl
      | cons x l ih => exact ⟨[_], _, rfl, rfl, ih⟩
    have hm := hs.mem.adoptLst hB hg (Array.getElem?_eq_some_iff.1 hcur).1 (l := ⟨.str, xs⟩) (us := xs.map fun x => Value.string ⟨x.toArray⟩) (rest := cur.toList.drop xs.length) (vs := cur) (c := cap) (.plain rfl (hrep xs)) (by rw [← htk, List.take_append_drop]) (by simp [Ty.size, hsz]) hle ((OwnL.plain (e := .str) rfl).2 ⟨el, hcur⟩) (fun h => by cases h)
    refine ⟨_, ?_, ?_, hm⟩
    · simp only [RepAV, cx]
      refine ⟨by simp, rfl, fun o ho => ?_⟩
      rw [getL_new] at ho; cases ho
      exact (WholeAt.plain (o := ⟨.str, xs⟩) rfl).2 (.inr ⟨g, by simp [Mu.upd, Mu.setCap], by simp [Mu.setCap]⟩)
    · exact hs.slots.mono (le_adopt hB hg _ _)
end
end Go.Pe
end
section
namespace Go.Proofs
open Go.Shelf
def Try.keys32_ren : Go.Shelf.Ren := ⟨fun | 7 => 32 | 10 => 65 | n => n, fun | 23 => 69 | 26 => 9 | 3 => 9 | 28 => 73 | 0 => 0 | 27 => 72 | 33 => 104 | 4 => 4 | n => n, fun | n => n⟩
theorem Try.keys32 : Go.Proofs.SlLaysZ.n7 Try.prog Try.keys32_ren := {
  mixed := by kernel_rfl
  f7 := ⟨Try.f32.name, by decide, Try.func32.trans (congrArg some (by kernel_rfl))⟩
  f10 := ⟨Try.f65.name, by decide, Try.func65.trans (congrArg some (by kernel_rfl))⟩
  t0 := Try.underlying0
  a0 := Try.isAgg0
  z0 := Try.sizeOf0
  v0 := Try.zeroValue0
  t4 := Try.underlying4
  a4 := Try.isAgg4
  z4 := Try.sizeOf4
  v4 := Try.zeroValue4
  t23 := Try.underlying69
  a23 := Try.isAgg69
  z23 := Try.sizeOf69
  v23 := Try.zeroValue69
  t26 := Try.underlying9
  a26 := Try.isAgg9
  z26 := Try.sizeOf9
  v26 := Try.zeroValue9
  t27 := Try.underlying72
  a27 := Try.isAgg72
  z27 := Try.sizeOf72
  v27 := Try.zeroValue72
  t28 := Try.underlying73
  a28 := Try.isAgg73
  z28 := Try.sizeOf73
  v28 := Try.zeroValue73
  t33 := Try.underlying104
  a33 := Try.isAgg104
  z33 := Try.sizeOf104
  v33 := Try.zeroValue104 }
def Try.sorted31_ren : Go.Shelf.Ren := ⟨fun | 6 => 31 | 8 => 63 | 9 => 64 | 11 => 78 | 13 => 80 | 12 => 79 | 23 => 92 | 24 => 93 | 14 => 84 | 15 => 85 | 16 => 86 | 17 => 87 | 18 => 88 | 19 => 89 | 20 => 66 | 21 => 90 | 22 => 91 | 25 => 94 | 26 => 95 | 27 => 96 | 28 => 97 | 29 => 98 | 30 => 81 | 31 => 99 | n => n, fun | 26 => 9 | 28 => 73 | 24 => 23 | 0 => 0 | 3 => 3 | 37 => 77 | 48 => 116 | 50 => 103 | 4 => 4 | 40 => 133 | 39 => 132 | 45 => 75 | 5 => 5 | 9 => 9 | 51 => 140 | 55 => 144 | 57 => 146 | 58 => 61 | 33 => 104 | n => n, fun | n => n⟩
theorem Try.sorted31 : Go.Proofs.SlLaysZ.n6 Try.prog Try.sorted31_ren := {
  mixed := by kernel_rfl
  f6 := ⟨Try.f31.name, by decide, Try.func31.trans (congrArg some (by kernel_rfl))⟩
  f8 := ⟨Try.f63.name, by decide, Try.func63.trans (congrArg some (by kernel_rfl))⟩
  f11 := ⟨Try.f78.name, by decide, Try.func78.trans (congrArg some (by kernel_rfl))⟩
  t0 := Try.underlying0
  a0 := Try.isAgg0
  z0 := Try.sizeOf0
  v0 := Try.zeroValue0
  t24 := Try.underlying23
  a24 := Try.isAgg23
  z24 := Try.sizeOf23
  v24 := Try.zeroValue23
  t26 := Try.underlying9
  a26 := Try.isAgg9
  z26 := Try.sizeOf9
  v26 := Try.zeroValue9
  t28 := Try.underlying73
  a28 := Try.isAgg73
  z28 := Try.sizeOf73
  v28 := Try.zeroValue73
  i26 := by kernel_rfl }
def Try.sort64_ren : Go.Shelf.Ren := ⟨fun | 6 => 64 | 8 => 80 | 9 => 79 | 19 => 92 | 20 => 93 | 21 => 84 | 22 => 85 | 23 => 86 | 24 => 87 | 25 => 88 | 26 => 89 | 27 => 66 | 28 => 90 | 29 => 91 | 36 => 94 | 31 => 95 | 32 => 96 | 37 => 97 | 38 => 98 | 39 => 81 | 41 => 99 | n => n, fun | 27 => 23 | 29 => 9 | 3 => 3 | 32 => 77 | 26 => 23 | 0 => 0 | 44 => 116 | 46 => 103 | 4 => 4 | 36 => 133 | 35 => 132 | 41 => 75 | 5 => 5 | 9 => 9 | 53 => 140 | 57 => 144 | 63 => 146 | 64 => 61 | n => n, fun | n => n⟩
theorem Try.sort64 : Go.Proofs.SlLaysM.n6 Try.prog Try.sort64_ren := {
  mixed := by kernel_rfl
  f6 := ⟨Try.f64.name, by decide, Try.func64.trans (congrArg some (by kernel_rfl))⟩
  f8 := Try.func80.trans (congrArg some (by kernel_rfl))
  f9 := ⟨Try.f79.name, by decide, Try.func79.trans (congrArg some (by kernel_rfl))⟩
  f19 := Try.func92.trans (congrArg some (by kernel_rfl))
  f20 := Try.func93.trans (congrArg some (by kernel_rfl))
  f21 := ⟨Try.f84.name, by decide, Try.func84.trans (congrArg some (by kernel_rfl))⟩
  f22 := ⟨Try.f85.name, by decide, Try.func85.trans (congrArg some (by kernel_rfl))⟩
  f23 := ⟨Try.f86.name, by decide, Try.func86.trans (congrArg some (by kernel_rfl))⟩
  f24 := ⟨Try.f87.name, by decide, Try.func87.trans (congrArg some (by kernel_rfl))⟩
  f25 := ⟨Try.f88.name, by decide, Try.func88.trans (congrArg some (by kernel_rfl))⟩
  f26 := ⟨Try.f89.name, by decide, Try.func89.trans (congrArg some (by kernel_rfl))⟩
  f27 := ⟨Try.f66.name, by decide, Try.func66.trans (congrArg some (by kernel_rfl))⟩
  f28 := ⟨Try.f90.name, by decide, Try.func90.trans (congrArg some (by kernel_rfl))⟩
  f29 := ⟨Try.f91.name, by decide, Try.func91.trans (congrArg some (by kernel_rfl))⟩
  f31 := Try.func95.trans (congrArg some (by kernel_rfl))
  f32 := Try.func96.trans (congrArg some (by kernel_rfl))
  f36 := ⟨Try.f94.name, by decide, Try.func94.trans (congrArg some (by kernel_rfl))⟩
  f37 := ⟨Try.f97.name, by decide, Try.func97.trans (congrArg some (by kernel_rfl))⟩
  f38 := ⟨Try.f98.name, by decide, Try.func98.trans (congrArg some (by kernel_rfl))⟩
  f39 := ⟨Try.f81.name, by decide, Try.func81.trans (congrArg some (by kernel_rfl))⟩
  f41 := ⟨Try.f99.name, by decide, Try.func99.trans (congrArg some (by kernel_rfl))⟩
  t0 := Try.underlying0
  a0 := Try.isAgg0
  z0 := Try.sizeOf0
  v0 := Try.zeroValue0
  t3 := Try.underlying3
  a3 := Try.isAgg3
  z3 := Try.sizeOf3
  v3 := Try.zeroValue3
  t4 := Try.underlying4
  a4 := Try.isAgg4
  z4 := Try.sizeOf4
  v4 := Try.zeroValue4
  t5 := Try.underlying5
  a5 := Try.isAgg5
  z5 := Try.sizeOf5
  v5 := Try.zeroValue5
  t9 := Try.underlying9
  a9 := Try.isAgg9
  z9 := Try.sizeOf9
  v9 := Try.zeroValue9
  t26 := Try.underlying23
  a26 := Try.isAgg23
  z26 := Try.sizeOf23
  v26 := Try.zeroValue23
  t27 := Try.underlying23
  a27 := Try.isAgg23
  z27 := Try.sizeOf23
  v27 := Try.zeroValue23
  t29 := Try.underlying9
  a29 := Try.isAgg9
  z29 := Try.sizeOf9
  v29 := Try.zeroValue9
  t32 := Try.underlying77
  a32 := Try.isAgg77
  z32 := Try.sizeOf77
  v32 := Try.zeroValue77
  t35 := Try.underlying132
  a35 := Try.isAgg132
  z35 := Try.sizeOf132
  v35 := Try.zeroValue132
  t36 := Try.underlying133
  a36 := Try.isAgg133
  z36 := Try.sizeOf133
  v36 := Try.zeroValue133
  t41 := Try.underlying75
  a41 := Try.isAgg75
  z41 := Try.sizeOf75
  v41 := Try.zeroValue75
  t44 := Try.underlying116
  a44 := Try.isAgg116
  z44 := Try.sizeOf116
  v44 := Try.zeroValue116
  t46 := Try.underlying103
  a46 := Try.isAgg103
  z46 := Try.sizeOf103
  v46 := Try.zeroValue103
  t53 := Try.underlying140
  a53 := Try.isAgg140
  z53 := Try.sizeOf140
  v53 := Try.zeroValue140
  t57 := Try.underlying144
  a57 := Try.isAgg144
  z57 := Try.sizeOf144
  v57 := Try.zeroValue144
  t63 := Try.underlying146
  a63 := Try.isAgg146
  z63 := Try.sizeOf146
  v63 := Try.zeroValue146
  t64 := Try.underlying61
  a64 := Try.isAgg61
  z64 := Try.sizeOf61
  v64 := Try.zeroValue61 }
end Go.Proofs
end
section
set_option linter.unusedSectionVars false
set_option linter.unusedVariables false
namespace Go.Pe.Try
instance : GI := ⟨fun _ => True, fun _ _ => trivial, 84, 5⟩
end Go.Pe.Try
end
section
set_option linter.unusedSectionVars false
set_option linter.unusedVariables false
set_option linter.unusedSimpArgs false
namespace Go.Pe.Try
open Go.Proofs Go.RowKit Go.Maps Go.Sort Go.Shelf
open Go.WideElems (Fit rg)
def sortedKeys {β : Type} (l : List (List UInt8 × β)) : List (List UInt8) := (l.map (·.1)).mergeSort fun x y => decide (x ≤ y)
theorem insert_perm {H : Type} (x : Lit × DataW H) : ∀ l : List (Lit × DataW H), (DataW.insert x l).Perm (x :: l)
  | [] => .refl _
  | y :: r => by
    unfold DataW.insert
    split
    · exact .refl _
    · exact ((insert_perm x r).cons y).trans (.swap x y r)
theorem foldr_insert_perm {H : Type} : ∀ l : List (Lit × DataW H), (l.foldr DataW.insert []).Perm l
  | [] => .refl _
  | x :: l => (insert_perm x _).trans ((foldr_insert_perm l).cons x)
theorem sorts31 : AnyZ.SortsIn Try.prog Try.sorted31_ren Fence.wide 4 :=
  ⟨fun blk off cap ss W hH hblk hsz => callsIn_wide.2 (AnyM.slices_Sort_string Try.sort64 blk off cap ss W hH hblk hsz),
   fun p cap W => callsIn_wide.2 (AnyM.slices_Sort_string_none Try.sort64 p cap W)⟩
noncomputable def sortedExt (v : Ty) (ag : Bool) (g : Nat) : Ext := fun st args K => match args with
  | [.fn (.func f) [] [.ptr r 0]] => (match Nat.beq f g with
    | true => (match getL st.recs r with
      | some [.whole q] => (asMap .str v ag st.lsts q).bind fun l => K (.whole st.lsts.length) { st with lsts := st.lsts ++ [some ⟨.str, sortedKeys l⟩] }
      | _ => none)
    | false => none)
  | _ => none
theorem keys_of {A : Nat → Prop} {w : World} {v : Ty} {ag : Bool} {P : Program} {kt : TypeId} (hk : P.underlying kt = some .string) : ∀ {xs : List (List UInt8 × v.den)} {es : List MapEntry}, EntsRep A w .str v ag xs es → (∀ e ∈ es, ∀ s, e.key = .string s → s.size ≤ 4611686018427387904) →
    (∀ e ∈ es, ∃ y, WideElems.rd (H := Unit) P kt (fun _ => some ((.nil : DataW Unit), ([] : List MemPlace))) e = some y) ∧ (es.map (rg P kt (fun _ => some ((.nil : DataW Unit), ([] : List MemPlace))))).map (fun p => Go.strOf p.1) = xs.map (·.1)
  | [], [], _, _ => ⟨fun _ h => by (cases h), rfl⟩
  | [], _ :: _, h, _ => h.elim
  | _ :: _, [], h, _ => h.elim
  | x :: xs, e :: es, h, hs => by
    obtain ⟨h1, h2⟩ := keys_of hk h.2 fun e' he' => hs e' (by simp [he'])
    have hx := h.1.1
    simp only [Rep, List.cons.injEq, and_true] at hx
    have hsz := hs e (by simp) _ hx
    have hko : keyOf P kt e.key = some (.string x.1) := by
      rw [hx]
      simp only [keyOf, mapKey, hk]
      rw [if_pos (by unfold maxLen; omega)]
    have hrd : WideElems.rd (H := Unit) P kt (fun _ => some ((.nil : DataW Unit), ([] : List MemPlace))) e = some (.string x.1, .nil) := by
      simp [WideElems.rd, hko]
    refine ⟨fun e' he' => ?_, ?_⟩
    · rcases List.mem_cons.1 he' with rfl | he'
      · exact ⟨_, hrd⟩
      · exact h1 e' he'
    · simp only [List.map_cons, h2]
      congr 1
      simp [rg, hrd, Go.strOf]
theorem sorted_ok : ExtOk Try.prog 31 (sortedExt .str false 65) := by
  refine ⟨⟨_, Try.func31, by kernel_rfl, by kernel_rfl⟩, ?_⟩
  intro S st args K r h
  unfold sortedExt at h
  dsimp only at h
  split at h
  · rename_i f rr
    split at h
    · rename_i hgb
      have hgg : f = 65 := Nat.eq_of_beq_eq_true hgb
      subst hgg
      split at h
      · rename_i q hq
        obtain ⟨l, hl, h⟩ := Option.bind_eq_some_iff.1 h
        obtain ⟨xs, hqs, rfl⟩ := asMap_ok hl
        refine ⟨_, _, h, ?_⟩
        intro A0 w0 w tmps μ vs hs hrep
        obtain ⟨v1, _, rfl, r1, hn⟩ := hrep.cons'
        obtain rfl := hn.nil
        simp only [RepAV] at r1
        obtain ⟨a', b', rfl, ha, hb⟩ := r1
        have ha' : a' = #[] := by simp only [RepAVs] at ha; exact Array.ext' (by simpa using ha)
        subst ha'
        obtain ⟨pv, hpe, hpv⟩ := hb.one'
        obtain rfl : b' = #[pv] := Array.ext' (by simpa using hpe)
        simp only [RepAV, cx] at hpv
        obtain ⟨bm, hbm, rfl⟩ := hpv.2.2 (by rw [hq]; rfl)
        obtain ⟨bm', vs, hbm', ⟨el, ho⟩, hv⟩ := hs.mem.hrec rr _ hq rfl
        rw [hbm] at hbm'; cases hbm'
        obtain ⟨mv, hme, hmv⟩ := hv.one'
        obtain rfl : vs = #[mv] := Array.ext' (by simpa using hme)
        obtain ⟨bk, es, clock, h1, h2, h3, h4, h5, h6⟩ := map_block hs.mem (k := .str) (v := .str) (ag := false) rfl hqs
        simp only [RepAV, cx] at hmv
        obtain ⟨bk', hbk', rfl⟩ := (WholeAt.map (mapT_isMap .str .str false)).1 (hmv.2.2 _ hqs)
        rw [h1] at hbk'; cases hbk'
        obtain ⟨k1, k2⟩ := keys_of (P := Try.prog) (kt := 9) Try.underlying9 h6 fun e he => (h5 e he).2.2
        have hown : w.ownsMap Try.prog 9 (fun _ => some ((.nil : DataW Unit), ([] : List MemPlace))) bk es.size (.map ((es.toList.map (rg Try.prog 9 (fun _ => some ((.nil : DataW Unit), ([] : List MemPlace))))).foldr DataW.insert [])) :=
          ⟨es, clock, h2, ⟨by unfold maxLen; omega, h3, k1⟩, Nat.le_refl _, rfl⟩
        have hsize : Maps.size (.map ((es.toList.map (rg Try.prog 9 (fun _ => some ((.nil : DataW Unit), ([] : List MemPlace))))).foldr DataW.insert []) : DataW Unit) = es.size := by
          rw [Maps.size_eq, (foldr_insert_perm _).length_eq]; simp
        have hlive := (hs.mem.live _ _ hbm).2.1
        have hcell : w.cell? ⟨bm, 0, none⟩ = some (.map (some bk)) := by
          have : w.heap[bm]? = _ := ho
          simp [World.cell?, this]
        have hseq : SeqGives Fence.wide 2 Try.prog 65 #[.pointer (some ⟨bm, 0, none⟩)] encStr (fun ss => ss.Perm (strKeys (.map ((es.toList.map (rg Try.prog 9 (fun _ => some ((.nil : DataW Unit), ([] : List MemPlace))))).foldr DataW.insert []) : DataW Unit))) (Maps.size (.map ((es.toList.map (rg Try.prog 9 (fun _ => some ((.nil : DataW Unit), ([] : List MemPlace))))).foldr DataW.insert []) : DataW Unit)) w :=
          AnyZ.keys_gives (ρ := Try.keys32_ren) { Try.keys32 with } Fence.wide _ trivial rfl (by omega) bm bk es.size _ w hlive hcell hown
        have hC := AnyZ.sorted_in Try.sorted31 Fence.wide 5 trivial trivial trivial trivial rfl (by omega) sorts31 (enters_of Try.func64 (by kernel_rfl) rfl) 65 #[.pointer (some ⟨bm, 0, none⟩)] trivial (enters_of Try.func65 (by kernel_rfl) rfl) _ _ (by rw [hsize]; unfold maxLen; omega) (by rw [hsize]; omega) w hseq
        refine (callsIn_wide.1 hC).mono ?_
        rintro e w' ⟨v, ss, rfl, hp, hrow, hnil, hB⟩
        have hkeys : ss.Perm (((xs.map (kv false)).map (·.1)) : List (List UInt8)) := by
          refine hp.trans ?_
          rw [← k2]
          exact (foldr_insert_perm _).map _
        have hsort : ss.mergeSort (fun x y => decide (x ≤ y)) = sortedKeys (xs.map (kv false)) := mergeSort_of_perm hkeys
        rw [hsort] at hrow
        have hlen : ss.length = (sortedKeys (xs.map (kv false))).length := by rw [← hsort, List.length_mergeSort]
        obtain ⟨μ', q1, q2⟩ := hs.adoptStrs hB (v := v) (xs := sortedKeys (xs.map (kv false))) (by
          rcases hrow.2 with ⟨rfl, hz⟩ | ⟨g, cap, cur, rfl, hbase, hgb, r1, r2, r3, r4⟩
          · exact .inl ⟨rfl, List.eq_nil_of_length_eq_zero (by omega)⟩
          · exact .inr ⟨g, cap, cur, _, by rw [hlen], hbase, hgb, by omega, by simpa using r3, by rw [← hlen]; simpa using r4⟩)
        exact ⟨v, μ', rfl, q1, q2⟩
      · cases h
    · cases h
  · cases h
end Go.Pe.Try
end
section
namespace Go.Pe
open Go.RowKit
set_option linter.unusedSectionVars false
variable [GI]
set_option linter.unusedVariables false

noncomputable def repeatF (y : argsDen [.one .str, .one (.int .i64)]) : Option (argsDen [.one .str]) :=
  if 0 ≤ y.2.1 ∧ y.2.1 ≤ 9223372036854775807 ∧ y.1.length * y.2.1.toNat ≤ 140737488355328 then some (Lib.repeatL y.1 y.2.1.toNat, ()) else none
theorem repeat_sound {P : Program} {f : Nat} (hfn : ∃ fn, P.funcs[f]? = some fn ∧ (fn.name == "runtime.NumGoroutine") = false ∧ fn.body.isSome = true)
    (h : ∀ (s : ByteArray) (c : Nat) (w : World), c ≤ 9223372036854775807 → s.size * c ≤ 140737488355328 → Calls P f #[.string s, .int .i64 c] w fun e w' => e = .returned (.string ⟨(Lib.repeatL s.data.toList c).toArray⟩) ∧ Below w.heap.size w w') :
    Sound P f (pfun repeatF) := by
  refine ⟨hfn, ?_⟩
  intro S args K r hG A w vs hA hgi hcl hrep
  simp only [pfun, Option.bind_eq_some_iff] at hG
  obtain ⟨⟨s, c, _⟩, hy, z, hz, hK⟩ := hG
  refine ⟨_, hK, encRes_closed _ z, ?_⟩
  have hargs := decArgs_rep hy hrep
  simp only [encArgs, KD.enc] at hargs
  obtain ⟨v1, _, rfl, r1, hargs⟩ := hargs.cons'
  obtain ⟨v2, _, rfl, r2, hargs⟩ := hargs.cons'
  obtain rfl := hargs.nil
  simp only [RepAV, Rep, List.cons.injEq, and_true] at r1 r2
  subst r1; subst r2
  unfold repeatF at hz
  split at hz
  · rename_i hc
    cases hz
    have h0 : (0 : Int) ≤ c := hc.1
    obtain ⟨n, rfl⟩ := Int.eq_ofNat_of_zero_le h0
    have := h ⟨s.toArray⟩ n w (by have h1 : (n : Int) ≤ 9223372036854775807 := hc.2.1; omega) (by simpa [ByteArray.size] using hc.2.2)
    refine this.mono fun e w' ⟨he, hb⟩ => ⟨_, he, hb, ?_⟩
    simp [encRes, encArgs, resVal, KD.enc, RepAV, Rep]
  · cases hz

noncomputable def joinF (y : argsDen [.one (.list .str), .one .str]) : Option (argsDen [.one .str]) :=
  if y.1.length ≤ 140737488355328 ∧ (Lib.join y.1 y.2.1).length ≤ 140737488355328 then some (Lib.join y.1 y.2.1, ()) else none
theorem strs_of {A : Nat → Prop} {w : World} : ∀ {xs : List (List UInt8)} {us : List Value}, RepAll (Rep A w .str) xs us → us = xs.map fun s => Value.string ⟨s.toArray⟩
  | [], _, h => by simpa [RepAll] using h
  | x :: xs, _, ⟨u1, u2, e, h1, h2⟩ => by
    simp only [Rep] at h1
    rw [e, h1, strs_of h2]; rfl
theorem join_sound {P : Program} {f : Nat} (hfn : ∃ fn, P.funcs[f]? = some fn ∧ (fn.name == "runtime.NumGoroutine") = false ∧ fn.body.isSome = true)
    (h0 : ∀ (a : Option Addr) (c : Nat) (sep : ByteArray) (w : World), Calls P f #[.slice a 0 c, .string sep] w fun e w' => e = .returned (.string ⟨#[]⟩) ∧ w' = w)
    (h : ∀ (bk o c : Nat) (xs : List ByteArray) (sep : ByteArray) (w : World) (hcells : ∀ (j : Nat) x, xs[j]? = some x → w.cell? ⟨bk, o + j, none⟩ = some (.string x)) (hbk : bk < w.heap.size) (hN : xs.length ≤ 140737488355328) (hcap : xs.length ≤ c) (hlen : (Lib.join (xs.map (·.data.toList)) sep.data.toList).length ≤ 140737488355328),
      Calls P f #[.slice (some ⟨bk, o, none⟩) xs.length c, .string sep] w fun e w' => e = .returned (.string ⟨(Lib.join (xs.map (·.data.toList)) sep.data.toList).toArray⟩) ∧ Below w.heap.size w w') :
    Sound P f (pfun joinF) := by
  refine ⟨hfn, ?_⟩
  intro S args K r hG A w vs hA hgi hcl hrep
  simp only [pfun, Option.bind_eq_some_iff] at hG
  obtain ⟨⟨xs, sep, _⟩, hy, z, hz, hK⟩ := hG
  refine ⟨_, hK, encRes_closed _ z, ?_⟩
  have hargs := decArgs_rep hy hrep
  simp only [encArgs, KD.enc] at hargs
  obtain ⟨v1, _, rfl, r1, hargs⟩ := hargs.cons'
  obtain ⟨v2, _, rfl, r2, hargs⟩ := hargs.cons'
  obtain rfl := hargs.nil
  simp only [RepAV, Rep, List.cons.injEq, and_true] at r2
  subst r2
  simp only [RepAV] at r1
  obtain ⟨v, e, a, cap, rfl, hcap, hm⟩ := r1
  simp only [List.cons.injEq, and_true] at e
  subst e
  unfold joinF at hz
  split at hz
  · rename_i hc
    cases hz
    rcases hm with rfl | ⟨ad, us, rfl, hsp, hAb, hcells, hall⟩
    · refine (h0 a cap ⟨sep.toArray⟩ w).mono fun e w' ⟨he, hw⟩ => ⟨_, he, hw ▸ Below.refl _ _, ?_⟩
      simp [encRes, encArgs, resVal, KD.enc, RepAV, Rep, Lib.join_nil]
    · have hus := strs_of hall
      have := h ad.block ad.off cap (xs.map fun s => ⟨s.toArray⟩) ⟨sep.toArray⟩ w (fun j x hx => ?_) (hA _ hAb) (by simpa using hc.1) (by simpa using hcap) (by simpa [List.map_map, Function.comp_def] using hc.2)
      · have ead : (⟨ad.block, ad.off, none⟩ : Addr) = ad := by cases ad; simp_all
        rw [ead] at this
        simp only [List.length_map] at this
        refine this.mono fun e w' ⟨he, hb⟩ => ⟨_, he, hb, ?_⟩
        simp [encRes, encArgs, resVal, KD.enc, RepAV, Rep, List.map_map, Function.comp_def]
      · have hj : j < us.length := by
          rw [hus, List.length_map]
          have := (List.getElem?_eq_some_iff.1 hx).1
          simpa using this
        refine (hcells j hj).trans ?_
        rw [hus]
        simpa using hx
  · cases hz
end Go.Pe
end
section
namespace Go.Proofs
open Go.Shelf

def Try.lays156_ren : Go.Shelf.Ren := ⟨fun | 156 => 77 | 165 => 36 | 166 => 37 | 169 => 39 | 240 => 71 | 241 => 72 | 276 => 82 | 277 => 83 | n => n, fun | 31 => 23 | 9 => 9 | 3 => 3 | 4 => 4 | 0 => 0 | 20 => 20 | 72 => 84 | 76 => 88 | 70 => 81 | 37 => 82 | 75 => 87 | 127 => 121 | 164 => 128 | 5 => 5 | 80 => 91 | n => n, fun | n => n⟩
theorem Try.lays156 : Go.Proofs.Lays.n156 Try.prog Try.lays156_ren := {
  mixed := by kernel_rfl
  f156 := Try.func77.trans (congrArg some (by kernel_rfl))
  f165 := Try.func36.trans (congrArg some (by kernel_rfl))
  f166 := Try.func37.trans (congrArg some (by kernel_rfl))
  f169 := Try.func39.trans (congrArg some (by kernel_rfl))
  f240 := Try.func71.trans (congrArg some (by kernel_rfl))
  f241 := Try.func72.trans (congrArg some (by kernel_rfl))
  f276 := Try.func82.trans (congrArg some (by kernel_rfl))
  f277 := Try.func83.trans (congrArg some (by kernel_rfl))
  t0 := Try.underlying0
  a0 := Try.isAgg0
  z0 := Try.sizeOf0
  v0 := Try.zeroValue0
  t3 := Try.underlying3
  a3 := Try.isAgg3
  z3 := Try.sizeOf3
  v3 := Try.zeroValue3
  t4 := Try.underlying4
  a4 := Try.isAgg4
  z4 := Try.sizeOf4
  v4 := Try.zeroValue4
  t9 := Try.underlying9
  a9 := Try.isAgg9
  z9 := Try.sizeOf9
  v9 := Try.zeroValue9
  t20 := Try.underlying20
  a20 := Try.isAgg20
  z20 := Try.sizeOf20
  v20 := Try.zeroValue20
  t31 := Try.underlying23
  a31 := Try.isAgg23
  z31 := Try.sizeOf23
  v31 := Try.zeroValue23
  t37 := Try.underlying82
  a37 := Try.isAgg82
  z37 := Try.sizeOf82
  v37 := Try.zeroValue82
  t70 := Try.underlying81
  a70 := Try.isAgg81
  z70 := Try.sizeOf81
  v70 := Try.zeroValue81
  t72 := Try.underlying84
  a72 := Try.isAgg84
  z72 := Try.sizeOf84
  v72 := Try.zeroValue84
  t75 := Try.underlying87
  a75 := Try.isAgg87
  z75 := Try.sizeOf87
  v75 := Try.zeroValue87
  t76 := Try.underlying88
  a76 := Try.isAgg88
  z76 := Try.sizeOf88
  v76 := Try.zeroValue88
  t127 := Try.underlying121
  a127 := Try.isAgg121
  z127 := Try.sizeOf121
  v127 := Try.zeroValue121
  t164 := Try.underlying128
  a164 := Try.isAgg128
  z164 := Try.sizeOf128
  v164 := Try.zeroValue128 }
theorem Try.Builder_Extra_156 : Builder.Extra Try.prog Try.lays156_ren := {
  sizeBuilder := by kernel_rfl
  liesBuilder := by kernel_rfl
  t5 := Try.underlying5
  a5 := Try.isAgg5
  z5 := Try.sizeOf5
  v5 := Try.zeroValue5
  infoByte := by kernel_rfl
  cellsByte := by kernel_rfl
  sizeByte := by kernel_rfl
  neB5 := by decide }
open Go.RowKit in
theorem Try.strings_Join_none (a : Option Addr) (c : Nat) (sep : ByteArray) (w : World) :
    Calls Try.prog 77 #[.slice a 0 c, .string sep] w fun e w' => e = .returned (.string ⟨#[]⟩) ∧ w' = w := Any.strings_Join_none Try.lays156 Try.Builder_Extra_156 a c sep w
open Go.RowKit in
theorem Try.strings_Join (bk o c : Nat) (xs : List ByteArray) (sep : ByteArray) (w : World) (hcells : ∀ (j : Nat) x, xs[j]? = some x → w.cell? ⟨bk, o + j, none⟩ = some (.string x)) (hbk : bk < w.heap.size) (hN : xs.length ≤ 140737488355328) (hcap : xs.length ≤ c) (hlen : (Lib.join (xs.map (·.data.toList)) sep.data.toList).length ≤ 140737488355328) :
    Calls Try.prog 77 #[.slice (some ⟨bk, o, none⟩) xs.length c, .string sep] w fun e w' => e = .returned (.string ⟨(Lib.join (xs.map (·.data.toList)) sep.data.toList).toArray⟩) ∧ Below w.heap.size w w' := Any.strings_Join Try.lays156 Try.Builder_Extra_156 bk o c xs sep w hcells hbk hN hcap hlen
def Try.lays212_ren : Go.Shelf.Ren := ⟨fun | 212 => 34 | 263 => 68 | 264 => 69 | n => n, fun | 46 => 77 | 51 => 116 | 146 => 117 | 53 => 103 | 148 => 119 | n => n, fun | n => n⟩
theorem Try.lays212 : Go.Proofs.Lays.n212 Try.prog Try.lays212_ren := {
  mixed := by kernel_rfl
  f212 := Try.func34.trans (congrArg some (by kernel_rfl))
  f263 := Try.func68.trans (congrArg some (by kernel_rfl))
  f264 := Try.func69.trans (congrArg some (by kernel_rfl))
  t46 := Try.underlying77
  a46 := Try.isAgg77
  z46 := Try.sizeOf77
  v46 := Try.zeroValue77
  t51 := Try.underlying116
  a51 := Try.isAgg116
  z51 := Try.sizeOf116
  v51 := Try.zeroValue116
  t53 := Try.underlying103
  a53 := Try.isAgg103
  z53 := Try.sizeOf103
  v53 := Try.zeroValue103
  t146 := Try.underlying117
  a146 := Try.isAgg117
  z146 := Try.sizeOf117
  v146 := Try.zeroValue117
  t148 := Try.underlying119
  a148 := Try.isAgg119
  z148 := Try.sizeOf119
  v148 := Try.zeroValue119 }
open Go.RowKit Go.Lib in
theorem Try.bits_Mul (x y : Nat) (hx : x < 18446744073709551616) (hy : y < 18446744073709551616) (w : World) :
    Calls Try.prog 34 #[.int .u64 x, .int .u64 y] w fun e w' => e = .returned (.tuple #[.int .u64 ((x * y / 18446744073709551616 : Nat) : Int), .int .u64 ((x * y % 18446744073709551616 : Nat) : Int)]) ∧ w' = w := Any.bits_Mul Try.lays212 x y hx hy w
def Try.lays105_ren : Go.Shelf.Ren := ⟨fun | 105 => 15 | 212 => 34 | 99 => 35 | 165 => 36 | 166 => 37 | 170 => 38 | 169 => 39 | 263 => 68 | 264 => 69 | 206 => 70 | 240 => 71 | 241 => 72 | 276 => 82 | 277 => 83 | n => n, fun | 9 => 9 | 3 => 3 | 4 => 4 | 20 => 20 | 0 => 0 | 46 => 77 | 109 => 78 | 5 => 5 | 72 => 84 | 76 => 88 | 51 => 116 | 146 => 117 | 53 => 103 | 148 => 119 | 70 => 81 | 37 => 82 | 75 => 87 | 127 => 121 | 164 => 128 | 80 => 91 | n => n, fun | n => n⟩
theorem Try.lays105 : Go.Proofs.Lays.n105 Try.prog Try.lays105_ren := {
  mixed := by kernel_rfl
  f99 := Try.func35.trans (congrArg some (by kernel_rfl))
  f105 := Try.func15.trans (congrArg some (by kernel_rfl))
  f165 := Try.func36.trans (congrArg some (by kernel_rfl))
  f166 := Try.func37.trans (congrArg some (by kernel_rfl))
  f169 := Try.func39.trans (congrArg some (by kernel_rfl))
  f170 := Try.func38.trans (congrArg some (by kernel_rfl))
  f206 := Try.func70.trans (congrArg some (by kernel_rfl))
  f212 := Try.func34.trans (congrArg some (by kernel_rfl))
  f240 := Try.func71.trans (congrArg some (by kernel_rfl))
  f241 := Try.func72.trans (congrArg some (by kernel_rfl))
  f263 := Try.func68.trans (congrArg some (by kernel_rfl))
  f264 := Try.func69.trans (congrArg some (by kernel_rfl))
  f276 := Try.func82.trans (congrArg some (by kernel_rfl))
  f277 := Try.func83.trans (congrArg some (by kernel_rfl))
  t0 := Try.underlying0
  a0 := Try.isAgg0
  z0 := Try.sizeOf0
  v0 := Try.zeroValue0
  t3 := Try.underlying3
  a3 := Try.isAgg3
  z3 := Try.sizeOf3
  v3 := Try.zeroValue3
  t4 := Try.underlying4
  a4 := Try.isAgg4
  z4 := Try.sizeOf4
  v4 := Try.zeroValue4
  t5 := Try.underlying5
  a5 := Try.isAgg5
  z5 := Try.sizeOf5
  v5 := Try.zeroValue5
  t9 := Try.underlying9
  a9 := Try.isAgg9
  z9 := Try.sizeOf9
  v9 := Try.zeroValue9
  t20 := Try.underlying20
  a20 := Try.isAgg20
  z20 := Try.sizeOf20
  v20 := Try.zeroValue20
  t37 := Try.underlying82
  a37 := Try.isAgg82
  z37 := Try.sizeOf82
  v37 := Try.zeroValue82
  t46 := Try.underlying77
  a46 := Try.isAgg77
  z46 := Try.sizeOf77
  v46 := Try.zeroValue77
  t51 := Try.underlying116
  a51 := Try.isAgg116
  z51 := Try.sizeOf116
  v51 := Try.zeroValue116
  t53 := Try.underlying103
  a53 := Try.isAgg103
  z53 := Try.sizeOf103
  v53 := Try.zeroValue103
  t70 := Try.underlying81
  a70 := Try.isAgg81
  z70 := Try.sizeOf81
  v70 := Try.zeroValue81
  t72 := Try.underlying84
  a72 := Try.isAgg84
  z72 := Try.sizeOf84
  v72 := Try.zeroValue84
  t75 := Try.underlying87
  a75 := Try.isAgg87
  z75 := Try.sizeOf87
  v75 := Try.zeroValue87
  t76 := Try.underlying88
  a76 := Try.isAgg88
  z76 := Try.sizeOf88
  v76 := Try.zeroValue88
  t109 := Try.underlying78
  a109 := Try.isAgg78
  z109 := Try.sizeOf78
  v109 := Try.zeroValue78
  t127 := Try.underlying121
  a127 := Try.isAgg121
  z127 := Try.sizeOf121
  v127 := Try.zeroValue121
  t146 := Try.underlying117
  a146 := Try.isAgg117
  z146 := Try.sizeOf117
  v146 := Try.zeroValue117
  t148 := Try.underlying119
  a148 := Try.isAgg119
  z148 := Try.sizeOf119
  v148 := Try.zeroValue119
  t164 := Try.underlying128
  a164 := Try.isAgg128
  z164 := Try.sizeOf128
  v164 := Try.zeroValue128 }
theorem Try.Builder_Extra_105 : Builder.Extra Try.prog Try.lays105_ren := {
  sizeBuilder := by kernel_rfl
  liesBuilder := by kernel_rfl
  t5 := Try.underlying5
  a5 := Try.isAgg5
  z5 := Try.sizeOf5
  v5 := Try.zeroValue5
  infoByte := by kernel_rfl
  cellsByte := by kernel_rfl
  sizeByte := by kernel_rfl
  neB5 := by decide }
open Go.RowKit Go.Lib in
theorem Try.strings_Repeat (s : ByteArray) (c : Nat) (w : World) (hc : c ≤ 9223372036854775807) (hlen : s.size * c ≤ 140737488355328) :
    Calls Try.prog 15 #[.string s, .int .i64 c] w fun e w' => e = .returned (.string ⟨(Lib.repeatL s.data.toList c).toArray⟩) ∧ Below w.heap.size w w' := Any.strings_Repeat Try.lays105 Try.Builder_Extra_105 s c w hc hlen

end Go.Proofs
end
section
set_option linter.unusedSectionVars false
set_option linter.unusedVariables false
set_option linter.unusedSimpArgs false
namespace Go.Pe.Try
open Go.Proofs Go.RowKit
set_option maxRecDepth 100000 in
set_option maxHeartbeats 1000000 in
theorem copy_used (b : Nat) (w : World) (h0 : w.cell? ⟨b, 0, none⟩ = some (.pointer (some ⟨b, 0, none⟩))) :
    Calls Try.prog 71 #[.pointer (some ⟨b, 0, none⟩)] w fun e w' => e = .returned (.tuple #[]) ∧ w' = w := by
  obtain ⟨j, hj, _⟩ := Option.map_eq_some_iff.1 (show (Try.prog.info? 84).map (·.size) = some 2 by kernel_rfl)
  go_enter Try.func71, Try.ntmps71
  go_wp2
  rw [Lib.run_neq_ptr_same _ _ Try.underlying81 hj]
  go_wp2
  go_end0
  exact ⟨rfl, rfl⟩
set_option maxRecDepth 100000 in
set_option maxHeartbeats 1000000 in
theorem copy_fresh (b : Nat) (w : World) (c1 : Value) (hb : w.heap[b]? = some (.cells #[.pointer none, c1] 84 (0, 0))) :
    Calls Try.prog 71 #[.pointer (some ⟨b, 0, none⟩)] w fun e w' => e = .returned (.tuple #[]) ∧ w' = w.setCell ⟨b, 0, none⟩ (.pointer (some ⟨b, 0, none⟩)) := by
  obtain ⟨j, hj, hjs⟩ := Option.map_eq_some_iff.1 (show (Try.prog.info? 84).map (·.size) = some 2 by kernel_rfl)
  have h0 : w.cell? ⟨b, 0, none⟩ = some (.pointer none) := by rw [Lib.cell_of_heap hb]; rfl
  have hsh : w.shape? b = some (84, 2) := by simp [World.shape?, hb]
  have hfz : w.frozen? ⟨b, 0, none⟩ = false := Lib.frozen_of_heap hb 0
  go_enter Try.func71, Try.ntmps71
  go_wp2
  rw [Lib.run_to_unsafe w ⟨b, 0, none⟩ Try.underlying81 Try.underlying128 hj (by rw [hjs]; decide) hsh (Nat.zero_lt_succ 1)]
  simp only [Result.andThen]
  rw [Oper.upon_value]
  go_wp2
  rw [run_callFunc_extern Try.func82 (by kernel_rfl) (by kernel_rfl) (by kernel_rfl) (e := Extern.AbiNoEscape.same) (by kernel_rfl)]
  rw [Lib.run_noEscape]
  simp only [Result.andThen]
  rw [Oper.upon_value]
  go_wp2
  rw [Lib.run_from_unsafe w ⟨b, 0, none⟩ Try.underlying128 Try.underlying81 hj hsh (by kernel_rfl)]
  simp only [Result.andThen]
  rw [Oper.upon_value]
  go_wp2
  go_end0
  exact ⟨rfl, rfl⟩

set_option maxRecDepth 100000 in
set_option maxHeartbeats 1000000 in
theorem str_bytes (b g cap : Nat) (p : Value) (cur : Array Value) (l : List UInt8) (h0 : l ≠ []) (w : World) (hbk : w.heap[b]? = some (.cells #[p, .slice (some ⟨g, 0, none⟩) l.length cap] 84 (0, 0))) (hg : w.heap[g]? = some (.cells cur 5 (0, 0)))
    (hlc : l.length ≤ cur.size) (hcap : l.length ≤ cap) (hn : l.length ≤ 4294967296) (hc : ∀ (j : Nat) x, l[j]? = some x → w.cell? ⟨g, j, none⟩ = some (.int .u8 x.toNat)) :
    Calls Try.prog 39 #[.pointer (some ⟨b, 0, none⟩)] w fun e w' => e = .returned (.string ⟨l.toArray⟩) ∧ w' = w.drew.freeze ⟨g, 0, none⟩ l.length := by
  have hl0 : l.length ≠ 0 := by simpa using h0
  have c1 : w.drew.cell? ⟨b, 1, none⟩ = some (.slice (some ⟨g, 0, none⟩) l.length cap) := by
    have : w.drew.heap[b]? = some (.cells #[p, .slice (some ⟨g, 0, none⟩) l.length cap] 84 (0, 0)) := hbk
    rw [Lib.cell_of_heap this]; rfl
  have hSD : (Builtin.unsafeSliceData_ #[82] 121 #[.slice (some ⟨g, 0, none⟩) l.length cap]).run Try.prog w.drew = .ok (.pointer (some ⟨g, 0, none⟩)) w.drew :=
    Lib.run_unsafeSliceData_row _ _ _ _ _ _ (by omega)
  have hUS : (Builtin.unsafeString_ #[121, 3] 9 #[.pointer (some ⟨g, 0, none⟩), .int .i64 l.length]).run Try.prog w.drew = .ok (.string ⟨l.toArray⟩) (w.drew.freeze ⟨g, 0, none⟩ l.length) := by
    refine Lib.run_unsafeString_row w.drew 121 3 9 5 Try.underlying121 (by kernel_rfl) g cur.size (by have hg' : w.drew.heap[g]? = some (.cells cur 5 (0, 0)) := hg; simp [World.shape?, hg']) l h0 (by omega) (by omega) ?_
    intro j x hx
    have e : (⟨g, 0, none⟩ : Addr).add j = ⟨g, j, none⟩ := by unfold Addr.add; split <;> simp_all
    rw [e]; exact hc j x hx
  clear hc hg
  go_enter Try.func39, Try.ntmps39
  go_wp2
  go_region
  all_goals (go_wp2; go_ret; exact ⟨rfl, rfl⟩)
set_option maxRecDepth 100000 in
set_option maxHeartbeats 2000000 in
theorem str_nil (b : Nat) (p : Value) (w : World) (hbk : w.heap[b]? = some (.cells #[p, .slice none 0 0] 84 (0, 0))) :
    Calls Try.prog 39 #[.pointer (some ⟨b, 0, none⟩)] w fun e w' => e = .returned (.string ⟨#[]⟩) ∧ w' = w.drew := by
  have hUS : ∀ q, (Builtin.unsafeString_ #[121, 3] 9 #[.pointer q, .int .i64 0]).run Try.prog w.drew = .ok (.string .empty) w.drew := fun q => Lib.run_unsafeString_none _ 121 3 9 q
  have c1 : w.drew.cell? ⟨b, 1, none⟩ = some (.slice none 0 0) := by
    have : w.drew.heap[b]? = some (.cells #[p, .slice none 0 0] 84 (0, 0)) := hbk
    rw [Lib.cell_of_heap this]; rfl
  have hSD : (Builtin.unsafeSliceData_ #[82] 121 #[.slice none 0 0]).run Try.prog w.drew = .ok (.pointer none) w.drew := rfl
  go_enter Try.func39, Try.ntmps39
  go_wp2
  go_region
  all_goals (go_wp2; go_ret; exact ⟨rfl, rfl⟩)
set_option maxRecDepth 100000 in
set_option maxHeartbeats 2000000 in
theorem str_room (b g cap : Nat) (p : Value) (w : World) (hc0 : cap ≠ 0) (hbk : w.heap[b]? = some (.cells #[p, .slice (some ⟨g, 0, none⟩) 0 cap] 84 (0, 0))) :
    Calls Try.prog 39 #[.pointer (some ⟨b, 0, none⟩)] w fun e w' => e = .returned (.string ⟨#[]⟩) ∧ w' = w.drew := by
  have hUS : ∀ q, (Builtin.unsafeString_ #[121, 3] 9 #[.pointer q, .int .i64 0]).run Try.prog w.drew = .ok (.string .empty) w.drew := fun q => Lib.run_unsafeString_none _ 121 3 9 q
  have c1 : w.drew.cell? ⟨b, 1, none⟩ = some (.slice (some ⟨g, 0, none⟩) 0 cap) := by
    have : w.drew.heap[b]? = some (.cells #[p, .slice (some ⟨g, 0, none⟩) 0 cap] 84 (0, 0)) := hbk
    rw [Lib.cell_of_heap this]; rfl
  have hSD : (Builtin.unsafeSliceData_ #[82] 121 #[.slice (some ⟨g, 0, none⟩) 0 cap]).run Try.prog w.drew = .ok (.pointer (some ⟨g, 0, none⟩)) w.drew :=
    Lib.run_unsafeSliceData_row _ _ _ _ _ _ hc0
  clear hc0
  go_enter Try.func39, Try.ntmps39
  go_wp2
  go_region
  all_goals (go_wp2; go_ret; exact ⟨rfl, rfl⟩)
set_option maxRecDepth 100000 in
set_option maxHeartbeats 2000000 in
theorem str_noroom (b g : Nat) (p : Value) (cur : Array Value) (w : World) (hbk : w.heap[b]? = some (.cells #[p, .slice (some ⟨g, 0, none⟩) 0 0] 84 (0, 0))) (hg : w.heap[g]? = some (.cells cur 5 (0, 0))) :
    Calls Try.prog 39 #[.pointer (some ⟨b, 0, none⟩)] w fun e w' => e = .returned (.string ⟨#[]⟩) ∧ w' = w.drew.alloc (.view ⟨g, 0, none⟩ 5) := by
  have hUS : ∀ W q, (Builtin.unsafeString_ #[121, 3] 9 #[.pointer q, .int .i64 0]).run Try.prog W = .ok (.string .empty) W := fun W q => Lib.run_unsafeString_none _ 121 3 9 q
  have hlt : b < w.heap.size := (Array.getElem?_eq_some_iff.1 hbk).1
  have c1 : w.drew.cell? ⟨b, 1, none⟩ = some (.slice (some ⟨g, 0, none⟩) 0 0) := by
    have : w.drew.heap[b]? = some (.cells #[p, .slice (some ⟨g, 0, none⟩) 0 0] 84 (0, 0)) := hbk
    rw [Lib.cell_of_heap this]; rfl
  have hSD : (Builtin.unsafeSliceData_ #[82] 121 #[.slice (some ⟨g, 0, none⟩) 0 0]).run Try.prog w.drew = .ok (.pointer (some ⟨w.drew.heap.size, 0, none⟩)) (w.drew.alloc (.view ⟨g, 0, none⟩ 5)) :=
    Lib.run_unsafeSliceData_zero _ #[82] 121 5 Try.underlying121 ⟨g, 0, none⟩ 0 (5, cur.size) (by have hg' : w.drew.heap[g]? = some (.cells cur 5 (0, 0)) := hg; simp [World.shape?, hg'])
  have c2 : (w.drew.alloc (.view ⟨g, 0, none⟩ 5)).cell? ⟨b, 1, none⟩ = some (.slice (some ⟨g, 0, none⟩) 0 0) := by
    have : (w.drew.alloc (.view ⟨g, 0, none⟩ 5)).heap[b]? = _ := (Lib.alloc_old w.drew _ b hlt).trans hbk
    rw [Lib.cell_of_heap this]; rfl
  have c3 : w.cell? ⟨b, 1, none⟩ = some (.slice (some ⟨g, 0, none⟩) 0 0) := c1
  have c4 : (w.alloc (.view ⟨g, 0, none⟩ 5)).drew.cell? ⟨b, 1, none⟩ = some (.slice (some ⟨g, 0, none⟩) 0 0) := c2
  clear hg
  go_enter Try.func39, Try.ntmps39
  go_wp2
  go_region
  all_goals (go_wp2; go_ret; exact ⟨rfl, rfl⟩)
end Go.Pe.Try
end
section
set_option linter.unusedSectionVars false
set_option linter.unusedVariables false
set_option linter.unusedSimpArgs false
namespace Go.Pe.Try
open Go.Proofs Go.RowKit
@[reducible] def h71_I : Shape := ⟨[.ptr 0 0], [some [.bld 0, .whole 0]], [some (.int .u8)]⟩
@[reducible] def h71_O : Shape := ⟨[], [some [.bld 0, .whole 0]], [some (.int .u8)]⟩
@[reducible] def h71_F (y : h71_I.den) : Option h71_O.den := some ((), y.2)
@[reducible] def h39_I : Shape := ⟨[.ptr 0 0], [some [.bld 0, .whole 0]], [some (.int .u8)]⟩
@[reducible] def h39_O : Shape := ⟨[.hole .str], [none], [none]⟩
@[reducible] def h39_F (y : h39_I.den) : Option h39_O.den := if bytesOf (strOf y.2.2.1) = y.2.2.1 ∧ y.2.2.1.length ≤ 4294967296 then some ((strOf y.2.2.1, ()), (), ()) else none
theorem bld_block {A0 : Dom} {w0 w : World} {st : St} {tmps : Array Value} {μ : Mu} (hs : Sim A0 w0 st tmps w μ) {l : List Int} (h0 : getL st.recs 0 = some [.bld 0, .whole 0]) (h1 : getL st.lsts 0 = some ⟨.int .u8, l⟩) :
    ∃ b p v, μ.at_ (.r 0) = some b ∧ w.heap[b]? = some (.cells #[p, v] 84 (0, 0)) ∧ (p = .pointer none ∨ p = .pointer (some ⟨b, 0, none⟩)) ∧ RepAV (cx A0 w0 st.recs st.lsts w μ) (.whole 0) v ∧ WholeAt0 μ 0 ⟨.int .u8, l⟩ v := by
  obtain ⟨b, vs, hb, ⟨el, ho⟩, hv⟩ := hs.mem.hrec 0 _ h0 rfl
  obtain ⟨vs2, h2⟩ := hs.mem.bty.r 0 _ h0 rfl b hb
  rw [ho] at h2; cases h2
  obtain ⟨p, _, e1, r1, hv⟩ := hv.cons'
  obtain ⟨v, _, rfl, r2, hv⟩ := hv.cons'
  obtain rfl := hv.nil
  have hvs : vs = #[p, v] := by apply Array.ext'; simpa using e1
  subst hvs
  have r2' := r2
  simp only [RepAV, cx] at r1 r2'
  obtain ⟨b', hb', hp⟩ := r1.2.2 (by rw [h0]; rfl)
  rw [hb] at hb'; cases hb'
  exact ⟨b, p, v, hb, ho, hp, r2, (WholeAt.plain (o := ⟨.int .u8, l⟩) rfl).1 (r2'.2.2 _ h1)⟩
theorem copy_ok : SoundH Try.prog 71 ⟨h71_I, h71_O, h71_F⟩ := by
  refine ⟨⟨_, Try.func71, by kernel_rfl, by kernel_rfl⟩, ?_⟩
  intro y o hF A0 w0 w vs μ hs
  simp only [Option.some.injEq] at hF; subst hF
  obtain ⟨b, p, v, hb, hh, hp, hv, hw⟩ := bld_block hs (l := y.2.2.1) rfl rfl
  obtain ⟨x, _, e, hx, hn⟩ := hs.slots.cons'
  obtain rfl := hn.nil
  simp only [fillA, RepAV, cx] at hx
  obtain ⟨b', hb', rfl⟩ := hx.2.2 rfl
  rw [hb] at hb'; cases hb'
  have hvs : vs = [.pointer (some ⟨b, 0, none⟩)] := by simpa using e
  subst hvs
  rcases hp with rfl | rfl
  · refine (copy_fresh b w v hh).mono ?_
    rintro e w' ⟨rfl, rfl⟩
    refine ⟨[], μ, rfl, ?_, ?_⟩
    · simp [fill, fillL, RepAVs]
    · rw [setCell_eq_setRow w b 0 _ 84 (0, 0) _ hh]
      exact hs.mem.setRec (r := 0) (cells := [.bld 0, .whole 0]) (cells' := [.bld 0, .whole 0]) rfl hb ⟨84, hh⟩ (by
        refine RepAVs.cons ?_ (RepAVs.cons hv (by simp [RepAVs]))
        simp only [RepAV, cx]
        exact ⟨by simp [fill, fillR], rfl, fun _ => ⟨b, hb, .inr rfl⟩⟩) (fun h => h)
  · refine (copy_used b w (by rw [Lib.cell_of_heap hh]; rfl)).mono ?_
    rintro e w' ⟨rfl, rfl⟩
    exact ⟨[], μ, rfl, by simp [fill, fillL, RepAVs], hs.mem⟩
theorem freeze_other {w : World} {g n k : Nat} (h : k ≠ g) : (w.freeze ⟨g, 0, none⟩ n).heap[k]? = w.heap[k]? := by
  unfold World.freeze
  split
  · rfl
  · simp [Array.getElem?_modify, Ne.symm h]
theorem freeze_size {w : World} {a : Addr} {n : Nat} : (w.freeze a n).heap.size = w.heap.size := by
  unfold World.freeze
  split <;> simp
theorem str_post {A0 : Dom} {w0 w : World} {l : List Int} {tmps : Array Value} {μ : Mu} (hs : Sim A0 w0 (fill h39_I (((), ()), (((), (), ()), ()), (l, ()))) tmps w μ) {w' : World} (s : List UInt8) (hsz : w.heap.size ≤ w'.heap.size) (hb : Below w0.heap.size w w')
    (hk : ∀ k, k < w.heap.size → (∀ x, μ.at_ x ≠ some k) → w'.heap[k]? = w.heap[k]?) : Sim A0 w0 (fill h39_O ((s, ()), (), ())) #[.string ⟨s.toArray⟩] w' ⟨fun _ => none, fun _ => 0, none⟩ := by
  have hm := hs.mem
  refine ⟨?_, ?_, ?_, (fun x b hx => by cases hx), (fun x y b hx => by cases hx), hm.below.trans hb, ?_, ?_, hm.np, ?_, hm.gi, ?_, (fun r c h => by cases r <;> simp [fill, fillR, getL] at h), (fun d h => by cases h), hm.pinl.of (by have := hm.pinl.1; simpa [fill, fillT] using this) (fun t o ht h => by cases t <;> simp [fill, fillT, getL] at h)⟩
  · simp [fill, fillL, fillA, RepAVs, RepAV, Rep]
  · intro r cells h _
    cases r <;> simp [fill, fillR, getL] at h
  · intro r o h
    cases r <;> simp [fill, fillT, getL] at h
  · intro b hF
    obtain ⟨h1, h2, h3⟩ := hm.fr b hF
    exact ⟨by omega, (hk b h1 h3).trans h2, fun x hx => by cases hx⟩
  · intro b hX
    obtain ⟨h1, h2⟩ := hm.xo b hX
    exact ⟨by omega, fun x hx => by cases hx⟩
  · intro r b h
    obtain ⟨h1, h2⟩ := hm.pins r b h
    exact ⟨h1, fun h3 => by cases r <;> simp [fill, fillR, getL] at h3⟩
  · exact ⟨fun r c h => by cases r <;> simp [fill, fillR, getL] at h, fun r o h => by cases r <;> simp [fill, fillT, getL] at h⟩
theorem u8s {A : Nat → Prop} {w : World} : ∀ {xs : List Int} {us : List Value}, RepAll (Rep A w (.int .u8)) xs us → us = xs.map fun n => Value.int .u8 n
  | [], _, h => by simpa [RepAll] using h
  | x :: xs, _, ⟨u1, u2, e, h1, h2⟩ => by
    simp only [Rep] at h1
    rw [e, h1, u8s h2]; rfl
theorem str_ok : SoundH Try.prog 39 ⟨h39_I, h39_O, h39_F⟩ := by
  refine ⟨⟨_, Try.func39, by kernel_rfl, by kernel_rfl⟩, ?_⟩
  intro y o hF A0 w0 w vs μ hs
  obtain ⟨⟨⟨⟩, ⟨⟩⟩, ⟨⟨⟨⟩, ⟨⟩, ⟨⟩⟩, ⟨⟩⟩, l, ⟨⟩⟩ := y
  obtain ⟨b, p, v, hb, hh, hp, hv, hw⟩ := bld_block hs (l := l) rfl rfl
  obtain ⟨x, _, e, hx, hn⟩ := hs.slots.cons'
  obtain rfl := hn.nil
  simp only [fillA, RepAV, cx] at hx
  obtain ⟨b', hb', rfl⟩ := hx.2.2 rfl
  rw [hb] at hb'; cases hb'
  have hvs : vs = [.pointer (some ⟨b, 0, none⟩)] := by simpa using e
  subst hvs
  simp only [h39_F] at hF
  split at hF
  · rename_i hc
    obtain ⟨hc, hlen⟩ := hc
    cases hF
    have fin : ∀ {e : Ending} {w' : World}, e = .returned (.string ⟨(strOf l).toArray⟩) → w.heap.size ≤ w'.heap.size → Below w0.heap.size w w' → (∀ k, k < w.heap.size → (∀ x, μ.at_ x ≠ some k) → w'.heap[k]? = w.heap[k]?) →
        ∃ us μ', e = .returned (retVal us) ∧ Sim A0 w0 (fill h39_O ((strOf l, ()), (), ())) us.toArray w' μ' := fun he h1 h2 h3 =>
      ⟨[.string ⟨(strOf l).toArray⟩], _, by rw [he]; rfl, str_post hs (strOf l) h1 h2 h3⟩
    rcases hw with ⟨hat, rfl⟩ | ⟨g, hg, rfl⟩
    · rcases (LstAt.plain (o := ⟨.int .u8, l⟩) rfl).1 (hs.mem.hlst 0 _ (show getL _ 0 = some (⟨.int .u8, l⟩ : LObj) from rfl)) with ⟨_, h2⟩ | ⟨g, _, h2, _⟩
      · simp only at h2; subst h2
        refine (str_nil b p w hh).mono ?_
        rintro e w' ⟨rfl, rfl⟩
        exact fin rfl (Nat.le_refl _) (Below.drew (Below.refl _ w)) fun k _ _ => rfl
      · rw [show (cx A0 w0 _ _ w μ).μ.at_ (.l 0) = μ.at_ (.l 0) from rfl, hat] at h2; cases h2
    · rcases (LstAt.plain (o := ⟨.int .u8, l⟩) rfl).1 (hs.mem.hlst 0 _ (show getL _ 0 = some (⟨.int .u8, l⟩ : LObj) from rfl)) with ⟨h2, _⟩ | ⟨g', cs, h2, hown, hsz, hcap, us, rest, e1, hr⟩
      · rw [show (cx A0 w0 _ _ w μ).μ.at_ (.l 0) = μ.at_ (.l 0) from rfl, hg] at h2; cases h2
      · rw [show (cx A0 w0 _ _ w μ).μ.at_ (.l 0) = μ.at_ (.l 0) from rfl, hg] at h2; cases h2
        obtain ⟨cs2, hg2⟩ := hs.mem.bty.l 0 _ (show getL _ 0 = some (⟨.int .u8, l⟩ : LObj) from rfl) rfl g hg
        obtain ⟨el, hg3⟩ := hown
        have hg4 : w.heap[g]? = some (.cells cs el (0, 0)) := hg3
        rw [hg4] at hg2; cases hg2
        have hus := u8s hr
        have hul : us.length = l.length := by rw [hus]; simp
        have hsz' : cs.size = μ.cap 0 := (show cs.size = μ.cap 0 * 1 from hsz).trans (Nat.mul_one _)
        have hcap' : l.length ≤ μ.cap 0 := hcap
        have hlive := hs.mem.live _ _ hg
        by_cases h0 : l = []
        · subst h0
          by_cases hc0 : μ.cap 0 = 0
          · have hh' := hh
            rw [hc0] at hh'
            refine (str_noroom b g p cs w hh' hg4).mono ?_
            rintro e w' ⟨rfl, rfl⟩
            refine fin rfl ((Below.drew (Below.refl w.heap.size w)).alloc (Nat.le_refl _) (.view ⟨g, 0, none⟩ 5)).size ((Below.drew (Below.refl _ w)).alloc hs.mem.below.size _) fun k hk _ => (Lib.alloc_old w.drew _ k hk)
          · refine (str_room b g _ p w hc0 hh).mono ?_
            rintro e w' ⟨rfl, rfl⟩
            exact fin rfl (Nat.le_refl _) (Below.drew (Below.refl _ w)) fun k _ _ => rfl
        · have hsl : (strOf l).length = l.length := by
            have := congrArg List.length hc
            simpa [bytesOf] using this
          have hne : strOf l ≠ [] := by intro e; rw [e] at hsl; exact h0 (List.eq_nil_of_length_eq_zero hsl.symm)
          rw [← hsl] at hh hcap' hlen
          refine (str_bytes b g _ p cs (strOf l) hne w hh hg4 (by rw [hsz']; exact hcap') hcap' hlen fun j x hx => ?_).mono ?_
          · rw [Lib.cell_of_heap hg4, ← Array.getElem?_toList, e1]
            have hj : j < l.length := by rw [← hsl]; exact (List.getElem?_eq_some_iff.1 hx).1
            have hx2 : (bytesOf (strOf l))[j]? = some (x.toNat : Int) := by simp only [bytesOf, List.getElem?_map, hx]; rfl
            rw [hc] at hx2
            rw [List.getElem?_append_left (by omega), hus, List.getElem?_map, hx2]; rfl
          · rintro e w' ⟨rfl, rfl⟩
            refine fin rfl (by rw [freeze_size]; exact Nat.le_refl _) (Lib.below_freeze (Below.drew (Below.refl _ w)) (p := ⟨g, 0, none⟩) hlive.1 _) fun k hk hx => freeze_other (w := w.drew) (fun e => hx (.l 0) (by rw [e]; exact hg))
  · cases hF
theorem repeat_ok : Sound Try.prog 15 (pfun repeatF) := repeat_sound ⟨_, Try.func15, by kernel_rfl, by kernel_rfl⟩ fun s c w h1 h2 => Try.strings_Repeat s c w h1 h2
theorem join_ok : Sound Try.prog 77 (pfun joinF) := join_sound ⟨_, Try.func77, by kernel_rfl, by kernel_rfl⟩ (fun a c sep w => Try.strings_Join_none a c sep w) fun bk o c xs sep w h1 h2 h3 h4 h5 => Try.strings_Join bk o c xs sep w h1 h2 h3 h4 h5
end Go.Pe.Try
end
section
set_option linter.unusedSectionVars false
set_option linter.unusedVariables false
set_option linter.unusedSimpArgs false
namespace Go.Pe.Try
open Go.Proofs Go.RowKit
def RepsPost (s : ByteArray) (n : Nat) (w : World) (e : Ending) (w' : World) : Prop := ∃ g t, e = .returned (.slice (some ⟨g, 0, none⟩) n n) ∧ Below w.heap.size w w' ∧ w.heap.size ≤ g ∧ g < w'.heap.size ∧ w'.heap[g]? = some (.cells (List.replicate n (Value.string s)).toArray t (0,0))
theorem mul_one (n : Nat) (hn : n ≤ 1000000) (w : World) : Calls Try.prog 34 #[.int .u64 1, .int .u64 (n : Int)] w fun e w' => e = .returned (.tuple #[.int .u64 0, .int .u64 (n : Int)]) ∧ w' = w := by
  refine (Try.bits_Mul 1 n (by omega) (by omega) w).mono ?_
  rintro e w' ⟨rfl, rfl⟩
  refine ⟨?_, rfl⟩
  have e1 : (1 * n / 18446744073709551616 : Nat) = 0 := by omega
  have e2 : (1 * n % 18446744073709551616 : Nat) = n := by omega
  rw [e1, e2]; rfl
def Row (s : ByteArray) (g n k : Nat) (t : TypeId) (w : World) : Prop := ∃ rest : List Value, rest.length = n - k ∧ w.heap[g]? = some (.cells (List.replicate k (Value.string s) ++ rest).toArray t (0,0))
theorem made_row {w' w1 : World} {n : Nat} {xs : List Value} (h : w1.ownsRow 0 9 1 (Value.slice (some { block := w'.heap.size, off := 0 }) n n) n xs) : ∃ L : List Value, L.length = n ∧ w1.heap[w'.heap.size]? = some (.cells L.toArray 9 (0, 0)) := by
  obtain ⟨_, h | ⟨g, cap, cur, e, _, hh, _, _, hs, _⟩⟩ := h
  · cases h.1
  · cases e
    exact ⟨cur.toList, by simpa using hs, by simpa using hh⟩
theorem row_first {s : ByteArray} {g n : Nat} {t : TypeId} {w : World} {L : List Value} (hL : L.length = n) (h1 : 1 ≤ n) (h : Hid (w.heap[g]? = some (.cells (Go.splice L 0 [Value.string s]).toArray t (0,0)))) : Row s g n 1 t w :=
  ⟨L.drop 1, by simp [hL], h.trans (by simp [Go.splice])⟩
theorem row_more {s : ByteArray} {g n k : Nat} {t : TypeId} {w : World} {rest : List Value} (hr : rest.length = n - k) (hk : k < n) (h : Hid (w.heap[g]? = some (.cells (Go.splice (List.replicate k (Value.string s) ++ rest) k (List.replicate (min k (n - k)) (Value.string s))).toArray t (0,0)))) : Row s g n (k + min k (n - k)) t w := by
  refine ⟨rest.drop (min k (n - k)), by simp [hr]; omega, h.trans ?_⟩
  have e := List.replicate_append_replicate (n := k) (m := min k (n - k)) (a := Value.string s)
  simp only [Go.splice, List.length_replicate, List.take_left', List.drop_append, Nat.add_sub_cancel_left]
  simp
  rw [← List.append_assoc, e]
theorem addr0 (bk o : Nat) : (⟨bk, o, none⟩ : Addr).add 0 = ⟨bk, o, none⟩ := by simp [Addr.add]
theorem src_cells {s : ByteArray} {g n k : Nat} {t : TypeId} {w : World} {rest : List Value} (h : w.heap[g]? = some (.cells (List.replicate k (Value.string s) ++ rest).toArray t (0,0))) (j : Nat) (v : Value) (hv : (List.replicate (Nat.min k (n - k)) (Value.string s))[j]? = some v) : w.cell? ((⟨g, 0, none⟩ : Addr).add j) = some v := by
  have hj : j < Nat.min k (n - k) := by have := (List.getElem?_eq_some_iff.1 hv).1; simpa using this
  have e : (⟨g, 0, none⟩ : Addr).add j = ⟨g, j, none⟩ := by unfold Addr.add; split <;> simp_all
  rw [e]
  have hv2 : v = .string s := List.eq_of_mem_replicate (List.mem_of_getElem? hv)
  have hj2 : j < k := Nat.lt_of_lt_of_le hj (Nat.min_le_left _ _)
  simp [World.cell?, h, hv2, List.getElem?_append_left, hj2]
theorem rep_len (s : ByteArray) (m : Nat) : (List.replicate m (Value.string s)).length = m := List.length_replicate
theorem rep_fit (s : ByteArray) (k n : Nat) (rest : List Value) (h : rest.length = n - k) (hk : k < n) : k + (List.replicate (Nat.min k (n - k)) (Value.string s)).length ≤ (List.replicate k (Value.string s) ++ rest).length := by
  rw [rep_len, List.length_append, rep_len]
  exact Nat.add_le_add_left (h ▸ Nat.min_le_right k (n - k)) k
theorem rep_one (s : ByteArray) (m : Nat) : ∀ v ∈ List.replicate m (Value.string s), v.oneCell' = true := fun v hv => by rw [List.eq_of_mem_replicate hv]; rfl
theorem if_k (G n k : Nat) (h : k < n) : (if n = k then some (⟨G, 0, none⟩ : Addr) else some ⟨G, k, none⟩) = some ⟨G, k, none⟩ := if_neg (by omega)
theorem wrap_k {k n m : Nat} (hm : m ≤ k) (h : k ≤ n) (hn : n ≤ 1000000) : IntKind.i64.wrap ((k : Int) + (m : Int)) = ((k + m : Nat) : Int) := by
  rw [IntWalk.i64_in _ (by omega)]; omega
set_option maxRecDepth 100000 in
set_option maxHeartbeats 1000000 in
theorem reps_calls (bk o c n : Nat) (s : ByteArray) (w : World) (hc : w.cell? ⟨bk, o, none⟩ = some (.string s)) (hbk : bk < w.heap.size) (h1 : 1 ≤ n) (hn : n ≤ 1000000) (hcc : 1 ≤ c) :
    Calls Try.prog 51 #[.slice (some ⟨bk, o, none⟩) 1 c, .int .i64 (n : Int)] w (RepsPost s n w) := by
  obtain ⟨i, hi1, hi2, hi3, hi4⟩ := info_parts (P := Try.prog) (e := 9) (z := .string ByteArray.empty) (size := 1) (bytes := 16) (by kernel_rfl)
  have hsz : (Try.prog.info? 9).map (·.size) = some 1 := by rw [hi1]; simp [hi3]
  go_enter Try.func51, Try.ntmps51
  go_wp2_with (first | (go_at_call 34; refine (mul_one n hn _).mono ?_; rintro e w' ⟨rfl, rfl⟩) | (at_make; (refine wpList_make_full _ rfl _ _ 23 rfl 0 9 i _ 1 Try.underlying23 hi1 hi2 hi3 .i64 .i64 _ _ n rfl rfl rfl rfl (by rw [hi4]; omega) (by unfold maxLen; omega) (by omega) ?_)))
  intro w1 hr hg
  obtain ⟨W, hWW⟩ : ∃ W, W = w' := ⟨_, rfl⟩
  subst hWW
  obtain ⟨L, hL, hH⟩ := made_row hr
  have hB : Below W.heap.size W w1 := (Below.refl _ W).grown hg (Nat.le_refl _) (fun k hk => by cases hk)
  have hc1 : w1.cell? ⟨bk, o, none⟩ = some (.string s) := by rw [hB.cell (p := ⟨bk, o, none⟩) hbk]; exact hc
  have hc0 : w1.cell? ((⟨bk, o, none⟩ : Addr).add 0) = some (.string s) := by rw [addr0]; exact hc1
  have hgz : W.heap.size < w1.heap.size := (Array.getElem?_eq_some_iff.1 hH).1
  have HH := Lib.hid hH
  have HL := Lib.hid hL
  clear hH hL hr hg hsz
  generalize hG : W.heap.size = G at *
  have HGG := Lib.hid hG
  clear hG
  go_wp2_with (((refine wpList_copy_splice rfl (.tmp 31) (.tmp 32) 23 23 rfl 9 Try.underlying23 (by rw [hi1]; simp [hi3]) _ _ n n 1 c rfl rfl G 0 L 9 HH.out [.string s] (Nat.min_eq_left h1).symm (fun _ => ⟨rfl, _, rfl, fun j v hv => by cases j with | zero => (simp at hv; subst hv; exact hc0) | succ j => simp at hv⟩) (by rw [HL.out]; simpa using h1) (by intro v hv; simp at hv; subst hv; rfl) G W hB (Nat.le_refl _) ?_)); intro w2 HG2 hB2)
  have hR2 := row_first HL.out h1 HG2
  clear HG2 HH HL hc1 hc0 hgz hB hc hbk hi2 hi4
  go_loopw [8] (fun i wr => ∃ k : Nat, 1 ≤ k ∧ k ≤ n ∧ i = .int .i64 k ∧ Row s G n k 9 wr ∧ Below G W wr) (fun i _ => n - (Go.RowKit.intOf i).toNat)
  case atStart => exact ⟨1, by omega, by omega, rfl, hR2, hB2⟩
  case round =>
    obtain ⟨k, hk1, hk2, rfl, ⟨rest, hrest, hrow⟩, hBk⟩ := hrel
    have HR := Lib.hid hrow
    have HL2 := Lib.hid hrest
    clear hrow hrest
    by_cases hlt : k < n
    · have A1 := Lib.hid (rep_len s (Nat.min k (n - k)))
      have A2 := Lib.hid (rep_fit s k n rest HL2.out hlt)
      have A3 := Lib.hid (rep_one s (Nat.min k (n - k)))
      have A4 := Lib.hid (src_cells (n := n) HR.out)
      have A5 := Lib.hid (if_k G n k hlt)
      have A6 : Below G W wr.drew := ⟨hBk.os, hBk.tape, hBk.output, hBk.size, hBk.block⟩
      have A7 : Hid (wr.drew.heap[G]? = some (.cells (List.replicate k (Value.string s) ++ rest).toArray 9 (0,0))) := HR
      have hw1 := Lib.hid (wrap_k (Nat.min_le_left k (n - k)) hk2 hn)
      have HL2x := HL2
      clear HR HL2
      generalize hE : List.replicate (Nat.min k (n - k)) (Value.string s) = cs at A1 A2 A3 A4
      have HE := Lib.hid hE
      have HL3 := HL2x
      clear hE
      go_wp2
      go_region_law ((refine step_copy_splice rfl (.tmp 41) (.tmp 44) 23 23 rfl 9 Try.underlying23 (by rw [hi1]; simp [hi3]) (if n = k then some ⟨G, 0, none⟩ else some ⟨G, k, none⟩) (some ⟨G, 0, none⟩) (n - k) (n - k) k n (by go_simp) (by go_simp) G k (List.replicate k (Value.string s) ++ rest) 9 A7.out cs A1.out (fun _ => by exact ⟨if_neg (by omega), _, rfl, A4.out⟩) A2.out A3.out G W A6 (Nat.le_refl _) ?_); intro w4 HG4 hB4)
      have hR4 : Row s G n (k + Nat.min k (n - k)) 9 w4 := row_more HL3.out hlt (by rw [HE.out]; exact HG4)
      have hle := Nat.min_le_left k (n - k)
      have hle2 := Nat.min_le_right k (n - k)
      have hpos : 1 ≤ Nat.min k (n - k) := Nat.le_min.2 ⟨hk1, by omega⟩
      have hcl := A1.out
      rw [hcl]
      rw [hw1.out]
      clear A1 A2 A3 A4 A5 A6 A7 HE HG4 HL3 HL2x hcl hw1 hBk
      go_wp2
      refine ⟨⟨k + min k (n - k), by omega, by omega, by omega, hR4⟩, ?_⟩
      have hpos2 : 1 ≤ min k (n - k) := hpos
      simp [Go.RowKit.intOf]; omega
    · have hkn : k = n := by omega
      subst hkn
      have hfin : RepsPost s k W (.returned (.slice (some ⟨G, 0, none⟩) k k)) wr := by
        refine ⟨G, 9, rfl, by rw [HGG.out]; exact hBk, by rw [HGG.out]; exact Nat.le_refl _, ?_, ?_⟩
        · exact (Array.getElem?_eq_some_iff.1 HR.out).1
        · have hr0 : rest = [] := List.eq_nil_of_length_eq_zero (by have := HL2.out; omega)
          have := HR.out
          rw [hr0, List.append_nil] at this
          exact this
      clear HR HL2 HGG hBk
      go_wp2
      go_ret
      exact hfin
@[reducible] def h51_I : Shape := ⟨[.hole (.list .str), .hole (.int .i64)], [], []⟩
@[reducible] def h51_O : Shape := ⟨[.whole 0], [], [some .str]⟩
def h51_F (y : h51_I.den) : Option h51_O.den := match y.1.1 with
  | [x] => if 1 ≤ y.1.2.1 ∧ y.1.2.1 ≤ 1000000 then some (((), ()), (), (List.replicate y.1.2.1.toNat x, ())) else none
  | _ => none
theorem repsH_ok : SoundH Try.prog 51 ⟨h51_I, h51_O, h51_F⟩ := by
  refine ⟨⟨_, Try.func51, by kernel_rfl, by kernel_rfl⟩, ?_⟩
  intro y o hF A0 w0 w vs μ hs
  obtain ⟨⟨xs, c, ⟨⟩⟩, ⟨⟩, ⟨⟩⟩ := y
  obtain ⟨v1, _, e, r1, hargs⟩ := hs.slots.cons'
  obtain ⟨v2, _, rfl, r2, hargs⟩ := hargs.cons'
  obtain rfl := hargs.nil
  have hvs : vs = [v1, v2] := by simpa using e
  subst hvs
  simp only [fillA, RepAV, Rep, List.cons.injEq, and_true] at r2
  subst r2
  simp only [fillA, RepAV] at r1
  obtain ⟨v, e, a, cap, rfl, hcap, hm⟩ := r1
  simp only [List.cons.injEq, and_true] at e
  subst e
  replace hF : h51_F ((xs, c, ()), (), ()) = some o := hF
  unfold h51_F at hF
  split at hF
  · rename_i x hx
    replace hx : xs = [x] := hx
    subst hx
    split at hF
    · rename_i hc
      cases hF
      have hc1 : (1 : Int) ≤ c := hc.1
      have hc2 : c ≤ 1000000 := hc.2
      obtain ⟨n, rfl⟩ := Int.eq_ofNat_of_zero_le (show (0 : Int) ≤ c by omega)
      rcases hm with hm | ⟨ad, us, rfl, hsp, hAb, hcells, hall⟩
      · cases hm
      · have hus := strs_of hall
        have hc0 := hcells 0 (by rw [hus]; simp)
        rw [hus] at hc0
        have hc0' : w.cell? ⟨ad.block, ad.off, none⟩ = some (Value.string ⟨x.toArray⟩) := by have h0 : w.cell? ⟨ad.block, ad.off + 0, none⟩ = _ := hc0; simpa using h0
        have hn1 : 1 ≤ n := by have h1 : (1 : Int) ≤ (n : Int) := hc1; omega
        have hn2 : n ≤ 1000000 := by have h1 : (n : Int) ≤ 1000000 := hc2; omega
        have hAlt : ad.block < w.heap.size := hAb.2.1
        have h := reps_calls ad.block ad.off cap n ⟨x.toArray⟩ w hc0' hAlt hn1 hn2 (by simpa using hcap)
        have ead : (⟨ad.block, ad.off, none⟩ : Addr) = ad := by cases ad; simp_all
        rw [ead] at h
        refine h.mono fun e w' ⟨g, t, he, hb, hg1, hg2, hg3⟩ => ?_
        obtain ⟨μ', q1, q2⟩ := hs.adoptStrs hb (v := .slice (some ⟨g, 0, none⟩) n n) (xs := List.replicate n x) (.inr ⟨g, n, _, t, by simp, hg1, hg3, by simp, by simp, by simp⟩)
        refine ⟨[.slice (some ⟨g, 0, none⟩) n n], μ', by rw [he]; rfl, ?_, ?_⟩
        · exact RepAVs.one q1
        · exact q2.mem
    · cases hF
  · cases hF
end Go.Pe.Try
end
