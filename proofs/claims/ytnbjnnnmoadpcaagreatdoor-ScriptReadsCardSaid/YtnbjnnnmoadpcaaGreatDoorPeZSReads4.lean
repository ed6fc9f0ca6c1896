/- Texts of the proof, what is used of them: Code, Ghost, Fun, Ti, Range, Iter, GiTrysz, LibS, LibS2, ShelfTrysz, BldTrysz, LibTrysz, MRange. -/
import Derived.LoopNIn
import Derived.RangeFuncLeaves
import Derived.RangeFuncOwn
import Derived.RangeFuncIn
import Derived.RangeFuncRecord
import Derived.RangeFuncSeq
import Derived.Lib.AppendIntMem
import Derived.Lib.SmallJoins
import Derived.Test.YtnbjnnnmoadpcaaGreatDoorProg
import Derived.Lib.Repeat
import Derived.Lib.Join
import Derived.WalkKit
import Derived.WalkSmall
import Derived.Lib.IndexMore
import Derived.Lib.Split
import Derived.Lib.SplitLaws
import Derived.Lib.CutLaws
import Derived.Lib.Bytealg
import Derived.Lib.ItoaNum
import Derived.Lib.Strings
import Derived.Lib.AtoiAll
import Derived.Lib.AtoiAllMem
import Derived.Lib.CountLaws
import Derived.Lib.AtoiErrMem
import Derived.Shelf.Strings.Builder1
import Derived.Shelf.Strings.Builder2
import Derived.Shelf.Strings.OnBuilder
import Derived.Shelf.Small.Strs
import Derived.Shelf.Strings.BuilderF
import Derived.Shelf.Strings.BuilderK
import Derived.Shelf.Utf8.RuneCount
import Derived.Shelf.Strings.Builder2Cap
import Derived.Shelf.Strconv.Atoi
import Derived.Shelf.Strconv.Itoa0
import Derived.Shelf.Strconv.Itoa1
import Derived.Shelf.LaysM
import Derived.Shelf.Strconv.Itoa2
import Derived.Shelf.Strconv.Itoa3
import Derived.Shelf.Strconv.AtoiErrFast
import Derived.Shelf.Strconv.ParseIntEmpty
import Derived.Shelf.Strconv.AtoiFail
import Derived.Shelf.Strconv.SyntaxError
import Derived.Shelf.LaysC
import Derived.Shelf.Strconv.ToError
import Derived.Shelf.Strconv.Lower
import Derived.Shelf.Strconv.ParseUint10
import Derived.Shelf.Strconv.ParseUint10Empty
import Derived.Shelf.Strconv.ParseUint10Any
import Derived.Shelf.Strconv.ParseInt10
import Derived.Shelf.Strconv.AtoiLong
import Derived.Shelf.Strconv.AtoiInnerAll
import Derived.Shelf.Strconv.RangeError
import Derived.Shelf.Strconv.ToErrorRange
import Derived.Shelf.Strconv.AtoiAll
import Derived.Shelf.Strconv.ErrVarAll
import Derived.Shelf.Strings.Search1
import Derived.Shelf.Strings.Search2
import Derived.Shelf.Strings.Search3
import Derived.Shelf.Strings.Cut
import Derived.Shelf.Strings.Count
import Derived.Shelf.Strings.Shaped
import Derived.Shelf.Strings.Prefix
import Derived.Shelf.Strings.Split
import Derived.Shelf.Strings.SplitShaped
import Derived.Shelf.Unicode.Decode
import Derived.Shelf.Strings.RuneCount
import Derived.Shelf.Strings.Explode
import Derived.Shelf.Unicode.DecodeSlow
import Derived.Shelf.Unicode.DecodeAny
import Derived.Shelf.Strings.BuilderCap
import Derived.LoopTactic
import Derived.OwnWalk
import Derived.Deep.RegionLaw
import Derived.Below
import Derived.IntWalk
import Derived.Lib.Hide
import Derived.Lib.UnsafeStr
import Derived.Maps.RangeRun
import Derived.Test.YtnbjnnnmoadpcaaGreatDoorPeZSReads3
section
namespace Go.Pe
open Go.RowKit
set_option linter.unusedSectionVars false
variable [GI]
set_option linter.unusedSimpArgs false
set_option linter.unusedVariables false

def Ex.out : Ex → Exit
  | .normal => .normal
  | .exit id => .exit id
  | .ret => .ret
  | .panic => .panic []

section
variable {P : Program} {A0 : Dom} {Dk : List Deferred → Prop} {w0 : World} {S : Type}
variable {ε : Env} (hε : EnvOk P ε)
include hε

theorem nilCmp_run {w : World} {st : St} {a : Act} {μ : Mu} (hs : Sim A0 w0 st a.tmps w μ) {o : Oper} {q : (e : Ty) × List e.den} (h : nilCmp ε st o = some q) :
    ∃ b : Bool, (execOp a.eval o).run P w = .ok (.value (.bool b)) w ∧ (b = true → q.2 = []) ∧ ∀ c, o.op ≠ .defer c := by
  unfold nilCmp at h
  split at h
  · rename_i t x ty hop
    split at h
    · rename_i e xs hx
      split at h
      · rename_i hel
        cases h
        obtain ⟨et, het⟩ := Option.isSome_iff_exists.1 hel
        have hu := elemT_ok hε het
        have h1 := ev_rep hs.slots x
        rw [hx] at h1
        simp only [RepAV, Rep] at h1
        obtain ⟨v, hv1, hsl⟩ := h1
        simp only [List.cons.injEq, and_true] at hv1; subst hv1
        obtain ⟨a', cap, hv, _, hor⟩ := hsl
        have hg := guard_ok (P := P) (w := w) .eql t x (.const (.slice none 0 0)) (a.eval x) (.slice none 0 0) ⟨by rw [hv]; simp, by rw [hv]; simp⟩
        have heq : ∀ b, (Op.equal t (.slice a' xs.length cap) (.slice none 0 0)).run P w = .ok b w → (execOp a.eval o).run P w = .ok (.value (.bool b)) w := fun b hb => by
          rw [hv] at hg
          have hc : a.eval (.const (.slice none 0 0)) = .slice none 0 0 := rfl
          simp [execOp, hop, hv, hc, hg, binOp, hb]
        refine ⟨a'.isNone, heq _ ?_, fun hb => ?_, by rw [hop]; intro c h; cases h⟩
        · unfold Op.equal
          rw [show Op.maxDepth = (Op.maxDepth - 1) + 1 from by decide]
          unfold Op.equalIn
          simp only [Sem.run_bind, run_underlying hu, Result.andThen_ok]
          cases a' <;> rfl
        · rcases hor with h | ⟨ad, us, h1, _⟩
          · exact h
          · rw [h1] at hb; cases hb
      · cases h
    · cases h
  · cases h
theorem evOps_sound {ρ : Option Nat} {n : Nat} {ops : Array Oper} {Q : Exit → Act → World → Prop} {K : St → Option S} {Z : AV → St → Option S} {r : S}
    (hK : ∀ st' a' w' μ', K st' = some r → Sim A0 w0 st' a'.tmps w' μ' → Dk a'.defers → Q .normal a' w')
    (hZ : ∀ av st' v a' w' μ', Z av st' = some r → RepAV (cx A0 w0 st'.recs st'.lsts w' μ') av v → Sim A0 w0 st' a'.tmps w' μ' → Dk a'.defers → Q (.panic [{ v := v, recovered := false }]) a' w') :
    ∀ (l : List Nat) (st : St) (a : Act) (w : World) (μ : Mu), evOps ε ops l st K Z = some r → Sim A0 w0 st a.tmps w μ → Dk a.defers → wpOpsIn (Fr ρ) n P ops Q l a w
  | [], st, a, w, μ, h, hs, hd => hK st a w μ h hs hd
  | i :: rest, st, a, w, μ, h, hs, hd => by
    simp only [evOps, putN_eq] at h
    simp only [wpOpsIn]
    split at h
    · rename_i hi; rw [hi]; exact evOps_sound hK hZ rest st a w μ h hs hd
    · rename_i o hi
      rw [hi]
      have run : ∀ (st1 : St), Sim A0 w0 st1 a.tmps w μ → evOpZ ε st1 o (fun v st' => evOps ε ops rest (st'.put o.dst v) K Z) Z = some r → o.wpIn (Fr ρ) n P a w (wpOpsIn (Fr ρ) n P ops Q rest) Q := by
        intro st1 hs1 h1
        rcases evOpZ_sound hε hs1 o _ _ r h1 with ⟨av, st', hK', hop⟩ | ⟨av, st', hK', hop⟩
        · refine hop ρ n _ _ fun v w' ⟨μ', hrep, hsim⟩ => ?_
          exact evOps_sound hK hZ rest _ _ w' μ' hK' (Sim.put (a := a) hsim o.dst hrep) (by rw [put_defers]; exact hd)
        · refine hop ρ n _ _ fun v w' ⟨μ', hrep, hsim⟩ => ?_
          exact hZ av st' v a w' μ' hK' hrep hsim hd
      have skip : ∀ (st1 : St), Sim A0 w0 st1 a.tmps w μ → evOps ε ops rest (st1.put o.dst (.tup [])) K Z = some r → (∀ f, o.about P w a.eval = some f → (Fr ρ).fn f) ∧ wpOpsIn (Fr ρ) n P ops Q rest (a.put o.dst undef) w := by
        intro st1 hs1 h1
        refine ⟨fun _ _ => trivial, ?_⟩
        exact evOps_sound hK hZ rest _ _ w μ h1 (Sim.put (a := a) hs1 o.dst (by simp only [RepAV, RepAVs]; exact ⟨#[], rfl, rfl⟩)) (by rw [put_defers]; exact hd)
      split at h
      · rename_i hg
        have hw : Region.wanted o (yielded ops a.tmps) = true := by simp [Region.wanted, hg]
        simp only [hw, if_true]
        split at h
        · rename_i q hq
          obtain ⟨b, hrun, hb, hnd⟩ := nilCmp_run hε hs hq
          have hput : ∀ b' : Bool, b = b' → evOps ε ops rest (st.put o.dst (.d .bool b')) K Z = some r → wpOpsIn (Fr ρ) n P ops Q rest (a.put o.dst (.bool b)) w := fun b' e h => by
            subst e
            exact evOps_sound hK hZ rest _ _ w μ h (Sim.put (a := a) hs o.dst (by simp only [RepAV, Rep])) (by rw [put_defers]; exact hd)
          refine ⟨fun f _ => trivial, ?_⟩
          rw [Oper.semAt_eq _ _ _ hnd, hrun]
          show wpOpsIn (Fr ρ) n P ops Q rest (a.put o.dst (.bool b)) w
          unfold nilEq at h
          split at h
          · split at h
            · rename_i e1 e2
              cases b
              · exact hput false rfl (e2 ▸ h)
              · exact hput true rfl h
            · cases h
          · rename_i hne
            cases b
            · exact hput false rfl h
            · exact absurd (hb rfl) hne
        · exact (run st hs h)
      · rename_i j want hg
        split at h
        · cases h
        · rename_i d hj
          split at h
          · rename_i hb
            obtain ⟨v, hv, hr⟩ := hs.slots.get d _ hb
            simp only [RepAV, RepAVs] at hr
            obtain ⟨us, rfl, _⟩ := hr
            have hy : yielded ops a.tmps j = none := by
              have : a.tmps[d]? = some (.tuple us) := by simpa using hv
              simp [yielded, hj, this]
            have hw : Region.wanted o (yielded ops a.tmps) = false := by simp [Region.wanted, hg, hy]
            simp only [hw, Bool.false_eq_true, if_false]
            exact skip st hs h
          · rename_i b hb
            have hrep := hs.slots.get d _ hb
            obtain ⟨v, hv, hr⟩ := hrep
            simp only [RepAV, Rep, List.cons.injEq, and_true] at hr
            subst hr
            have hy : yielded ops a.tmps j = some b := by
              have : a.tmps[d]? = some (.bool b) := by simpa using hv
              simp [yielded, hj, this]
            have hset : ∀ b', b = b' → Sim A0 w0 { st with slots := st.slots.set d (.d .bool b') } a.tmps w μ := by
              intro b' e; subst e
              refine ⟨?_, hs.mem⟩
              have h1 : st.slots.set d (.d .bool b) = st.slots := by
                apply List.ext_getElem?
                intro k
                by_cases e : k = d
                · subst e; rw [List.getElem?_set_self (List.getElem?_eq_some_iff.1 hb).1, hb]
                · rw [List.getElem?_set_ne (Ne.symm e)]
              rw [h1]; exact hs.slots
            cases b with
            | true =>
              simp only [cond_true] at h
              cases want with
              | true =>
                have hw : Region.wanted o (yielded ops a.tmps) = true := by simp [Region.wanted, hg, hy]
                simp only [hw, if_true] at h ⊢
                exact (run _ (hset _ rfl) h)
              | false =>
                have hw : Region.wanted o (yielded ops a.tmps) = false := by simp [Region.wanted, hg, hy]
                simp only [hw, Bool.false_eq_true, if_false] at h ⊢
                exact skip _ (hset _ rfl) h
            | false =>
              simp only [cond_false] at h
              cases want with
              | true =>
                have hw : Region.wanted o (yielded ops a.tmps) = false := by simp [Region.wanted, hg, hy]
                simp only [hw, Bool.false_eq_true, if_false, if_true] at h ⊢
                exact skip _ (hset _ rfl) h
              | false =>
                have hw : Region.wanted o (yielded ops a.tmps) = true := by simp [Region.wanted, hg, hy]
                simp only [hw, Bool.false_eq_true, if_false, if_true] at h ⊢
                exact (run _ (hset _ rfl) h)
          · cases h

def Lands (ex : Ex) (tm : Array Value) (a : Act) (E : Exit) : Prop := match ex with
  | .panic => ∃ v, tm = #[v] ∧ E = .panic [{ v := v, recovered := false }]
  | ex => tm = a.tmps ∧ E = ex.out
theorem evC_sound {ρ : Option Nat} {n : Nat} {Q : Exit → Act → World → Prop} {r : S} : ∀ (c : Code) (K : Ex → St → Option S)
    (_ : ∀ ex st' tm E a' w' μ', K ex st' = some r → Sim A0 w0 st' tm w' μ' → Lands ex tm a' E → Dk a'.defers → Q E a' w')
    (st : St) (a : Act) (w : World) (μ : Mu), evC ε c st K = some r → Sim A0 w0 st a.tmps w μ → Dk a.defers → c.wpIn (Fr ρ) n P Q a w
  | .skip, K, hK, st, a, w, μ, h, hs, hd => wpIn_skip (hK .normal st _ _ a w μ h hs ⟨rfl, rfl⟩ hd)
  | .label _, K, hK, st, a, w, μ, h, hs, hd => wpIn_label (hK .normal st _ _ a w μ h hs ⟨rfl, rfl⟩ hd)
  | .region id ops draw, K, hK, st, a, w, μ, h, hs, hd => by
    simp only [evC] at h
    cases draw with
    | true => exact evD_sound hε hε.uni hε.mixed (fun st' a' w' μ' h1 h2 h3 => hK .normal st' _ _ a' w' μ' h1 h2 ⟨rfl, rfl⟩ h3) st a w μ h hs hd
    | false => exact wpIn_region (evOps_sound hε (fun st' a' w' μ' h1 h2 h3 => hK .normal st' _ _ a' w' μ' h1 h2 ⟨rfl, rfl⟩ h3)
        (fun av st' v a' w' μ' h1 h2 h3 h4 => hK .panic { st' with slots := [av] } #[v] _ a' w' μ' h1 ⟨RepAVs.one h2, h3.mem⟩ ⟨v, rfl, rfl⟩ h4) _ st a w μ h hs hd)
  | .seq x y, K, hK, st, a, w, μ, h, hs, hd => by
    simp only [evC] at h
    refine wpIn_seq (evC_sound x _ (fun ex st' tm E a' w' μ' h1 h2 hl h3 => ?_) st a w μ h hs hd)
    cases ex with
    | normal => obtain ⟨rfl, rfl⟩ := hl; exact evC_sound y K hK st' a' w' μ' h1 h2 h3
    | exit id => obtain ⟨rfl, rfl⟩ := hl; exact hK (.exit id) st' _ _ a' w' μ' h1 h2 ⟨rfl, rfl⟩ h3
    | ret => obtain ⟨rfl, rfl⟩ := hl; exact hK .ret st' _ _ a' w' μ' h1 h2 ⟨rfl, rfl⟩ h3
    | panic => obtain ⟨v, rfl, rfl⟩ := hl; exact hK .panic st' _ _ a' w' μ' h1 h2 ⟨v, rfl, rfl⟩ h3
  | .cond c x y, K, hK, st, a, w, μ, h, hs, hd => by
    simp only [evC] at h
    split at h
    · rename_i b hc
      have hcr := ev_rep hs.slots c
      rw [hc] at hcr
      simp only [RepAV, Rep, List.cons.injEq, and_true] at hcr
      cases b with
      | true => exact wpIn_cond_true hcr (evC_sound x K hK st a w μ h hs hd)
      | false => exact wpIn_cond_false hcr (evC_sound y K hK st a w μ h hs hd)
    · cases h
  | .block id c, K, hK, st, a, w, μ, h, hs, hd => by
    simp only [evC] at h
    refine wpIn_block (evC_sound c _ (fun ex st' tm E a' w' μ' h1 h2 hl h3 => ?_) st a w μ h hs hd)
    cases ex with
    | normal => obtain ⟨rfl, rfl⟩ := hl; exact hK .normal st' _ _ a' w' μ' h1 h2 ⟨rfl, rfl⟩ h3
    | exit j =>
      obtain ⟨rfl, rfl⟩ := hl
      simp only at h1
      simp only [Ex.out, Exit.inBlock]
      split at h1
      · rename_i e; rw [if_pos e]; exact hK .normal st' _ _ a' w' μ' h1 h2 ⟨rfl, rfl⟩ h3
      · rename_i e; rw [if_neg e]; exact hK (.exit j) st' _ _ a' w' μ' h1 h2 ⟨rfl, rfl⟩ h3
    | ret => obtain ⟨rfl, rfl⟩ := hl; exact hK .ret st' _ _ a' w' μ' h1 h2 ⟨rfl, rfl⟩ h3
    | panic => obtain ⟨v, rfl, rfl⟩ := hl; exact hK .panic st' _ _ a' w' μ' h1 h2 ⟨v, rfl, rfl⟩ h3
  | .exit id, K, hK, st, a, w, μ, h, hs, hd => wpIn_exit (hK (.exit id) st _ _ a w μ h hs ⟨rfl, rfl⟩ hd)
  | .ret, K, hK, st, a, w, μ, h, hs, hd => wpIn_ret (hK .ret st _ _ a w μ h hs ⟨rfl, rfl⟩ hd)
  | .loop _, _, _, _, _, _, _, h, _, _ => by simp [evC] at h
  | .rangeFunc .., _, _, _, _, _, _, h, _, _ => by simp [evC] at h
  | .scope _, _, _, _, _, _, _, h, _, _ => by simp [evC] at h
  | .goto _, _, _, _, _, _, _, h, _, _ => by simp [evC] at h
  | .refuse _, _, _, _, _, _, _, h, _, _ => by simp [evC] at h
end

end Go.Pe
end
section
namespace Go.Pe
open Go.RowKit
set_option linter.unusedSectionVars false
variable [GI]
set_option linter.unusedSimpArgs false
set_option linter.unusedVariables false

def lastOf : List V → Option (List V × V)
  | [] => none
  | [x] => some ([], x)
  | x :: y :: l => (lastOf (y :: l)).map fun p => (x :: p.1, p.2)
theorem lastOf_some : ∀ {fs : List V} {p : List V × V}, lastOf fs = some p → fs = p.1 ++ [p.2]
  | [], p, h => by simp [lastOf] at h
  | [x], p, h => by simp only [lastOf, Option.some.injEq] at h; subst h; rfl
  | x :: y :: l, p, h => by
    simp only [lastOf, Option.map_eq_some_iff] at h
    obtain ⟨q, hq, rfl⟩ := h
    have := lastOf_some hq
    simp only [List.cons_append]; rw [← this]
inductive GS | focus (q j : Nat) | unfocus (q j : Nat) | drop (q j : Nat) | forget (t j : Nat)
def focFx (r : Nat) (l : List V) : SX → AV | .stk _ => .sx (.foc r l) | _ => .dead
def unfFx (fs : List V) : SX → AV | .foc _ _ => .sx (.stk fs) | _ => .dead
def cutFx (fs : List V) : SX → AV | .cut _ _ => .sx (.stk fs) | _ => .dead
def ownNo : AV → Option (List Nat) | .whole t => some [t] | .nilS => some [] | _ => none
mutual
/-- What names such a row, told anew; some lists of the call's own are told no more. -/
def AV.mapK (f : SX → AV) (ts : List Nat) : AV → AV
  | .sx x => f x
  | .whole t => (match hasN t ts with | true => .dead | false => .whole t)
  | .eptr t i o => (match hasN t ts with | true => .dead | false => .eptr t i o)
  | .pim l => .pim (mapKL f ts l)
  | .agg l => .agg (mapKL f ts l)
  | .ifc q l => .ifc q (mapKL f ts l)
  | .tup l => .tup (mapKL f ts l)
  | .fn g a b => .fn g (mapKL f ts a) (mapKL f ts b)
  | v => v
def mapKL (f : SX → AV) (ts : List Nat) : List AV → List AV
  | [] => []
  | v :: l => v.mapK f ts :: mapKL f ts l
end
def mapKR (f : SX → AV) (ts : List Nat) (recs : List (Option (List AV))) : List (Option (List AV)) := recs.map fun r => match r with
  | some c => (match isMark c with | true => none | false => some (mapKL f ts c))
  | none => none
def clr : List Nat → List (Option LObj) → List (Option LObj)
  | [], l => l
  | t :: ts, l => clr ts (l.set t none)
noncomputable def evG {S : Type} : GS → St → (St → Option S) → Option S
  | .focus q j, st, K => (match cellAt st.recs q j with
    | some (.stk fs) => (lastOf fs).bind fun p => normSt ⟨mapSL (focFx st.recs.length p.1) st.slots,
        mapSR (focFx st.recs.length p.1) st.recs ++ [some [.sx .mark, .d (.int .i64) p.2.kind, .d (.int .i64) p.2.n, .d .str p.2.s, .whole st.lsts.length, .whole (st.lsts.length + 1)]],
        st.lsts ++ [some ⟨.value, p.2.items⟩, some ⟨.str, p.2.keys⟩]⟩ K
    | _ => none)
  | .unfocus q j, st, K => (match cellAt st.recs q j with
    | some (.foc r fs) => (match topCells st.recs r with
      | some [c0, c1, c2, ci, ck] => (match ownNo ci, ownNo ck with
        | some t1, some t2 => (match nodupB (t1 ++ t2) with
          | true => (asTy [] (.int .i64) c0).bind fun k => (asTy [] (.int .i64) c1).bind fun n => (asTy [] .str c2).bind fun s => (asTy st.lsts (.list .value) ci).bind fun is => (asTy st.lsts (.list .str) ck).bind fun ks =>
              normSt ⟨mapKL (unfFx (fs ++ [V.mk k n s is ks])) (t1 ++ t2) st.slots, mapKR (unfFx (fs ++ [V.mk k n s is ks])) (t1 ++ t2) st.recs, clr (t1 ++ t2) st.lsts⟩ K
          | false => none)
        | _, _ => none)
      | _ => none)
    | _ => none)
  | .drop q j, st, K => (match cellAt st.recs q j with
    | some (.cut r fs) => normSt ⟨mapSL (cutFx fs) st.slots, mapSR (cutFx fs) st.recs, st.lsts⟩ K
    | _ => none)
  | .forget t _, st, K => normSt (st.freeze1 t) K
noncomputable def evGs {S : Type} : List GS → St → (St → Option S) → Option S
  | [], st, K => K st
  | g :: l, st, K => evG g st fun st' => evGs l st' K

structure Cx.DeepN (N : Nat) (c c' : Cx) : Prop where
  A : ∀ b, c.A b → c'.A b
  w : ∀ b, c.A b → c'.w.heap[b]? = c.w.heap[b]?
  n : ∀ k, k ≠ 0 → k ≤ N → c'.μ.at_ (.n k) = c.μ.at_ (.n k)
  b : ∀ k b, k ≠ 0 → k ≤ N → c.μ.at_ (.n k) = some b → c'.w.heap[b]? = c.w.heap[b]?
theorem NestAt.monoN {N : Nat} {c c' : Cx} (h : c.DeepN N c') {k e xs v} (hk : k ≠ 0) (hN : k ≤ N) (hn : NestAt c k e xs v) : NestAt c' k e xs v := by
  rcases hn with ⟨h1, h2, h3⟩ | ⟨b, vs, cap, h1, h2, h3, h4, h5, us, rest, h6, h7⟩
  · exact .inl ⟨by rw [h.n _ hk hN]; exact h1, h2, h3⟩
  · exact .inr ⟨b, vs, cap, by rw [h.n _ hk hN]; exact h1, h2, h3.ext0 (h.b _ _ hk hN h1), h4, h5, us, rest, h6, h7.imp fun x u hx => hx.mono h.A h.w⟩
theorem FramesAt.monoN {N : Nat} {c c' : Cx} (h : c.DeepN N c') : ∀ {fs i us}, 2 * (i + fs.length) ≤ N → FramesAt c i fs us → FramesAt c' i fs us
  | [], _, _, _, hf => hf
  | f :: fs, i, us, hN, hf => by
    obtain ⟨iv, kv, us', h1, h2, h3, h4⟩ := hf
    simp only [List.length_cons] at hN
    exact ⟨iv, kv, us', h1, h2.monoN h (by omega) (by omega), h3.monoN h (by omega) (by omega), FramesAt.monoN h (by omega) h4⟩
theorem FramesAt.snoc {c : Cx} {f : V} : ∀ {l i us}, FramesAt c i (l ++ [f]) us ↔ ∃ us1 iv kv, us = us1 ++ [.int .i64 f.kind, .int .i64 f.n, .string ⟨f.s.toArray⟩, iv, kv] ∧ FramesAt c i l us1 ∧ NestAt c (2 * (i + l.length) + 1) .value f.items iv ∧ NestAt c (2 * (i + l.length) + 2) .str f.keys kv
  | [], i, us => by
    simp only [List.nil_append, FramesAt, List.length_nil, Nat.add_zero]
    constructor
    · rintro ⟨iv, kv, us', rfl, h2, h3, rfl⟩; exact ⟨[], iv, kv, rfl, rfl, h2, h3⟩
    · rintro ⟨us1, iv, kv, rfl, rfl, h2, h3⟩; exact ⟨iv, kv, [], rfl, h2, h3, rfl⟩
  | x :: l, i, us => by
    simp only [List.cons_append, FramesAt, List.length_cons]
    constructor
    · rintro ⟨iv, kv, us', rfl, h2, h3, h4⟩
      obtain ⟨us1, iv', kv', rfl, g1, g2, g3⟩ := FramesAt.snoc.1 h4
      have e : i + 1 + l.length = i + (l.length + 1) := by omega
      rw [e] at g2 g3
      exact ⟨_, iv', kv', rfl, ⟨iv, kv, us1, rfl, h2, h3, g1⟩, g2, g3⟩
    · rintro ⟨us1, iv', kv', rfl, ⟨iv, kv, us2, rfl, h2, h3, g1⟩, g2, g3⟩
      have e : i + 1 + l.length = i + (l.length + 1) := by omega
      rw [← e] at g2 g3
      exact ⟨iv, kv, _, rfl, h2, h3, FramesAt.snoc.2 ⟨us2, iv', kv', rfl, g1, g2, g3⟩⟩

section
variable {A0 : Dom} {w0 w : World} {recs : List (Option (List AV))} {lsts : List (Option LObj)} {μ : Mu} {st : St} {tmps : Array Value}

structure Renamed (μ μ' : Mu) (σ : Loc → Option Loc) : Prop where
  at_ : ∀ x, μ'.at_ x = (σ x).bind μ.at_
  inj : ∀ x y z, σ x = some z → σ y = some z → x = y
theorem Renamed.src {μ' : Mu} {σ : Loc → Option Loc} (h : Renamed μ μ' σ) {x : Loc} {b : Nat} (hx : μ'.at_ x = some b) : ∃ y, σ x = some y ∧ μ.at_ y = some b := by
  rw [h.at_, Option.bind_eq_some_iff] at hx; exact hx
theorem Renamed.imm {μ' : Mu} {σ : Loc → Option Loc} (h : Renamed μ μ' σ) {b : Nat} (hb : Imm A0 w0 μ w b) : Imm A0 w0 μ' w b :=
  ⟨hb.1, hb.2.1, fun x hx => by obtain ⟨y, _, hy⟩ := h.src hx; exact hb.2.2 y hy⟩
theorem cellAt_some (hs : Sim A0 w0 st tmps w μ) {q j : Nat} {x : SX} (h : cellAt st.recs q j = some x) : ∃ v, RepSX μ A0.keep x v := by
  unfold cellAt at h
  split at h
  · rename_i c hc
    split at h
    · cases h
    · rename_i hk
      split at h
      · rename_i y hy
        cases h
        obtain ⟨b, vs, _, _, hv⟩ := hs.mem.hrec q c hc hk
        obtain ⟨u, _, hu⟩ := hv.get j _ hy
        simp only [RepAV, cx] at hu
        exact ⟨u, hu⟩
      · cases h
  · cases h
theorem mapSL_mark {f : SX → AV} (hf : ∀ x, f x ≠ .sx .mark) : ∀ {l c : List AV}, mapSL f l ≠ .sx .mark :: c
  | [], c, h => by simp [mapSL] at h
  | v :: l, c, h => by
    simp only [mapSL, List.cons.injEq] at h
    have := h.1
    cases v <;> simp only [AV.mapS] at this <;> first | (cases this; done) | exact hf _ this
theorem focFx_mark (r : Nat) (l : List V) (x : SX) : focFx r l x ≠ .sx .mark := by unfold focFx; split <;> simp
theorem unfFx_mark (l : List V) (x : SX) : unfFx l x ≠ .sx .mark := by unfold unfFx; split <;> simp
theorem cutFx_mark (l : List V) (x : SX) : cutFx l x ≠ .sx .mark := by unfold cutFx; split <;> simp
theorem focFx_bld (r : Nat) (l : List V) (x : SX) (q : Nat) : focFx r l x ≠ .bld q := by unfold focFx; split <;> simp
theorem unfFx_bld (l : List V) (x : SX) (q : Nat) : unfFx l x ≠ .bld q := by unfold unfFx; split <;> simp
theorem cutFx_bld (l : List V) (x : SX) (q : Nat) : cutFx l x ≠ .bld q := by unfold cutFx; split <;> simp

def focMu (μ : Mu) (r t n cap c1 c2 : Nat) (l : List V) : Mu where
  at_ x := if x = .l t then μ.at_ (.n (2 * n + 1)) else if x = .l (t + 1) then μ.at_ (.n (2 * n + 2)) else if x = .n (2 * n + 1) ∨ x = .n (2 * n + 2) then none else μ.at_ x
  cap s := if s = t then c1 else if s = t + 1 then c2 else μ.cap s
  dp := some ⟨some r, cap, l⟩
theorem focMu_ren (μ : Mu) (r t n cap c1 c2 : Nat) (l : List V) (h0 : μ.at_ (.l t) = none) (h1 : μ.at_ (.l (t + 1)) = none) : Renamed μ (focMu μ r t n cap c1 c2 l) (fun x => if x = .l t then some (.n (2 * n + 1)) else if x = .l (t + 1) then some (.n (2 * n + 2)) else if x = .n (2 * n + 1) ∨ x = .n (2 * n + 2) then none else some x) := by
  refine ⟨fun x => ?_, fun x y z hx hy => ?_⟩
  · simp only [focMu]
    split
    · rfl
    · split
      · rfl
      · split <;> rfl
  · grind
theorem NestAt.cap {c : Cx} {k : Nat} {e : Ty} {xs : List e.den} {v : Value} (h : NestAt c k e xs v) : ∃ cp, (c.μ.at_ (.n k) = none ∧ xs = [] ∧ v = .slice none 0 0) ∨
    ∃ b vs, c.μ.at_ (.n k) = some b ∧ v = .slice (some ⟨b, 0, none⟩) xs.length cp ∧ Own c.w b vs ∧ vs.size = cp * e.size ∧ xs.length ≤ cp ∧ ∃ us rest, vs.toList = us ++ rest ∧ RepAll (Rep c.A c.w e) xs us := by
  rcases h with h | ⟨b, vs, cap, h⟩
  · exact ⟨0, .inl h⟩
  · exact ⟨cap, .inr ⟨b, vs, h⟩⟩
theorem focus_sound {S : Type} (hs : Sim A0 w0 st tmps w μ) {q j : Nat} (K : St → Option S) (r : S) (h : evG (.focus q j) st K = some r) : ∃ st', K st' = some r ∧ ∃ μ', Sim A0 w0 st' tmps w μ' := by
  simp only [evG] at h
  split at h
  · rename_i fs hcell
    rw [Option.bind_eq_some_iff] at h
    obtain ⟨⟨l, f⟩, hp, h⟩ := h
    rw [normSt_eq] at h
    refine ⟨_, h, ?_⟩
    clear h
    obtain ⟨v, hv⟩ := cellAt_some hs hcell
    simp only [RepSX] at hv
    obtain ⟨cap, hd, rfl, _⟩ := hv
    have hfs := lastOf_some hp
    simp only at hfs
    subst hfs
    have hm := hs.mem
    have hdeep := hm.deep _ hd
    rcases hdeep.row with ⟨_, h2, _⟩ | ⟨b, vs, pre, rest, hb, hown, hsz, hcap, e1, hfr⟩
    · simp at h2
    replace hb : μ.at_ (.n 0) = some b := hb
    replace hown : Own w b vs := hown
    replace hcap : l.length + 1 ≤ cap := by simpa using hcap
    obtain ⟨us1, iv, kv, rfl, hfr1, hni, hnk⟩ := FramesAt.snoc.1 hfr
    simp only [Nat.zero_add] at hni hnk
    obtain ⟨c1, hni⟩ := hni.cap
    obtain ⟨c2, hnk⟩ := hnk.cap
    have hnt : ∀ t, st.lsts.length ≤ t → μ.at_ (.l t) = none := fun t ht => by
      cases hx : μ.at_ (.l t) with
      | none => rfl
      | some b' =>
        obtain ⟨o, ho⟩ := Option.isSome_iff_exists.1 (hm.live _ _ hx).2.2
        have := getL_lt ho; omega
    obtain ⟨μ', hμ'⟩ : ∃ μ', μ' = focMu μ st.recs.length st.lsts.length l.length cap c1 c2 l := ⟨_, rfl⟩
    have hren := focMu_ren μ st.recs.length st.lsts.length l.length cap c1 c2 l (hnt _ (Nat.le_refl _)) (hnt _ (by omega))
    rw [← hμ'] at hren
    have hati : μ'.at_ (.l st.lsts.length) = μ.at_ (.n (2 * l.length + 1)) := by rw [hμ']; simp [focMu]
    have hatk : μ'.at_ (.l (st.lsts.length + 1)) = μ.at_ (.n (2 * l.length + 2)) := by rw [hμ']; simp [focMu]
    have hatr : ∀ r, μ'.at_ (.r r) = μ.at_ (.r r) := fun r => by rw [hμ']; simp [focMu]
    have hatl : ∀ t, t < st.lsts.length → μ'.at_ (.l t) = μ.at_ (.l t) := fun t ht => by
      rw [hμ']; simp only [focMu]; rw [if_neg (by simp; omega), if_neg (by simp; omega), if_neg (by simp)]
    have hatn : ∀ k, k ≤ 2 * l.length → μ'.at_ (.n k) = μ.at_ (.n k) := fun k hk => by
      rw [hμ']; simp only [focMu]; rw [if_neg (by simp), if_neg (by simp), if_neg (by simp; omega)]
    have hatn2 : ∀ k, 2 * l.length < k → μ'.at_ (.n k) = none := fun k hk => by
      rw [hμ']; simp only [focMu]; rw [if_neg (by simp), if_neg (by simp)]
      split
      · rfl
      · rename_i hn
        simp only [Loc.n.injEq, not_or] at hn
        cases hx : μ.at_ (.n k) with
        | none => rfl
        | some b' => have := hdeep.lim k b' hx; simp at this; omega
    have hcapt : ∀ s, s < st.lsts.length → μ'.cap s = μ.cap s := fun s hs => by rw [hμ']; simp only [focMu]; rw [if_neg (by omega), if_neg (by omega)]
    have hcap1 : μ'.cap st.lsts.length = c1 := by rw [hμ']; simp [focMu]
    have hcap2 : μ'.cap (st.lsts.length + 1) = c2 := by rw [hμ']; simp [focMu]
    have hdp : μ'.dp = some ⟨some st.recs.length, cap, l⟩ := by rw [hμ']; rfl
    clear hμ'
    obtain ⟨recs', hrecs'⟩ : ∃ x, x = mapSR (focFx st.recs.length l) st.recs ++ [some [.sx .mark, .d (.int .i64) f.kind, .d (.int .i64) f.n, .d .str f.s, .whole st.lsts.length, .whole (st.lsts.length + 1)]] := ⟨_, rfl⟩
    obtain ⟨lsts', hlsts'⟩ : ∃ x : List (Option LObj), x = st.lsts ++ [some ⟨.value, f.items⟩, some ⟨.str, f.keys⟩] := ⟨_, rfl⟩
    have hgl : ∀ t, t < st.lsts.length → getL lsts' t = getL st.lsts t := fun t ht => by rw [hlsts']; exact by unfold getL; rw [List.getElem?_append_left ht]
    have hgi : getL lsts' st.lsts.length = some ⟨.value, f.items⟩ := by rw [hlsts']; unfold getL; rw [List.getElem?_append_right (Nat.le_refl _)]; simp
    have hgk : getL lsts' (st.lsts.length + 1) = some ⟨.str, f.keys⟩ := by rw [hlsts']; unfold getL; rw [List.getElem?_append_right (by omega)]; simp
    have hgn : ∀ t o, getL lsts' t = some o → t < st.lsts.length ∨ t = st.lsts.length ∨ t = st.lsts.length + 1 := fun t o ho => by
      have := getL_lt ho; rw [hlsts'] at this; simp at this; omega
    have hgr : ∀ {r c}, getL recs' r = some c → (r < st.recs.length ∧ ∃ c0, getL st.recs r = some c0 ∧ isMark c0 = false ∧ c = mapSL (focFx st.recs.length l) c0) ∨ (r = st.recs.length ∧ c = [.sx .mark, .d (.int .i64) f.kind, .d (.int .i64) f.n, .d .str f.s, .whole st.lsts.length, .whole (st.lsts.length + 1)]) := by
      intro r c h
      rw [hrecs'] at h
      rcases Nat.lt_trichotomy r st.recs.length with hlt | heq | hgt
      · rw [getL_app (by rw [mapSR_length]; exact hlt)] at h
        exact .inl ⟨hlt, mapSR_some h⟩
      · subst heq
        have : getL (mapSR (focFx st.recs.length l) st.recs ++ [some [.sx .mark, .d (.int .i64) f.kind, .d (.int .i64) f.n, .d .str f.s, .whole st.lsts.length, .whole (st.lsts.length + 1)]]) (mapSR (focFx st.recs.length l) st.recs).length = _ := getL_new
        rw [mapSR_length] at this
        rw [this] at h; cases h
        exact .inr ⟨rfl, rfl⟩
      · have := getL_lt h; simp [mapSR_length] at this; omega
    have hrl : recs'.length = st.recs.length + 1 := by rw [hrecs']; simp [mapSR_length]
    have hll : lsts'.length = st.lsts.length + 2 := by rw [hlsts']; simp
    refine ⟨μ', ?_⟩
    rw [← hrecs', ← hlsts']
    have hImm : ∀ k, Imm A0 w0 μ w k → Imm A0 w0 μ' w k := fun k hk => hren.imm hk
    have hle : (cx A0 w0 st.recs st.lsts w μ).LeS (cx A0 w0 recs' lsts' w μ') :=
      ⟨hImm, fun _ _ => rfl, by simp only [cx, hrl]; omega, by simp only [cx, hll]; omega,
       fun r hr hsome => by
         obtain ⟨c, hc⟩ := Option.isSome_iff_exists.1 hsome
         rcases hgr hc with ⟨_, c0, g1, _⟩ | ⟨g1, _⟩
         · exact ⟨by simp only [cx]; rw [g1]; rfl, hatr r⟩
         · have : r < st.recs.length := hr
           omega,
       fun t o' ht ho => by
         have ht' : t < st.lsts.length := ht
         have ho' : getL lsts' t = some o' := ho
         rw [hgl t ht'] at ho'
         exact ⟨o', ho', rfl, rfl, hatl t ht', Mu.capOf_eq (hcapt t ht') _⟩⟩
    have hfx : ∀ x v, RepSX (cx A0 w0 st.recs st.lsts w μ).μ (cx A0 w0 st.recs st.lsts w μ).keep x v → RepAV (cx A0 w0 recs' lsts' w μ') (focFx st.recs.length l x) v := by
      intro x v hx
      unfold focFx
      split
      · simp only [RepSX, cx] at hx
        obtain ⟨cap', g1, rfl, _⟩ := hx
        rw [hd] at g1; cases g1
        simp only [RepAV, RepSX, cx]
        exact ⟨cap, b, hdp, by rw [hatn 0 (by omega)]; exact hb, by unfold hdrV; rw [hb]; simp, hcap⟩
      · simp only [RepAV]
    have hN : (cx A0 w0 st.recs st.lsts w μ).DeepN (2 * l.length) (cx A0 w0 recs' lsts' w μ') := ⟨hImm, fun _ _ => rfl, fun k _ hk => hatn k hk, fun _ _ _ _ _ => rfl⟩
    have hlst : ∀ {k t : Nat} {e : Ty} {xs : List e.den} {v : Value} {cp : Nat}, e.isMap = false → μ'.at_ (.l t) = μ.at_ (.n k) → μ'.cap t = cp → t < lsts'.length → getL lsts' t = some ⟨e, xs⟩ →
        ((μ.at_ (.n k) = none ∧ xs = [] ∧ v = .slice none 0 0) ∨ ∃ b vs, μ.at_ (.n k) = some b ∧ v = .slice (some ⟨b, 0, none⟩) xs.length cp ∧ Own w b vs ∧ vs.size = cp * e.size ∧ xs.length ≤ cp ∧ ∃ us rest, vs.toList = us ++ rest ∧ RepAll (Rep (Imm A0 w0 μ w) w e) xs us) →
        LstAt (cx A0 w0 recs' lsts' w μ') t ⟨e, xs⟩ ∧ RepAV (cx A0 w0 recs' lsts' w μ') (.whole t) v := by
      intro k t e xs v cp hpl g1 g2 g3 g4 g5
      rcases g5 with ⟨k1, k2, rfl⟩ | ⟨b', vs', k1, rfl, k3, k4, k5, us, rest, k6, k7⟩
      · refine ⟨.inl ⟨g1.trans k1, k2, hpl⟩, ?_⟩
        simp only [RepAV, cx]
        exact ⟨g3, rfl, fun o ho => by rw [g4] at ho; cases ho; exact .inl ⟨g1.trans k1, hpl, rfl⟩⟩
      · refine ⟨.inr ⟨b', vs', g1.trans k1, (OwnL.plain hpl).2 k3, by simp only [cx, g2]; exact k4, by simp only [cx, g2]; exact k5, us, rest, k6, .plain hpl (k7.imp fun x u hx => hx.mono hImm fun _ _ => rfl)⟩, ?_⟩
        simp only [RepAV, cx]
        exact ⟨g3, rfl, fun o ho => by rw [g4] at ho; cases ho; exact (WholeAt.plain hpl).2 (.inr ⟨b', g1.trans k1, by rw [g2]⟩)⟩
    obtain ⟨hli, hwi⟩ := hlst rfl hati hcap1 (by omega) hgi hni
    obtain ⟨hlk, hwk⟩ := hlst rfl hatk hcap2 (by omega) hgk hnk
    refine ⟨hs.slots.mapS hle hfx, ?_⟩
    constructor
    · intro r cells hr hk
      rcases hgr hr with ⟨_, c0, g1, g2, rfl⟩ | ⟨_, rfl⟩
      · obtain ⟨b', vs', hb', ho, hv⟩ := hm.hrec r c0 g1 g2
        exact ⟨b', vs', by rw [hatr]; exact hb', ho, hv.mapS hle hfx⟩
      · simp [isMark] at hk
    · intro t o ho
      rcases hgn t o ho with ht | rfl | rfl
      · rw [hgl t ht] at ho
        rcases hm.hlst t o ho with ⟨g1, g2⟩ | ⟨b', vs', hb', ho', hsz, hc, us, rest, e, hr'⟩
        · exact .inl ⟨(hatl t ht).trans g1, g2⟩
        · exact .inr ⟨b', vs', (hatl t ht).trans hb', ho', by simp only [cx, hcapt t ht]; exact hsz, by simp only [cx, hcapt t ht]; exact hc, us, rest, e, hr'.imp fun x u hx => hx.mono hImm fun _ _ => rfl⟩
      · rw [hgi] at ho; cases ho; exact hli
      · rw [hgk] at ho; cases ho; exact hlk
    · intro x b' hx
      obtain ⟨y, hy, hby⟩ := hren.src hx
      obtain ⟨g1, g2, g3⟩ := hm.live y b' hby
      refine ⟨g1, g2, ?_⟩
      cases x with
      | n k => simp only [hdp]; rfl
      | l t =>
        simp only
        by_cases e : t = st.lsts.length
        · rw [e, hgi]; rfl
        · by_cases e' : t = st.lsts.length + 1
          · rw [e', hgk]; rfl
          · by_cases ht : t < st.lsts.length
            · rw [hatl t ht] at hx
              rw [hgl t ht]; exact (hm.live _ _ hx).2.2
            · exfalso
              have h0 := hnt t (by omega)
              simp only [Loc.l.injEq, e, e', if_false, reduceCtorEq, or_self, Option.some.injEq] at hy
              subst hy; rw [h0] at hby; cases hby
      | r r =>
        rw [hatr] at hx
        obtain ⟨c, hc⟩ := Option.isSome_iff_exists.1 (hm.live _ _ hx).2.2
        simp only
        rw [hrecs', getL_app (by rw [mapSR_length]; exact getL_lt hc), getL_mapSR, hc, Option.bind_some, hm.plain hc hx]; rfl
    · intro x y b' hx hy
      obtain ⟨x', hx', hbx⟩ := hren.src hx
      obtain ⟨y', hy', hby⟩ := hren.src hy
      have := hm.inj _ _ _ hbx hby
      subst this
      exact hren.inj _ _ _ hx' hy'
    · exact hm.below
    · intro k hk
      obtain ⟨g1, g2, g3⟩ := hm.fr k hk
      exact ⟨g1, g2, fun x hx => by obtain ⟨y, _, hy⟩ := hren.src hx; exact g3 y hy⟩
    · intro k hk
      obtain ⟨g1, g3⟩ := hm.xo k hk
      exact ⟨g1, fun x hx => by obtain ⟨y, _, hy⟩ := hren.src hx; exact g3 y hy⟩
    · have := hm.np; rw [hrl]; omega
    · intro r k hk
      obtain ⟨g1, g2⟩ := hm.pins r k hk
      refine ⟨g1, fun hsome => ?_⟩
      rw [hatr]
      exact g2 (hle.r r (Nat.lt_of_lt_of_le g1 hm.np) hsome).1
    · exact hm.gi
    · refine ⟨fun r' c' g1 g2 b' hb' => ?_, fun t' o' g1 g2 b' hb' => ?_⟩
      · rcases hgr g1 with ⟨_, c0, k1, k2, rfl⟩ | ⟨_, rfl⟩
        · rw [hatr] at hb'
          exact hm.bty.r r' c0 k1 (mapSL_bld (fun x q => focFx_bld _ _ x q) g2) b' hb'
        · simp [isBld] at g2
      · rcases hgn t' o' g1 with ht | rfl | rfl
        · rw [hgl t' ht] at g1
          rw [hatl t' ht] at hb'
          exact hm.bty.l t' o' g1 g2 b' hb'
        · rw [hgi] at g1; cases g1; cases g2
        · rw [hgk] at g1; cases g1; cases g2
    · intro r c hc
      rcases hgr hc with ⟨_, c0, k1, k2, k3⟩ | ⟨rfl, k3⟩
      · exact absurd k3.symm (mapSL_mark (focFx_mark _ _))
      · cases k3
        refine ⟨_, b, vs, hdp, rfl, (hatn 0 (by omega)).trans hb, hown, ?_⟩
        have hpl := hfr1.length
        simp only
        rw [e1, List.append_assoc, List.drop_append_of_le_length (by omega), List.drop_of_length_le (by omega), List.nil_append, List.take_append_of_le_length (by simp), List.take_of_length_le (by simp)]
        refine RepAVs.cons (by simp only [RepAV, Rep]) (RepAVs.cons (by simp only [RepAV, Rep]) (RepAVs.cons (by simp only [RepAV, Rep]) (RepAVs.cons hwi (RepAVs.one hwk))))
    · intro d' hd'
      rw [hdp] at hd'; cases hd'
      refine ⟨fun q hq => ?_, fun k b' hk => ?_, .inr ⟨b, vs, us1, [.int .i64 f.kind, .int .i64 f.n, .string ⟨f.s.toArray⟩, iv, kv] ++ rest, (hatn 0 (by omega)).trans hb, hown, hsz, hcap, by rw [e1, List.append_assoc], hfr1.monoN hN (show 2 * (0 + l.length) ≤ 2 * l.length by omega)⟩⟩
      · cases hq
        refine ⟨by simp only [cx, hrl]; omega, ?_⟩
        show μ'.at_ _ = none
        rw [hatr]
        cases hx : μ.at_ (.r st.recs.length) with
        | none => rfl
        | some b' =>
          obtain ⟨c, hc⟩ := Option.isSome_iff_exists.1 (hm.live _ _ hx).2.2
          exact absurd (getL_lt hc) (Nat.lt_irrefl _)
      · by_cases hk0 : k ≤ 2 * l.length
        · exact hk0
        · have : μ'.at_ (.n k) = some b' := hk
          rw [hatn2 k (by omega)] at this; cases this
    · exact hm.pinl.of (Nat.le_trans hm.pinl.1 hle.nl) fun t o' ht ho hm' => by obtain ⟨o, h1, h2, _, h3, _⟩ := hle.l t o' ht ho; exact ⟨o, h1, by rw [← h2]; exact hm', h3⟩
  · cases h
theorem drop_sound {S : Type} (hs : Sim A0 w0 st tmps w μ) {q j : Nat} (K : St → Option S) (r : S) (h : evG (.drop q j) st K = some r) : ∃ st', K st' = some r ∧ ∃ μ', Sim A0 w0 st' tmps w μ' := by
  simp only [evG] at h
  split at h
  · rename_i r' fs hcell
    rw [normSt_eq] at h
    refine ⟨_, h, ?_⟩
    clear h
    obtain ⟨v, hv⟩ := cellAt_some hs hcell
    simp only [RepSX] at hv
    obtain ⟨cap, b, hd, hb, rfl⟩ := hv
    have hm := hs.mem
    have hdeep := hm.deep _ hd
    obtain ⟨recs', hrecs'⟩ : ∃ x, x = mapSR (cutFx fs) st.recs := ⟨_, rfl⟩
    obtain ⟨μ', hμ'⟩ : ∃ μ' : Mu, μ' = { μ with dp := some ⟨none, cap, fs⟩ } := ⟨_, rfl⟩
    have hat : μ'.at_ = μ.at_ := by rw [hμ']
    have hcp : μ'.cap = μ.cap := by rw [hμ']
    have hdp : μ'.dp = some ⟨none, cap, fs⟩ := by rw [hμ']
    clear hμ'
    have hrl : recs'.length = st.recs.length := by rw [hrecs', mapSR_length]
    have hgr : ∀ {r c}, getL recs' r = some c → ∃ c0, getL st.recs r = some c0 ∧ isMark c0 = false ∧ c = mapSL (cutFx fs) c0 := fun h => by rw [hrecs'] at h; exact mapSR_some h
    refine ⟨μ', ?_⟩
    rw [← hrecs']
    have hImm : ∀ k, Imm A0 w0 μ w k → Imm A0 w0 μ' w k := fun k hk => ⟨hk.1, hk.2.1, fun x hx => hk.2.2 x (by rw [hat] at hx; exact hx)⟩
    have hle : (cx A0 w0 st.recs st.lsts w μ).LeS (cx A0 w0 recs' st.lsts w μ') :=
      ⟨hImm, fun _ _ => rfl, by simp only [cx, hrl]; exact Nat.le_refl _, Nat.le_refl _,
       fun r hr hsome => by
         obtain ⟨c, hc⟩ := Option.isSome_iff_exists.1 hsome
         obtain ⟨c0, g1, _⟩ := hgr hc
         exact ⟨by simp only [cx]; rw [g1]; rfl, by simp only [cx, hat]⟩,
       fun t o' ht ho => ⟨o', ho, rfl, rfl, by simp only [cx, hat], Mu.capOf_eq (by simp only [cx, hcp]) _⟩⟩
    have hfx : ∀ x v, RepSX (cx A0 w0 st.recs st.lsts w μ).μ (cx A0 w0 st.recs st.lsts w μ).keep x v → RepAV (cx A0 w0 recs' st.lsts w μ') (cutFx fs x) v := by
      intro x v hx
      unfold cutFx
      split
      · simp only [RepSX, cx] at hx
        obtain ⟨cap', b', g1, g2, rfl⟩ := hx
        rw [hd] at g1; cases g1
        rw [hb] at g2; cases g2
        simp only [RepAV, RepSX, cx]
        exact ⟨cap, hdp, by unfold hdrV; rw [hat, hb], fun h => by rw [hat, hb] at h; cases h⟩
      · simp only [RepAV]
    have hN : (cx A0 w0 st.recs st.lsts w μ).Deep1 (cx A0 w0 recs' st.lsts w μ') := ⟨hImm, fun _ _ => rfl, fun k _ => by simp only [cx, hat], fun _ _ _ _ => rfl⟩
    refine ⟨hs.slots.mapS hle hfx, ?_⟩
    constructor
    · intro r cells hr hk
      obtain ⟨c0, g1, g2, rfl⟩ := hgr hr
      obtain ⟨b', vs', hb', ho, hv⟩ := hm.hrec r c0 g1 g2
      exact ⟨b', vs', by rw [hat]; exact hb', ho, hv.mapS hle hfx⟩
    · intro t o ho
      rcases hm.hlst t o ho with ⟨g1, g2⟩ | ⟨b', vs', hb', ho', hsz, hc, us, rest, e, hr'⟩
      · exact .inl ⟨by simp only [cx, hat]; exact g1, g2⟩
      · exact .inr ⟨b', vs', by simp only [cx, hat]; exact hb', ho', by simp only [cx, hcp]; exact hsz, by simp only [cx, hcp]; exact hc, us, rest, e, hr'.imp fun x u hx => hx.mono hImm fun _ _ => rfl⟩
    · intro x b' hx
      rw [hat] at hx
      obtain ⟨g1, g2, g3⟩ := hm.live x b' hx
      refine ⟨g1, g2, ?_⟩
      cases x with
      | n k => simp only [hdp]; rfl
      | l t => exact g3
      | r r =>
        obtain ⟨c, hc⟩ := Option.isSome_iff_exists.1 g3
        simp only
        rw [hrecs', getL_mapSR, hc, Option.bind_some, hm.plain hc hx]; rfl
    · intro x y b' hx hy; rw [hat] at hx hy; exact hm.inj _ _ _ hx hy
    · exact hm.below
    · intro k hk
      obtain ⟨g1, g2, g3⟩ := hm.fr k hk
      exact ⟨g1, g2, fun x hx => g3 x (by rw [hat] at hx; exact hx)⟩
    · intro k hk
      obtain ⟨g1, g3⟩ := hm.xo k hk
      exact ⟨g1, fun x hx => g3 x (by rw [hat] at hx; exact hx)⟩
    · have := hm.np; rw [hrl]; exact this
    · intro r k hk
      obtain ⟨g1, g2⟩ := hm.pins r k hk
      refine ⟨g1, fun hsome => ?_⟩
      rw [hat]
      exact g2 (hle.r r (Nat.lt_of_lt_of_le g1 hm.np) hsome).1
    · exact hm.gi
    · refine ⟨fun r' c' g1 g2 b' hb' => ?_, fun t' o' g1 g2 b' hb' => ?_⟩
      · obtain ⟨c0, k1, k2, rfl⟩ := hgr g1
        rw [hat] at hb'
        exact hm.bty.r r' c0 k1 (mapSL_bld (fun x q => cutFx_bld _ x q) g2) b' hb'
      · rw [hat] at hb'
        exact hm.bty.l t' o' g1 g2 b' hb'
    · intro r c hc
      obtain ⟨c0, k1, k2, k3⟩ := hgr hc
      exact absurd k3.symm (mapSL_mark (cutFx_mark _))
    · intro d' hd'
      rw [hdp] at hd'; cases hd'
      refine ⟨fun q hq => (by cases hq), fun k b' hk => hdeep.lim k b' (by simp only [cx, hat] at hk; exact hk), ?_⟩
      rcases hdeep.row with ⟨g2, _⟩ | ⟨b2, vs, pre, rest, g2, g3, g4, g5, g6, g7⟩
      · rw [show (cx A0 w0 st.recs st.lsts w μ).μ.at_ (.n 0) = μ.at_ (.n 0) from rfl, hb] at g2; cases g2
      · exact .inr ⟨b2, vs, pre, rest, by simp only [cx, hat]; exact g2, g3, g4, by simp at g5 ⊢; omega, g6, g7.mono hN⟩
    · exact hm.pinl.of (Nat.le_trans hm.pinl.1 hle.nl) fun t o' ht ho hm' => by obtain ⟨o, h1, h2, _, h3, _⟩ := hle.l t o' ht ho; exact ⟨o, h1, by rw [← h2]; exact hm', h3⟩
  · cases h

structure Cx.LeK (ts : List Nat) (c c' : Cx) : Prop where
  A : ∀ b, c.A b → c'.A b
  w : ∀ b, c.A b → c'.w.heap[b]? = c.w.heap[b]?
  nr : c.recs.length ≤ c'.recs.length
  nl : c.lsts.length ≤ c'.lsts.length
  r : ∀ r, r < c.recs.length → (getL c'.recs r).isSome = true → (getL c.recs r).isSome = true ∧ c'.μ.at_ (.r r) = c.μ.at_ (.r r)
  l : ∀ t o', hasN t ts = false → t < c.lsts.length → getL c'.lsts t = some o' → ∃ o, getL c.lsts t = some o ∧ o'.e = o.e ∧ o'.len = o.len ∧ c'.μ.at_ (.l t) = c.μ.at_ (.l t) ∧ c'.μ.capOf o' t = c.μ.capOf o t
mutual
theorem RepAV.mapK {c c' : Cx} {f : SX → AV} {ts : List Nat} (h : c.LeK ts c') (hs : ∀ x v, RepSX c.μ c.keep x v → RepAV c' (f x) v) : ∀ {av v}, RepAV c av v → RepAV c' (av.mapK f ts) v
  | .d t x, v, hr => by simp only [RepAV, AV.mapK] at hr ⊢; exact hr.mono h.A h.w
  | .full e x, v, hr => by simp only [RepAV, AV.mapK] at hr ⊢; exact ⟨hr.1, hr.2.mono h.A h.w⟩
  | .nilS, v, hr => by simpa only [RepAV, AV.mapK] using hr
  | .whole t, v, hr => by
    simp only [AV.mapK]
    split
    · simp only [RepAV]
    · rename_i hn
      simp only [RepAV] at hr ⊢
      refine ⟨Nat.lt_of_lt_of_le hr.1 h.nl, hr.2.1, fun o' ho' => ?_⟩
      obtain ⟨o, ho, he, hl, hμ, hcap⟩ := h.l t o' hn hr.1 ho'
      exact (hr.2.2 o ho).tr he hl hμ hcap
  | .ptr r off, v, hr => by
    simp only [RepAV, AV.mapK] at hr ⊢
    refine ⟨Nat.lt_of_lt_of_le hr.1 h.nr, hr.2.1, fun hs => ?_⟩
    obtain ⟨h1, h2⟩ := h.r r hr.1 hs
    rw [h2]; exact hr.2.2 h1
  | .bld r, v, hr => by
    simp only [RepAV, AV.mapK] at hr ⊢
    refine ⟨Nat.lt_of_lt_of_le hr.1 h.nr, hr.2.1, fun hs => ?_⟩
    obtain ⟨h1, h2⟩ := h.r r hr.1 hs
    rw [h2]; exact hr.2.2 h1
  | .eptr t i off, v, hr => by
    simp only [AV.mapK]
    split
    · simp only [RepAV]
    · rename_i hn
      simp only [RepAV] at hr ⊢
      refine ⟨Nat.lt_of_lt_of_le hr.1 h.nl, hr.2.1, fun o' ho' => ?_⟩
      obtain ⟨o, ho, he, hl, hμ, hcap⟩ := h.l t o' hn hr.1 ho'
      rw [hμ, he]; exact hr.2.2 o ho
  | .pim cells, v, hr => by
    simp only [RepAV, AV.mapK] at hr ⊢
    obtain ⟨ad, us, e, hsp, hA, hc, hu⟩ := hr
    exact ⟨ad, us, e, hsp, h.A _ hA, hc.mono (h.w _ hA), hu.mapK h hs⟩
  | .agg l, v, hr => by simp only [RepAV, AV.mapK] at hr ⊢; obtain ⟨us, e, hu⟩ := hr; exact ⟨us, e, hu.mapK h hs⟩
  | .ifc q l, v, hr => by simp only [RepAV, AV.mapK] at hr ⊢; obtain ⟨us, e, hu⟩ := hr; exact ⟨us, e, hu.mapK h hs⟩
  | .tup l, v, hr => by simp only [RepAV, AV.mapK] at hr ⊢; obtain ⟨us, e, hu⟩ := hr; exact ⟨us, e, hu.mapK h hs⟩
  | .fn f a b, v, hr => by simp only [RepAV, AV.mapK] at hr ⊢; obtain ⟨a', b', e, h1, h2⟩ := hr; exact ⟨a', b', e, h1.mapK h hs, h2.mapK h hs⟩
  | .nilP, v, hr => by simpa only [RepAV, AV.mapK] using hr
  | .sx x, v, hr => by simp only [AV.mapK]; simp only [RepAV] at hr; exact hs x v hr
  | .dead, v, _ => by simp only [RepAV, AV.mapK]
theorem RepAVs.mapK {c c' : Cx} {f : SX → AV} {ts : List Nat} (h : c.LeK ts c') (hs : ∀ x v, RepSX c.μ c.keep x v → RepAV c' (f x) v) : ∀ {l vs}, RepAVs c l vs → RepAVs c' (mapKL f ts l) vs
  | [], _, hr => by simpa only [RepAVs, mapKL] using hr
  | x :: xs, _, hr => by
    simp only [RepAVs, mapKL] at hr ⊢
    obtain ⟨v, us, e, h1, h2⟩ := hr
    exact ⟨v, us, e, h1.mapK h hs, h2.mapK h hs⟩
end
theorem getL_mapKR (f : SX → AV) (ts : List Nat) (recs : List (Option (List AV))) (r : Nat) : getL (mapKR f ts recs) r = (getL recs r).bind fun c => match isMark c with | true => none | false => some (mapKL f ts c) := by
  unfold getL mapKR
  rw [List.getElem?_map]
  cases h : recs[r]? with
  | none => rfl
  | some x => cases x with
    | none => rfl
    | some c => cases hk : isMark c <;> simp [hk]
theorem mapKR_length (f : SX → AV) (ts : List Nat) (recs : List (Option (List AV))) : (mapKR f ts recs).length = recs.length := by simp [mapKR]
theorem mapKR_some {f : SX → AV} {ts : List Nat} {recs : List (Option (List AV))} {r : Nat} {c : List AV} (h : getL (mapKR f ts recs) r = some c) : ∃ c0, getL recs r = some c0 ∧ isMark c0 = false ∧ c = mapKL f ts c0 := by
  rw [getL_mapKR, Option.bind_eq_some_iff] at h
  obtain ⟨c0, h1, h2⟩ := h
  split at h2
  · cases h2
  · rename_i hk; cases h2; exact ⟨c0, h1, hk, rfl⟩
theorem mapKL_mark {f : SX → AV} {ts : List Nat} (hf : ∀ x, f x ≠ .sx .mark) : ∀ {l c : List AV}, mapKL f ts l ≠ .sx .mark :: c
  | [], c, h => by simp [mapKL] at h
  | v :: l, c, h => by
    simp only [mapKL, List.cons.injEq] at h
    have := h.1
    cases v <;> simp only [AV.mapK] at this <;> first | (cases this; done) | exact hf _ this | (split at this <;> cases this)
theorem mapKL_bld {f : SX → AV} {ts : List Nat} (hf : ∀ x r, f x ≠ .bld r) : ∀ {l : List AV}, isBld (mapKL f ts l) = true → isBld l = true
  | [], h => by simp [mapKL, isBld] at h
  | x :: l, h => by
    obtain ⟨r, l', e⟩ := isBld_some h
    simp only [mapKL, List.cons.injEq] at e
    have := e.1
    cases x <;> simp only [AV.mapK] at this <;> first | rfl | (cases this; done) | exact absurd this (hf _ _) | (split at this <;> cases this)
theorem clr_length : ∀ (ts : List Nat) (l : List (Option LObj)), (clr ts l).length = l.length
  | [], _ => rfl
  | t :: ts, l => by simp only [clr]; rw [clr_length ts]; simp
theorem hasN_self (q : Nat) (ts : List Nat) : hasN q (q :: ts) = true := by simp [hasN]
theorem hasN_ne {q t : Nat} {ts : List Nat} (h : t ≠ q) : hasN q (t :: ts) = hasN q ts := by
  have : Nat.beq t q = false := by
    cases hb : Nat.beq t q with
    | false => rfl
    | true => exact absurd (Nat.eq_of_beq_eq_true hb) h
  simp [hasN, this]
theorem getL_clr : ∀ (ts : List Nat) (l : List (Option LObj)) (q : Nat), getL (clr ts l) q = if hasN q ts = true then none else getL l q
  | [], _, _ => by simp [clr, hasN]
  | t :: ts, l, q => by
    simp only [clr]
    rw [getL_clr ts]
    by_cases e : t = q
    · subst e
      rw [hasN_self]
      have hs : getL (l.set t none) t = none := by
        unfold getL
        by_cases hlt : t < l.length
        · rw [List.getElem?_set_self hlt]
        · rw [List.getElem?_eq_none (by simp; omega)]
      rw [hs]; simp
    · rw [hasN_ne e]
      have hs : getL (l.set t none) q = getL l q := by unfold getL; rw [List.getElem?_set_ne e]
      rw [hs]
theorem ownNo_some {v : AV} {ts : List Nat} (h : ownNo v = some ts) : (∃ t, v = .whole t ∧ ts = [t]) ∨ (v = .nilS ∧ ts = []) := by
  unfold ownNo at h
  split at h
  · cases h; exact .inl ⟨_, rfl, rfl⟩
  · cases h; exact .inr ⟨rfl, rfl⟩
  · cases h
def unfSrc (n : Nat) (t1 t2 : List Nat) : Loc → Option Loc
  | .n k => if k = 2 * n + 1 then t1.head?.map .l else if k = 2 * n + 2 then t2.head?.map .l else some (.n k)
  | .l t => if hasN t (t1 ++ t2) = true then none else some (.l t)
  | .r r => some (.r r)
theorem unfSrc_inj {n : Nat} {t1 t2 : List Nat} (h1 : ∀ t, t1.head? = some t → hasN t (t1 ++ t2) = true) (h2 : ∀ t, t2.head? = some t → hasN t (t1 ++ t2) = true) (h12 : ∀ t, t1.head? = some t → t2.head? ≠ some t) :
    ∀ x y z, unfSrc n t1 t2 x = some z → unfSrc n t1 t2 y = some z → x = y := by
  intro x y z hx hy
  have key : ∀ x z, unfSrc n t1 t2 x = some z → (x = z ∧ (∀ t, z = .l t → hasN t (t1 ++ t2) = false) ∧ z ≠ .n (2 * n + 1) ∧ z ≠ .n (2 * n + 2)) ∨ (x = .n (2 * n + 1) ∧ ∃ t, z = .l t ∧ t1.head? = some t) ∨ (x = .n (2 * n + 2) ∧ ∃ t, z = .l t ∧ t2.head? = some t) := by
    intro x z hx
    cases x with
    | n k =>
      simp only [unfSrc] at hx
      split at hx
      · rename_i e
        obtain ⟨t, ht, rfl⟩ := Option.map_eq_some_iff.1 hx
        subst e; exact .inr (.inl ⟨rfl, t, rfl, ht⟩)
      · split at hx
        · rename_i e
          obtain ⟨t, ht, rfl⟩ := Option.map_eq_some_iff.1 hx
          subst e; exact .inr (.inr ⟨rfl, t, rfl, ht⟩)
        · cases hx
          exact .inl ⟨rfl, fun t h => (by cases h), (by simpa using ‹¬ k = 2 * n + 1›), (by simpa using ‹¬ k = 2 * n + 2›)⟩
    | l t =>
      simp only [unfSrc] at hx
      split at hx
      · cases hx
      · cases hx
        exact .inl ⟨rfl, fun t h => (by cases h; simpa using ‹¬ hasN t (t1 ++ t2) = true›), (by simp), (by simp)⟩
    | r r => simp only [unfSrc] at hx; cases hx; exact .inl ⟨rfl, fun t h => (by cases h), (by simp), (by simp)⟩
  rcases key x z hx with ⟨rfl, a1, a2, a3⟩ | ⟨rfl, t, rfl, ht⟩ | ⟨rfl, t, rfl, ht⟩ <;> rcases key y _ hy with ⟨rfl, b1, b2, b3⟩ | ⟨rfl, t', e, ht'⟩ | ⟨rfl, t', e, ht'⟩
  · rfl
  · subst e; have := h1 t' ht'; rw [a1 t' rfl] at this; cases this
  · subst e; have := h2 t' ht'; rw [a1 t' rfl] at this; cases this
  · have := h1 t ht; rw [b1 t rfl] at this; cases this
  · rfl
  · cases e; exact absurd ht' (h12 t ht)
  · have := h2 t ht; rw [b1 t rfl] at this; cases this
  · cases e; exact absurd ht (h12 t ht')
  · rfl
theorem nest_of (hm : Mem A0 w0 recs lsts w μ) {t1 : List Nat} {k : Nat} {e : Ty} {xs : List e.den} {ci : AV} {iv : Value} (ho : ownNo ci = some t1) (ha : asTy lsts (.list e) ci = some xs) (hr : RepAV (cx A0 w0 recs lsts w μ) ci iv)
    {c' : Cx} (hA : ∀ b, Imm A0 w0 μ w b → c'.A b) (hw : c'.w = w) (hat : c'.μ.at_ (.n k) = (t1.head?).bind fun t => μ.at_ (.l t)) : NestAt c' k e xs iv := by
  rcases ownNo_some ho with ⟨t, rfl, rfl⟩ | ⟨rfl, rfl⟩
  · simp only [asTy] at ha
    split at ha
    · rename_i o ho'
      cases hpl : o.e.isMap with
      | true => rw [hpl] at ha; cases ha
      | false =>
      rw [hpl] at ha
      dsimp only at ha
      split at ha
      · rename_i he
        obtain ⟨e', xs'⟩ := o
        cases he
        simp only [Option.some.injEq] at ha
        subst ha
        simp only [RepAV, cx] at hr
        have hwh := (WholeAt.plain hpl).1 (hr.2.2 _ ho')
        simp only [List.head?_cons, Option.bind_some] at hat
        rcases (LstAt.plain hpl).1 (hm.hlst t _ ho') with ⟨g1, g2⟩ | ⟨b, vs, g1, g2, g3, g4, us, rest, g5, g6⟩
        · rcases hwh with ⟨_, rfl⟩ | ⟨b, hb, _⟩
          · exact .inl ⟨hat.trans g1, g2, rfl⟩
          · rw [show (cx A0 w0 recs lsts w μ).μ.at_ (.l t) = μ.at_ (.l t) from rfl, hb] at g1; cases g1
        · rcases hwh with ⟨h3, _⟩ | ⟨b', hb', rfl⟩
          · rw [show (cx A0 w0 recs lsts w μ).μ.at_ (.l t) = μ.at_ (.l t) from rfl, h3] at g1; cases g1
          · rw [show (cx A0 w0 recs lsts w μ).μ.at_ (.l t) = μ.at_ (.l t) from rfl, hb'] at g1; cases g1
            refine .inr ⟨_, vs, μ.cap t, hat.trans hb', rfl, by rw [hw]; exact g2, g3, g4, us, rest, g5, g6.imp fun x u hx => hx.mono hA fun b hb => by rw [hw]; rfl⟩
      · cases ha
    · cases ha
  · simp only [asTy, Option.some.injEq] at ha
    simp only [RepAV] at hr
    subst ha; subst hr
    exact .inl ⟨by simpa using hat, rfl, rfl⟩
theorem unfocus_sound {S : Type} (hs : Sim A0 w0 st tmps w μ) {q j : Nat} (K : St → Option S) (r0 : S) (h : evG (.unfocus q j) st K = some r0) : ∃ st', K st' = some r0 ∧ ∃ μ', Sim A0 w0 st' tmps w μ' := by
  simp only [evG] at h
  split at h
  · rename_i r fs hcell
    split at h
    · rename_i c0 c1 c2 ci ck hcells
      split at h
      · rename_i t1 t2 hti htk
        split at h
        · rename_i hnd
          simp only [Option.bind_eq_some_iff] at h
          obtain ⟨kd, hkd, n, hn, s, hss, is, his, ks, hks, h⟩ := h
          rw [normSt_eq] at h
          refine ⟨_, h, ?_⟩
          clear h
          obtain ⟨f, hf⟩ : ∃ f, f = V.mk kd n s is ks := ⟨_, rfl⟩
          rw [← hf]
          obtain ⟨v, hv⟩ := cellAt_some hs hcell
          simp only [RepSX] at hv
          obtain ⟨cap, b, hd, hb, rfl, hcap⟩ := hv
          have hm := hs.mem
          have hdeep := hm.deep _ hd
          have hg := topCells_some hcells
          obtain ⟨d, b', vs, h3, h4, h5, hown, hrep⟩ := hm.htop r _ hg
          rw [show (cx A0 w0 st.recs st.lsts w μ).μ.dp = μ.dp from rfl, hd] at h3; cases h3
          rw [show (cx A0 w0 st.recs st.lsts w μ).μ.at_ (.n 0) = μ.at_ (.n 0) from rfl, hb] at h5; cases h5
          replace hown : Own w b vs := hown
          rcases hdeep.row with ⟨h6, _⟩ | ⟨b2, vs2, pre, rest, h6, h7, hsz, _, e1, hfr⟩
          · rw [show (cx A0 w0 st.recs st.lsts w μ).μ.at_ (.n 0) = μ.at_ (.n 0) from rfl, hb] at h6; cases h6
          rw [show (cx A0 w0 st.recs st.lsts w μ).μ.at_ (.n 0) = μ.at_ (.n 0) from rfl, hb] at h6; cases h6
          obtain rfl : vs = vs2 := by
            obtain ⟨_, k1⟩ := hown; obtain ⟨_, k2⟩ := h7
            rw [show (cx A0 w0 st.recs st.lsts w μ).w = w from rfl, k1] at k2; cases k2; rfl
          replace hrep : RepAVs (cx A0 w0 st.recs st.lsts w μ) [c0, c1, c2, ci, ck] ((vs.toList.drop (fs.length * 5)).take 5) := hrep
          have hpl : pre.length = fs.length * 5 := hfr.length
          have hdr : vs.toList.drop (fs.length * 5) = rest := by rw [e1, List.drop_append_of_le_length (by omega), List.drop_of_length_le (by omega), List.nil_append]
          rw [hdr] at hrep
          obtain ⟨v0, _, hu0, r1, hrep1⟩ := hrep.cons'
          obtain ⟨v1, _, rfl, r2, hrep2⟩ := hrep1.cons'
          obtain ⟨v2, _, rfl, r3, hrep3⟩ := hrep2.cons'
          obtain ⟨iv, _, rfl, r4, hrep4⟩ := hrep3.cons'
          obtain ⟨kv, rfl, r5⟩ := hrep4.one'
          have hrest : rest = [v0, v1, v2, iv, kv] ++ rest.drop 5 := by rw [← hu0, List.take_append_drop]
          have q0 := asTy_rep (c := cx A0 w0 st.recs st.lsts w μ) (A' := Imm A0 w0 μ w) (lsts := []) (fun _ h => h) (fun t o v h => no_lists t o v h) hkd r1
          have q1 := asTy_rep (c := cx A0 w0 st.recs st.lsts w μ) (A' := Imm A0 w0 μ w) (lsts := []) (fun _ h => h) (fun t o v h => no_lists t o v h) hn r2
          have q2 := asTy_rep (c := cx A0 w0 st.recs st.lsts w μ) (A' := Imm A0 w0 μ w) (lsts := []) (fun _ h => h) (fun t o v h => no_lists t o v h) hss r3
          simp only [Rep, List.cons.injEq, and_true] at q0 q1 q2
          subst q0; subst q1; subst q2
          obtain ⟨μ', hμ'⟩ : ∃ μ' : Mu, μ' = { μ with at_ := fun x => (unfSrc fs.length t1 t2 x).bind μ.at_, dp := some ⟨none, cap, fs ++ [f]⟩ } := ⟨_, rfl⟩
          have h1 : ∀ t, t1.head? = some t → hasN t (t1 ++ t2) = true := by
            intro t ht
            rcases ownNo_some hti with ⟨t', _, rfl⟩ | ⟨_, rfl⟩
            · simp at ht; subst ht; exact hasN_self _ _
            · simp at ht
          have h2 : ∀ t, t2.head? = some t → hasN t (t1 ++ t2) = true := by
            intro t ht
            rcases ownNo_some htk with ⟨t', _, rfl⟩ | ⟨_, rfl⟩
            · simp at ht; subst ht
              rcases ownNo_some hti with ⟨t'', _, rfl⟩ | ⟨_, rfl⟩
              · by_cases e : t'' = t'
                · subst e; exact hasN_self _ _
                · rw [List.cons_append, hasN_ne e]; exact hasN_self _ _
              · exact hasN_self _ _
            · simp at ht
          have h12 : ∀ t, t1.head? = some t → t2.head? ≠ some t := by
            intro t ht ht'
            rcases ownNo_some hti with ⟨t', _, rfl⟩ | ⟨_, rfl⟩ <;> rcases ownNo_some htk with ⟨t'', _, rfl⟩ | ⟨_, rfl⟩ <;> simp at ht ht'
            subst ht; subst ht'
            simp [nodupB, idx] at hnd
          have hren : Renamed μ μ' (unfSrc fs.length t1 t2) := ⟨fun x => by rw [hμ'], unfSrc_inj h1 h2 h12⟩
          have hatr : ∀ r, μ'.at_ (.r r) = μ.at_ (.r r) := fun r => by rw [hren.at_]; rfl
          have hatl : ∀ t, hasN t (t1 ++ t2) = false → μ'.at_ (.l t) = μ.at_ (.l t) := fun t ht => by rw [hren.at_]; simp [unfSrc, ht]
          have hatn : ∀ k, k ≤ 2 * fs.length → μ'.at_ (.n k) = μ.at_ (.n k) := fun k hk => by
            rw [hren.at_]; simp only [unfSrc]; rw [if_neg (by omega), if_neg (by omega)]; rfl
          have hati : μ'.at_ (.n (2 * fs.length + 1)) = (t1.head?).bind fun t => μ.at_ (.l t) := by
            rw [hren.at_]; simp only [unfSrc, if_true]; cases t1.head? <;> rfl
          have hatk : μ'.at_ (.n (2 * fs.length + 2)) = (t2.head?).bind fun t => μ.at_ (.l t) := by
            rw [hren.at_]; simp only [unfSrc, if_true]; rw [if_neg (by omega)]; cases t2.head? <;> rfl
          have hcp : μ'.cap = μ.cap := by rw [hμ']
          have hdp : μ'.dp = some ⟨none, cap, fs ++ [f]⟩ := by rw [hμ']
          clear hμ'
          obtain ⟨ts, hts⟩ : ∃ ts, ts = t1 ++ t2 := ⟨_, rfl⟩
          replace hatl : ∀ t, hasN t ts = false → μ'.at_ (.l t) = μ.at_ (.l t) := fun t ht => hatl t (by rw [← hts]; exact ht)
          rw [← hts]
          obtain ⟨recs', hrecs'⟩ : ∃ x, x = mapKR (unfFx (fs ++ [f])) ts st.recs := ⟨_, rfl⟩
          obtain ⟨lsts', hlsts'⟩ : ∃ x, x = clr ts st.lsts := ⟨_, rfl⟩
          have hrl : recs'.length = st.recs.length := by rw [hrecs', mapKR_length]
          have hll : lsts'.length = st.lsts.length := by rw [hlsts', clr_length]
          have hgr : ∀ {r c}, getL recs' r = some c → ∃ c0, getL st.recs r = some c0 ∧ isMark c0 = false ∧ c = mapKL (unfFx (fs ++ [f])) ts c0 := fun h => by rw [hrecs'] at h; exact mapKR_some h
          have hgl : ∀ {t o}, getL lsts' t = some o → hasN t ts = false ∧ getL st.lsts t = some o := fun {t o} h => by
            rw [hlsts', getL_clr] at h
            split at h
            · cases h
            · rename_i hh; exact ⟨by simpa using hh, h⟩
          refine ⟨μ', ?_⟩
          rw [← hrecs', ← hlsts']
          have hImm : ∀ k, Imm A0 w0 μ w k → Imm A0 w0 μ' w k := fun k hk => hren.imm hk
          have hle : (cx A0 w0 st.recs st.lsts w μ).LeK ts (cx A0 w0 recs' lsts' w μ') :=
            ⟨hImm, fun _ _ => rfl, by simp only [cx, hrl]; exact Nat.le_refl _, by simp only [cx, hll]; exact Nat.le_refl _,
             fun r hr hsome => by
               obtain ⟨c, hc⟩ := Option.isSome_iff_exists.1 hsome
               obtain ⟨c0, g1, _⟩ := hgr hc
               exact ⟨by simp only [cx]; rw [g1]; rfl, hatr r⟩,
             fun t o' hh ht ho => ⟨o', (hgl ho).2, rfl, rfl, hatl t hh, Mu.capOf_eq (by simp only [cx, hcp]) _⟩⟩
          have hfx : ∀ x v, RepSX (cx A0 w0 st.recs st.lsts w μ).μ (cx A0 w0 st.recs st.lsts w μ).keep x v → RepAV (cx A0 w0 recs' lsts' w μ') (unfFx (fs ++ [f]) x) v := by
            intro x v hx
            unfold unfFx
            split
            · simp only [RepSX, cx] at hx
              obtain ⟨cap', b', g1, g2, rfl, _⟩ := hx
              rw [hd] at g1; cases g1
              rw [hb] at g2; cases g2
              simp only [RepAV, RepSX, cx]
              exact ⟨cap, hdp, by unfold hdrV; rw [hatn 0 (by omega), hb]; simp, fun h => by rw [hatn 0 (by omega), hb] at h; cases h⟩
            · simp only [RepAV]
          have hN : (cx A0 w0 st.recs st.lsts w μ).DeepN (2 * fs.length) (cx A0 w0 recs' lsts' w μ') := ⟨hImm, fun _ _ => rfl, fun k _ hk => hatn k hk, fun _ _ _ _ _ => rfl⟩
          refine ⟨hs.slots.mapK hle hfx, ?_⟩
          constructor
          · intro r cells hr hk
            obtain ⟨c0, g1, g2, rfl⟩ := hgr hr
            obtain ⟨b', vs', hb', ho, hv⟩ := hm.hrec r c0 g1 g2
            exact ⟨b', vs', by rw [hatr]; exact hb', ho, hv.mapK hle hfx⟩
          · intro t o ho
            obtain ⟨hh, ho⟩ := hgl ho
            rcases hm.hlst t o ho with ⟨g1, g2⟩ | ⟨b', vs', hb', ho', hsz, hc, us, rest, e, hr'⟩
            · exact .inl ⟨(hatl t hh).trans g1, g2⟩
            · exact .inr ⟨b', vs', (hatl t hh).trans hb', ho', by simp only [cx, hcp]; exact hsz, by simp only [cx, hcp]; exact hc, us, rest, e, hr'.imp fun x u hx => hx.mono hImm fun _ _ => rfl⟩
          · intro x b' hx
            obtain ⟨y, hy, hby⟩ := hren.src hx
            obtain ⟨g1, g2, g3⟩ := hm.live y b' hby
            refine ⟨g1, g2, ?_⟩
            cases x with
            | n k => simp only [hdp]; rfl
            | l t =>
              simp only [unfSrc, ← hts] at hy
              split at hy
              · cases hy
              · rename_i hh
                cases hy
                simp only
                rw [hlsts', getL_clr, if_neg hh]; exact g3
            | r r =>
              rw [hatr] at hx
              obtain ⟨c, hc⟩ := Option.isSome_iff_exists.1 (hm.live _ _ hx).2.2
              simp only
              rw [hrecs', getL_mapKR, hc, Option.bind_some, hm.plain hc hx]; rfl
          · intro x y b' hx hy
            obtain ⟨x', hx', hbx⟩ := hren.src hx
            obtain ⟨y', hy', hby⟩ := hren.src hy
            have := hm.inj _ _ _ hbx hby
            subst this
            exact hren.inj _ _ _ hx' hy'
          · exact hm.below
          · intro k hk
            obtain ⟨g1, g2, g3⟩ := hm.fr k hk
            exact ⟨g1, g2, fun x hx => by obtain ⟨y, _, hy⟩ := hren.src hx; exact g3 y hy⟩
          · intro k hk
            obtain ⟨g1, g3⟩ := hm.xo k hk
            exact ⟨g1, fun x hx => by obtain ⟨y, _, hy⟩ := hren.src hx; exact g3 y hy⟩
          · have := hm.np; rw [hrl]; exact this
          · intro r k hk
            obtain ⟨g1, g2⟩ := hm.pins r k hk
            refine ⟨g1, fun hsome => ?_⟩
            rw [hatr]
            exact g2 (hle.r r (Nat.lt_of_lt_of_le g1 hm.np) hsome).1
          · exact hm.gi
          · refine ⟨fun r' c' g1 g2 b' hb' => ?_, fun t' o' g1 g2 b' hb' => ?_⟩
            · obtain ⟨c0, k1, k2, rfl⟩ := hgr g1
              rw [hatr] at hb'
              exact hm.bty.r r' c0 k1 (mapKL_bld (fun x q => unfFx_bld _ x q) g2) b' hb'
            · obtain ⟨hh, ho⟩ := hgl g1
              rw [hatl t' hh] at hb'
              exact hm.bty.l t' o' ho g2 b' hb'
          · intro r c hc
            obtain ⟨c0, k1, k2, k3⟩ := hgr hc
            exact absurd k3.symm (mapKL_mark (unfFx_mark _))
          · intro d' hd'
            rw [hdp] at hd'; cases hd'
            refine ⟨fun q hq => (by cases hq), fun k b' hk => ?_, .inr ⟨b, vs, pre ++ [.int .i64 f.kind, .int .i64 f.n, .string ⟨f.s.toArray⟩, iv, kv], rest.drop 5, (hatn 0 (by omega)).trans hb, hown, hsz, by simp; exact hcap, ?_, FramesAt.snoc.2 ⟨pre, iv, kv, rfl, hfr.monoN hN (show 2 * (0 + fs.length) ≤ 2 * fs.length by omega), ?_, ?_⟩⟩⟩
            · have hk' : μ'.at_ (.n k) = some b' := hk
              simp only [List.length_append, List.length_singleton]
              by_cases e2 : k ≤ 2 * fs.length + 2
              · omega
              · exfalso
                rw [hren.at_] at hk'
                simp only [unfSrc] at hk'
                rw [if_neg (by omega), if_neg (by omega)] at hk'
                have := hdeep.lim k b' hk'
                simp at this; omega
            · rw [e1, hf]; simp only [V.kind, V.n, V.s]; rw [List.append_assoc]; congr 1
            · rw [hf]; simp only [V.items, Nat.zero_add]
              exact nest_of hm hti his r4 hImm rfl hati
            · rw [hf]; simp only [V.keys, Nat.zero_add]
              exact nest_of hm htk hks r5 hImm rfl hatk
          · exact hm.pinl.of (Nat.le_trans hm.pinl.1 hle.nl) fun t o' ht ho hm' => by
              obtain ⟨hh, ho⟩ := hgl ho
              exact ⟨o', ho, hm', hatl t hh⟩
        · cases h
      · cases h
    · cases h
  · cases h
theorem evG_sound {S : Type} (hs : Sim A0 w0 st tmps w μ) (g : GS) (K : St → Option S) (r : S) (h : evG g st K = some r) : ∃ st', K st' = some r ∧ ∃ μ', Sim A0 w0 st' tmps w μ' := by
  cases g with
  | focus q j => exact focus_sound hs K r h
  | unfocus q j => exact unfocus_sound hs K r h
  | drop q j => exact drop_sound hs K r h
  | forget t j =>
    simp only [evG, normSt_eq] at h
    obtain ⟨μ', h1, _⟩ := hs.freeze1 t
    exact ⟨_, h, μ', h1⟩
theorem evGs_sound {S : Type} : ∀ (l : List GS) {st : St} {μ : Mu} (_ : Sim A0 w0 st tmps w μ) (K : St → Option S) (r : S), evGs l st K = some r → ∃ st', K st' = some r ∧ ∃ μ', Sim A0 w0 st' tmps w μ'
  | [], st, μ, hs, K, r, h => ⟨st, h, μ, hs⟩
  | g :: l, st, μ, hs, K, r, h => by
    obtain ⟨st1, h1, μ1, hs1⟩ := evG_sound hs g _ r h
    exact evGs_sound l hs1 K r h1
end
end Go.Pe
end
section
namespace Go.Pe
open Go.RowKit
set_option linter.unusedSectionVars false
variable [GI]
set_option linter.unusedSimpArgs false
set_option linter.unusedVariables false

@[reducible] def OutDen : List (Ex × Shape) → Type
  | [] => Empty
  | [(_, sh)] => sh.den
  | (_, sh) :: q :: r => sh.den ⊕ OutDen (q :: r)
def packOut : (outs : List (Ex × Shape)) → Ex → St → Option (OutDen outs)
  | [], _, _ => none
  | [(e, sh)], ex, st => if ex = e then abs sh st else none
  | (e, sh) :: q :: r, ex, st => if ex = e then (abs sh st).map .inl else (packOut (q :: r) ex st).map .inr
def unOut : (outs : List (Ex × Shape)) → OutDen outs → Ex × St
  | [(e, sh)], z => (e, fill sh z)
  | (e, sh) :: _ :: _, .inl z => (e, fill sh z)
  | _ :: q :: r, .inr o => unOut (q :: r) o
def unOutK {S : Type} : (outs : List (Ex × Shape)) → OutDen outs → (Ex → St → Option S) → Option S
  | [], _, _ => none
  | [(e, sh)], z, K => K e (fill sh z)
  | (e, sh) :: q :: r, o, K => match o with | .inl z => K e (fill sh z) | .inr o => unOutK (q :: r) o K
theorem unOutK_eq {S : Type} : ∀ (outs : List (Ex × Shape)) (o : OutDen outs) (K : Ex → St → Option S), unOutK outs o K = K (unOut outs o).1 (unOut outs o).2
  | [], o, _ => nomatch o
  | [(e, sh)], z, K => rfl
  | (e, sh) :: q :: r, .inl z, K => rfl
  | (e, sh) :: q :: r, .inr o, K => unOutK_eq (q :: r) o K
def npOf (I : Shape) : Nat := I.recs.length % 64 + 64 * I.lsts.length
def fits (np : Nat) (sh : Shape) : Bool := Nat.ble (np % 64) sh.recs.length && Nat.ble (np / 64) sh.lsts.length
def Under (A0 : Dom) (np : Nat) : Prop := A0.np ≤ np % 64 ∧ A0.nl ≤ np / 64
theorem fits_abs {A0 : Dom} {np : Nat} {sh : Shape} (hu : Under A0 np) (h : fits np sh = true) : A0.np ≤ sh.recs.length ∧ A0.nl ≤ sh.lsts.length := by
  simp only [fits, Bool.and_eq_true] at h
  exact ⟨Nat.le_trans hu.1 (Nat.le_of_ble_eq_true h.1), Nat.le_trans hu.2 (Nat.le_of_ble_eq_true h.2)⟩
def outsOk (np : Nat) : List (Ex × Shape) → Bool
  | [] => true
  | (_, sh) :: r => fits np sh && outsOk np r
theorem packOut_sound {A0 w0 w st} {tmps : Array Value} {μ} (hs : Sim A0 w0 st tmps w μ) {ex : Ex} {np : Nat} (hu : Under A0 np) : ∀ {outs : List (Ex × Shape)} {o : OutDen outs}, outsOk np outs = true → packOut outs ex st = some o → (unOut outs o).1 = ex ∧ ∃ μ', Sim A0 w0 (unOut outs o).2 tmps w μ'
  | [], _, _, h => by simp [packOut] at h
  | [(e, sh)], o, hn, h => by
    simp only [outsOk, Bool.and_eq_true] at hn
    simp only [packOut] at h
    split at h
    · rename_i he
      exact ⟨he.symm, _, abs_sound hs (fits_abs hu hn.1).1 (fits_abs hu hn.1).2 h⟩
    · cases h
  | (e, sh) :: q :: r, o, hn, h => by
    rw [outsOk, Bool.and_eq_true] at hn
    simp only [packOut] at h
    split at h
    · rename_i he
      simp only [Option.map_eq_some_iff] at h
      obtain ⟨z, hz, rfl⟩ := h
      exact ⟨he.symm, _, abs_sound hs (fits_abs hu hn.1).1 (fits_abs hu hn.1).2 hz⟩
    · simp only [Option.map_eq_some_iff] at h
      obtain ⟨z, hz, rfl⟩ := h
      exact packOut_sound (outs := q :: r) (o := z) hs hu hn.2 hz

structure Dom.Ext (A0 A1 : Dom) : Prop where
  A : A1.A = A0.A
  X : ∀ b, A0.X b → A1.X b
  pin : A1.pin = A0.pin
  np : A1.np = A0.np
  keep : A1.keep = A0.keep
  pinl : A1.pinl = A0.pinl
  nl : A1.nl = A0.nl
  F : ∀ b, A0.F b → A1.F b ∧ A1.wF.heap[b]? = A0.wF.heap[b]?
theorem Dom.Ext.refl (A0 : Dom) : A0.Ext A0 := ⟨rfl, fun _ h => h, rfl, rfl, rfl, rfl, rfl, fun _ h => ⟨h, rfl⟩⟩
theorem Dom.Ext.trans {A0 A1 A2 : Dom} (h : A0.Ext A1) (k : A1.Ext A2) : A0.Ext A2 :=
  ⟨k.A.trans h.A, fun b hb => k.X b (h.X b hb), k.pin.trans h.pin, k.np.trans h.np, k.keep.trans h.keep, k.pinl.trans h.pinl, k.nl.trans h.nl, fun b hb => by obtain ⟨h1, h2⟩ := h.F b hb; obtain ⟨h3, h4⟩ := k.F b h1; exact ⟨h3, h4.trans h2⟩⟩
theorem Dom.Ext.imm {A0 A1 : Dom} (h : A0.Ext A1) {w0 w : World} {μ : Mu} {b : Nat} (hb : Imm A1 w0 μ w b) : Imm A0 w0 μ w b := by
  have := hb.1.1
  rw [h.A] at this
  exact ⟨⟨this, fun hx => hb.1.2 (h.X b hx)⟩, hb.2⟩
theorem Dom.Ext.le {A0 A1 : Dom} (h : A0.Ext A1) (w0 : World) (recs : List (Option (List AV))) (lsts : List (Option LObj)) (w : World) (μ : Mu) : (cx A1 w0 recs lsts w μ).Le (cx A0 w0 recs lsts w μ) :=
  ⟨fun _ hb => h.imm hb, fun _ _ => rfl, Nat.le_refl _, Nat.le_refl _, fun _ _ hs => ⟨hs, rfl⟩, fun _ o _ ho => ⟨o, ho, rfl, rfl, rfl, rfl⟩, fun x v hx => by simp only [cx] at hx ⊢; rw [← h.keep]; exact hx⟩
theorem LstAt.imp {c c' : Cx} {t : Nat} {o : LObj} (hle : c.Le c') (hw : c'.w = c.w) (hμ : c'.μ = c.μ) (h : LstAt c t o) : LstAt c' t o := by
  rcases h with ⟨h1, h2⟩ | ⟨b, vs, hb, ho, hsz, hc, us, rest, e, hr⟩
  · exact .inl ⟨by rw [hμ]; exact h1, h2⟩
  · exact .inr ⟨b, vs, by rw [hμ]; exact hb, by rw [hw]; exact ho, by rw [hμ]; exact hsz, by rw [hμ]; exact hc, us, rest, e, hr.imp fun x u hx => hx.mono hle.A hle.w⟩
theorem Dom.Ext.sim {A0 A1 : Dom} (h : A0.Ext A1) {w0 w : World} {st : St} {tmps : Array Value} {μ : Mu} (hs : Sim A1 w0 st tmps w μ) : Sim A0 w0 st tmps w μ := by
  have hle := h.le w0 st.recs st.lsts w μ
  have hm := hs.mem
  refine ⟨hs.slots.mono hle, ?_, ?_, hm.live, hm.inj, hm.below, ?_, fun b hb => hm.xo b (h.X b hb), ?_, ?_, hm.gi, hm.bty, fun r c hr => (hm.htop r c hr).imp (c := cx A1 w0 st.recs st.lsts w μ) rfl rfl (fun _ _ => rfl) fun us hu => hu.mono hle, fun d hd => (hm.deep d hd).mono (c := cx A1 w0 st.recs st.lsts w μ) ⟨hle.A, hle.w, fun _ => rfl, fun _ _ _ => rfl, Nat.le_refl _, fun _ _ h => h⟩, ⟨by rw [← h.nl]; exact hm.pinl.1, by rw [← h.nl, ← h.pinl]; exact hm.pinl.2⟩⟩
  · intro r cells hr hk
    obtain ⟨b, vs, h1, h2, h3⟩ := hm.hrec r cells hr hk
    exact ⟨b, vs, h1, h2, h3.mono hle⟩
  · intro t o ht; exact (hm.hlst t o ht).imp hle rfl rfl
  · intro b hb
    obtain ⟨h1, h2⟩ := h.F b hb
    obtain ⟨h3, h4, h5⟩ := hm.fr b h1
    exact ⟨h3, h4.trans h2, h5⟩
  · rw [← h.np]; exact hm.np
  · rw [← h.pin, ← h.np]; exact hm.pins
theorem Under.ext {A0 A1 : Dom} {np : Nat} (h : Under A0 np) (he : A0.Ext A1) : Under A1 np := ⟨by rw [he.np]; exact h.1, by rw [he.nl]; exact h.2⟩
def PieceSound (P : Program) (np : Nat) (tp : Bool) (c : Code) (sh : Shape) (outs : List (Ex × Shape)) (F : sh.den → Option (OutDen outs)) : Prop :=
  fits np sh = true ∧ ∀ y o, F y = some o → ∀ (ρ : Option Nat) (n : Nat) (B A0 : Dom) (w0 : World) (Q : Exit → Act → World → Prop) (a : Act) (w : World) (μ : Mu), (tp = true → ρ = none) → B.Ext A0 → Under A0 np → Sim A0 w0 (fill sh y) a.tmps w μ → Dok B w0 A0 a.defers →
    (∀ A1 tm E a' w' μ', A0.Ext A1 → Sim A1 w0 (unOut outs o).2 tm w' μ' → Lands (unOut outs o).1 tm a' E → Dok B w0 A1 a'.defers → Q E a' w') → c.wpIn (Fr ρ) n P Q a w

inductive Ann (P : Program) (np : Nat) (tp : Bool) : Code → Type 1
  | leaf (c : Code) : Ann P np tp c
  | seq {a b : Code} (x : Ann P np tp a) (y : Ann P np tp b) : Ann P np tp (.seq a b)
  | cond {c : Operand} {a b : Code} (x : Ann P np tp a) (y : Ann P np tp b) : Ann P np tp (.cond c a b)
  | block {id : Nat} {c : Code} (x : Ann P np tp c) : Ann P np tp (.block id c)
  | piece {c : Code} (sh : Shape) (outs : List (Ex × Shape)) (F : sh.den → Option (OutDen outs)) (h : PieceSound P np tp c sh outs F) : Ann P np tp c
  | gho {c : Code} (pre post : List GS) (x : Ann P np tp c) : Ann P np tp c

noncomputable def evA (ε : Env) {P : Program} {np : Nat} {tp : Bool} {S : Type} : {c : Code} → Ann P np tp c → St → (Ex → St → Option S) → Option S
  | _, .leaf c, st, K => evC ε c st K
  | _, .seq x y, st, K => evA ε x st fun ex st' => match ex with | .normal => evA ε y st' K | e => K e st'
  | _, .cond (c := c) x y, st, K => (match st.ev c with | .d .bool b => cond b (evA ε x st K) (evA ε y st K) | _ => none)
  | _, .block (id := id) x, st, K => evA ε x st fun ex st' => match ex with | .exit j => if j = id then K .normal st' else K (.exit j) st' | e => K e st'
  | _, .piece sh outs F _, st, K => (abs sh st).bind fun y => (F y).bind fun o => unOutK outs o K
  | _, .gho pre post x, st, K => evGs pre st fun st1 => evA ε x st1 fun ex st' => match ex with | .normal => evGs post st' (K .normal) | e => K e st'

section
variable {P : Program} {B : Dom} {w0 : World} {S : Type}
variable {ε : Env} (hε : EnvOk P ε)
include hε

theorem evA_sound {np : Nat} {tp : Bool} {ρ : Option Nat} (hρ : tp = true → ρ = none) {n : Nat} {r : S} : ∀ {c : Code} (x : Ann P np tp c) {A0 : Dom} (_ : B.Ext A0) (_ : Under A0 np) {Q : Exit → Act → World → Prop} (K : Ex → St → Option S)
    (_ : ∀ A1 ex st' tm E a' w' μ', A0.Ext A1 → K ex st' = some r → Sim A1 w0 st' tm w' μ' → Lands ex tm a' E → Dok B w0 A1 a'.defers → Q E a' w')
    (st : St) (a : Act) (w : World) (μ : Mu), evA ε x st K = some r → Sim A0 w0 st a.tmps w μ → Dok B w0 A0 a.defers → c.wpIn (Fr ρ) n P Q a w
  | _, .leaf c, A0, hB, hnp, Q, K, hK, st, a, w, μ, h, hs, hd => evC_sound (Dk := Dok B w0 A0) hε c K (fun ex st' tm E a' w' μ' h1 h2 hl h3 => hK A0 ex st' tm E a' w' μ' (Dom.Ext.refl _) h1 h2 hl h3) st a w μ h hs hd
  | _, .seq x y, A0, hB, hnp, Q, K, hK, st, a, w, μ, h, hs, hd => by
    simp only [evA] at h
    refine wpIn_seq (evA_sound hρ x hB hnp _ (fun A1 ex st' tm E a' w' μ' he h1 h2 hl h3 => ?_) st a w μ h hs hd)
    cases ex with
    | normal => obtain ⟨rfl, rfl⟩ := hl; exact evA_sound hρ y (hB.trans he) (hnp.ext he) K (fun A2 ex st' tm E a' w' μ' he2 => hK A2 ex st' tm E a' w' μ' (he.trans he2)) st' a' w' μ' h1 h2 h3
    | exit id => obtain ⟨rfl, rfl⟩ := hl; exact hK A1 (.exit id) st' _ _ a' w' μ' he h1 h2 ⟨rfl, rfl⟩ h3
    | ret => obtain ⟨rfl, rfl⟩ := hl; exact hK A1 .ret st' _ _ a' w' μ' he h1 h2 ⟨rfl, rfl⟩ h3
    | panic => obtain ⟨v, rfl, rfl⟩ := hl; exact hK A1 .panic st' _ _ a' w' μ' he h1 h2 ⟨v, rfl, rfl⟩ h3
  | _, .cond (c := c) x y, A0, hB, hnp, Q, K, hK, st, a, w, μ, h, hs, hd => by
    simp only [evA] at h
    split at h
    · rename_i b hc
      have hcr := ev_rep hs.slots c
      rw [hc] at hcr
      simp only [RepAV, Rep, List.cons.injEq, and_true] at hcr
      cases b with
      | true => exact wpIn_cond_true hcr (evA_sound hρ x hB hnp K hK st a w μ h hs hd)
      | false => exact wpIn_cond_false hcr (evA_sound hρ y hB hnp K hK st a w μ h hs hd)
    · cases h
  | _, .block (id := id) x, A0, hB, hnp, Q, K, hK, st, a, w, μ, h, hs, hd => by
    simp only [evA] at h
    refine wpIn_block (evA_sound hρ x hB hnp _ (fun A1 ex st' tm E a' w' μ' he h1 h2 hl h3 => ?_) st a w μ h hs hd)
    cases ex with
    | normal => obtain ⟨rfl, rfl⟩ := hl; exact hK A1 .normal st' _ _ a' w' μ' he h1 h2 ⟨rfl, rfl⟩ h3
    | exit j =>
      obtain ⟨rfl, rfl⟩ := hl
      simp only at h1
      simp only [Ex.out, Exit.inBlock]
      split at h1
      · rename_i e; rw [if_pos e]; exact hK A1 .normal st' _ _ a' w' μ' he h1 h2 ⟨rfl, rfl⟩ h3
      · rename_i e; rw [if_neg e]; exact hK A1 (.exit j) st' _ _ a' w' μ' he h1 h2 ⟨rfl, rfl⟩ h3
    | ret => obtain ⟨rfl, rfl⟩ := hl; exact hK A1 .ret st' _ _ a' w' μ' he h1 h2 ⟨rfl, rfl⟩ h3
    | panic => obtain ⟨v, rfl, rfl⟩ := hl; exact hK A1 .panic st' _ _ a' w' μ' he h1 h2 ⟨v, rfl, rfl⟩ h3
  | _, .piece sh outs F hF, A0, hB, hnp, Q, K, hK, st, a, w, μ, h, hs, hd => by
    simp only [evA, Option.bind_eq_some_iff] at h
    obtain ⟨y, hy, o, ho, h⟩ := h
    rw [unOutK_eq] at h
    exact hF.2 y o ho ρ n B A0 w0 Q a w _ hρ hB hnp (abs_sound hs (fits_abs hnp hF.1).1 (fits_abs hnp hF.1).2 hy) hd fun A1 tm E a' w' μ' he h1 hl h2 => hK A1 _ _ tm E a' w' μ' he h h1 hl h2
  | _, .gho pre post x, A0, hB, hnp, Q, K, hK, st, a, w, μ, h, hs, hd => by
    simp only [evA] at h
    obtain ⟨st1, h1, μ1, hs1⟩ := evGs_sound pre hs _ r h
    refine evA_sound hρ x hB hnp _ (fun A1 ex st' tm E a' w' μ' he h1 h2 hl h3 => ?_) st1 a w μ1 h1 hs1 hd
    cases ex with
    | normal =>
      obtain ⟨rfl, rfl⟩ := hl
      obtain ⟨st2, h4, μ2, hs2⟩ := evGs_sound post h2 _ r h1
      exact hK A1 .normal st2 _ _ a' w' μ2 he h4 hs2 ⟨rfl, rfl⟩ h3
    | exit id => obtain ⟨rfl, rfl⟩ := hl; exact hK A1 (.exit id) st' _ _ a' w' μ' he h1 h2 ⟨rfl, rfl⟩ h3
    | ret => obtain ⟨rfl, rfl⟩ := hl; exact hK A1 .ret st' _ _ a' w' μ' he h1 h2 ⟨rfl, rfl⟩ h3
    | panic => obtain ⟨v, rfl, rfl⟩ := hl; exact hK A1 .panic st' _ _ a' w' μ' he h1 h2 ⟨v, rfl, rfl⟩ h3

omit hε in
theorem piece_of (hε : EnvOk P ε) {np : Nat} {tp : Bool} {c : Code} (x : Ann P np tp c) {sh : Shape} {outs : List (Ex × Shape)} {F : sh.den → Option (OutDen outs)} (h1 : fits np sh = true) (h2 : outsOk np outs = true) (h : ∀ y, F y = evA ε x (fill sh y) (packOut outs)) : PieceSound P np tp c sh outs F := by
  refine ⟨h1, ?_⟩
  intro y o ho ρ n B A0 w0 Q a w μ hρ hB hnp hs hd hQ
  rw [h] at ho
  have hok := h2
  refine evA_sound (B := B) hε hρ x hB hnp _ (fun A1 ex st' tm E a' w' μ' he h1 h2 hl h3 => ?_) _ a w μ ho hs hd
  obtain ⟨e, μ2, h4⟩ := packOut_sound h2 (hnp.ext he) hok h1
  exact hQ A1 tm E a' w' μ2 he h4 (by rw [e]; exact hl) h3

omit hε in
def iter {α β : Type} (step : (α → Option β) → α → Option β) : Nat → α → Option β
  | 0 => fun _ => none
  | n + 1 => step (iter step n)
omit hε in
theorem loop_of (hε : EnvOk P ε) {np : Nat} {tp : Bool} {c : Code} (x : Ann P np tp c) {sh : Shape} {outs : List (Ex × Shape)} {step : (sh.den → Option (OutDen outs)) → sh.den → Option (OutDen outs)}
    (h1 : fits np sh = true) (h2 : outsOk np outs = true) (h : ∀ rec y, step rec y = evA ε x (fill sh y) (fun ex st => match ex with | .normal => (abs sh st).bind rec | e => packOut outs e st)) : ∀ n, PieceSound P np tp (.loop c) sh outs (iter step n) := by
  intro m
  refine ⟨h1, ?_⟩
  have hfit := h1
  have hok := h2
  intro y o ho ρ n B A0 w0 Q a w μ hρ hB hnp hs hd hQ
  refine wpIn_loop_rounds m ?_
  induction m generalizing y a w μ A0 with
  | zero => simp [iter] at ho
  | succ m ih =>
    rw [roundsIn_succ]
    simp only [iter] at ho
    rw [h] at ho
    refine evA_sound (B := B) (w0 := w0) hε hρ x hB hnp _ (fun A1 ex st' tm E a' w' μ' he h1 h2 hl h3 => ?_) _ a w μ ho hs hd
    have hnp1 : Under A1 np := hnp.ext he
    have out : ∀ ex, packOut outs ex st' = some o → Lands ex tm a' E → Q E a' w' := fun ex h1 hl => by
      obtain ⟨e, μ2, h4⟩ := packOut_sound h2 hnp1 hok h1
      exact hQ A1 tm E a' w' μ2 he h4 (by rw [e]; exact hl) h3
    cases ex with
    | normal =>
      obtain ⟨rfl, rfl⟩ := hl
      simp only [Option.bind_eq_some_iff] at h1
      obtain ⟨y', hy', h1⟩ := h1
      exact ih y' h1 A1 a' w' _ (hB.trans he) hnp1 (abs_sound h2 (fits_abs hnp1 hfit).1 (fits_abs hnp1 hfit).2 hy') h3 fun A2 tm2 E2 a2 w2 μ2 he2 => hQ A2 tm2 E2 a2 w2 μ2 (he.trans he2)
    | exit id => obtain ⟨rfl, rfl⟩ := hl; exact out (.exit id) h1 ⟨rfl, rfl⟩
    | ret => obtain ⟨rfl, rfl⟩ := hl; exact out .ret h1 ⟨rfl, rfl⟩
    | panic => obtain ⟨v, rfl, rfl⟩ := hl; exact out .panic h1 ⟨v, rfl, rfl⟩
end

inductive KD where
  | one (t : Ty) | agg (ts : List Ty)
@[reducible] def tysDen : List Ty → Type
  | [] => Unit
  | t :: r => t.den × tysDen r
@[reducible] def KD.den : KD → Type
  | .one t => t.den
  | .agg ts => tysDen ts
@[reducible] def argsDen : List KD → Type
  | [] => Unit
  | k :: r => k.den × argsDen r
def encTys : (ts : List Ty) → tysDen ts → List AV
  | [], _ => []
  | t :: r, x => .d t x.1 :: encTys r x.2
def decTys : (ts : List Ty) → List AV → Option (tysDen ts)
  | [], [] => some ()
  | t :: r, v :: vs => (asTy [] t v).bind fun x => (decTys r vs).bind fun y => some (x, y)
  | _, _ => none
def KD.enc : (k : KD) → k.den → AV
  | .one t, x => .d t x
  | .agg ts, x => .agg (encTys ts x)
def KD.dec : (k : KD) → AV → Option k.den
  | .one t, v => asTy [] t v
  | .agg ts, .agg l => decTys ts l
  | .agg _, _ => none
def encArgs : (ks : List KD) → argsDen ks → List AV
  | [], _ => []
  | k :: r, x => k.enc x.1 :: encArgs r x.2
def decArgs : (ks : List KD) → List AV → Option (argsDen ks)
  | [], [] => some ()
  | k :: r, v :: vs => (k.dec v).bind fun x => (decArgs r vs).bind fun y => some (x, y)
  | _, _ => none
def encRes (ks : List KD) (x : argsDen ks) : AV := resVal (encArgs ks x)
def decRes : (ks : List KD) → AV → Option (argsDen ks)
  | [k], v => (k.dec v).bind fun x => some (x, ())
  | ks, .tup l => decArgs ks l
  | _, _ => none

theorem asTy_single {A w} {t : Ty} {v : AV} {x : t.den} {val : Value} (h : asTy [] t v = some x) (hr : RepAV (c0 A w) v val) : RepAV (c0 A w) (.d t x) val := by
  simp only [RepAV]
  exact asTy_rep (c := c0 A w) (A' := A) (fun _ h => h) (fun t o v h => no_lists t o v h) h hr
theorem decTys_rep {A w} : ∀ {ts : List Ty} {l : List AV} {x : tysDen ts} {vs}, decTys ts l = some x → RepAVs (c0 A w) l vs → RepAVs (c0 A w) (encTys ts x) vs
  | [], [], _, _, _, hr => by simpa only [encTys] using hr
  | [], _ :: _, _, _, h, _ => by simp [decTys] at h
  | _ :: _, [], _, _, h, _ => by simp [decTys] at h
  | t :: ts, v :: l, x, vs, h, hr => by
    simp only [decTys, Option.bind_eq_some_iff, Option.some.injEq] at h
    obtain ⟨y, hy, ys, hys, rfl⟩ := h
    obtain ⟨val, rest, rfl, h1, h2⟩ := hr.cons'
    exact RepAVs.cons (asTy_single hy h1) (decTys_rep hys h2)
theorem KD.dec_rep {A w} : ∀ {k : KD} {v : AV} {x : k.den} {val}, k.dec v = some x → RepAV (c0 A w) v val → RepAV (c0 A w) (k.enc x) val
  | .one t, v, x, val, h, hr => asTy_single h hr
  | .agg ts, v, x, val, h, hr => by
    cases v <;> simp only [KD.dec] at h <;> try (cases h; done)
    simp only [KD.enc, RepAV] at hr ⊢
    obtain ⟨us, e, hu⟩ := hr
    exact ⟨us, e, decTys_rep h hu⟩
theorem decArgs_rep {A w} : ∀ {ks : List KD} {l : List AV} {x : argsDen ks} {vs}, decArgs ks l = some x → RepAVs (c0 A w) l vs → RepAVs (c0 A w) (encArgs ks x) vs
  | [], [], _, _, _, hr => by simpa only [encArgs] using hr
  | [], _ :: _, _, _, h, _ => by simp [decArgs] at h
  | _ :: _, [], _, _, h, _ => by simp [decArgs] at h
  | k :: ks, v :: l, x, vs, h, hr => by
    simp only [decArgs, Option.bind_eq_some_iff, Option.some.injEq] at h
    obtain ⟨y, hy, ys, hys, rfl⟩ := h
    obtain ⟨val, rest, rfl, h1, h2⟩ := hr.cons'
    exact RepAVs.cons (KD.dec_rep hy h1) (decArgs_rep hys h2)
theorem encTys_closed : ∀ (ts : List Ty) (x : tysDen ts), closedL (encTys ts x) = true
  | [], _ => rfl
  | t :: ts, x => by simp [encTys, closedL, AV.closed, encTys_closed ts x.2]
theorem KD.enc_closed : ∀ (k : KD) (x : k.den), (k.enc x).closed = true
  | .one _, _ => rfl
  | .agg ts, x => by simp [KD.enc, AV.closed, encTys_closed]
theorem encArgs_closed : ∀ (ks : List KD) (x : argsDen ks), closedL (encArgs ks x) = true
  | [], _ => rfl
  | k :: ks, x => by simp [encArgs, closedL, KD.enc_closed, encArgs_closed ks x.2]
theorem encRes_closed (ks : List KD) (x : argsDen ks) : (encRes ks x).closed = true := by
  unfold encRes
  have := encArgs_closed ks x
  generalize encArgs ks x = l at this
  unfold resVal
  split
  · simpa [closedL] using this
  · simpa [AV.closed] using this
theorem decRes_rep {A w} {ks : List KD} {v : AV} {x : argsDen ks} {val} (h : decRes ks v = some x) (hr : RepAV (c0 A w) v val) : RepAV (c0 A w) (encRes ks x) val := by
  have key : ∀ {ks : List KD} {l : List AV} {x : argsDen ks}, ks.length ≠ 1 → decArgs ks l = some x → RepAV (c0 A w) (.tup l) val → RepAV (c0 A w) (encRes ks x) val := by
    intro ks l x hl h hr
    have hlen : (encArgs ks x).length = ks.length := by
      clear h hl hr
      induction ks with
      | nil => rfl
      | cons k ks ih => simp [encArgs, ih]
    simp only [RepAV] at hr
    obtain ⟨us, e, hu⟩ := hr
    have := decArgs_rep h hu
    unfold encRes resVal
    split
    · rename_i he; rw [he] at hlen; simp at hlen; omega
    · simp only [RepAV]; exact ⟨us, e, this⟩
  match ks, v, x, h with
  | [k], v, x, h =>
    simp only [decRes, Option.bind_eq_some_iff, Option.some.injEq] at h
    obtain ⟨y, hy, rfl⟩ := h
    exact KD.dec_rep hy hr
  | [], .tup l, x, h => exact key (by simp) h hr
  | k :: k' :: ks, .tup l, x, h => exact key (by simp) h hr

noncomputable def evFunA (ε : Env) {P : Program} {np : Nat} {tp : Bool} {S : Type} (fn : Func) {c : Code} (x : Ann P np tp c) (args : List AV) (K : AV → Option S) : Option S :=
  evA ε x { slots := args ++ List.replicate (fn.ntmps - args.length) .dead, recs := [], lsts := [] } fun ex st => match ex with
    | .normal | .ret => (evRes ε st fn.results.toList).bind fun l => K (resVal l)
    | _ => none

def pfun {ps rs : List KD} (F : argsDen ps → Option (argsDen rs)) : PFun := fun args K => (decArgs ps args).bind fun x => (F x).bind fun y => K (encRes rs y)

section
variable {P : Program} {ε : Env}

def resF (tmps : Array Value) : ResultVar → Sem Value
  | .tmp t => pure (tmps.getD t undef)
  | .cell a t => do loadVar t (← asAddr (tmps.getD a undef))
def Far (A0 : Dom) (w0 w : World) (b : Nat) : Prop := (A0.A b ∨ w0.heap.size ≤ b) ∧ b < w.heap.size

theorem evRes_sound (hε : EnvOk P ε) {A0 w0 w st} {a : Act} {μ} (hs : Sim A0 w0 st a.tmps w μ) : ∀ (rs : List ResultVar) (l : List AV), evRes ε st rs = some l →
    ∃ vs : List Value, (rs.mapM (resF a.tmps)).run P w = .ok vs w ∧ closedL l = true ∧ RepAVs (c0 (Far A0 w0 w) w) l vs
  | [], l, h => by
    simp only [evRes, Option.some.injEq] at h; subst h
    exact ⟨[], by simp, rfl, by simp [RepAVs]⟩
  | .tmp t :: rs, l, h => by
    simp only [evRes, Option.bind_eq_some_iff, Option.some.injEq] at h
    obtain ⟨v, hv, m, hm, rfl⟩ := h
    obtain ⟨vs, h1, h2, h3⟩ := evRes_sound hε hs rs m hm
    have hr := ev_rep hs.slots (.tmp t)
    simp only [St.ev] at hr
    obtain ⟨g1, g2⟩ := close_rep (A' := Far A0 w0 w) hs.mem (fun b hb => ⟨hb.1.1, hb.2.1⟩) (fun t b hb => ⟨.inr (hs.mem.live _ _ hb).1, (hs.mem.live _ _ hb).2.1⟩) hv hr
    refine ⟨_ :: vs, ?_, by simp [closedL, g1, h2], RepAVs.cons g2 h3⟩
    simp [List.mapM_cons, resF, h1, Act.eval]
  | .cell q t :: rs, l, h => by
    simp only [evRes] at h
    split at h
    · rename_i r hq
      split at h
      · rename_i cells i hcells hi
        split at h
        · rename_i hsz
          simp only [Option.bind_eq_some_iff, Option.some.injEq] at h
          obtain ⟨v, hv, v', hv', m, hm, rfl⟩ := h
          obtain ⟨vs, h1, h2, h3⟩ := evRes_sound hε hs rs m hm
          have hti := hε.ti t i hi
          have hr := ev_rep hs.slots (.tmp q)
          simp only [St.ev, hq] at hr
          simp only [RepAV, cx] at hr
          obtain ⟨b, hb, hval⟩ := hr.2.2 (by rw [hcells]; rfl)
          obtain ⟨cs, hown, hcr⟩ := hs.mem.rec_at hcells hb
          have hpart : partOf cells 0 i.size i.agg = some v := by
            unfold partOf
            cases hag : i.agg with
            | true =>
              simp only [hag, if_true, Option.some.injEq] at hv ⊢
              subst hv
              rw [if_pos (by omega)]; simp [← hsz]
            | false =>
              simp only [hag, Bool.false_eq_true, if_false] at hv ⊢
              cases cells with
              | nil => simp at hv
              | cons x xs => simpa using hv
          obtain ⟨val, hrun, hrep⟩ := load_cells (P := P) (c := cx A0 w0 st.recs st.lsts w μ) (w := w) hti hcr hown.cells hpart
          obtain ⟨g1, g2⟩ := close_rep (A' := Far A0 w0 w) hs.mem (fun b hb => ⟨hb.1.1, hb.2.1⟩) (fun t b hb => ⟨.inr (hs.mem.live _ _ hb).1, (hs.mem.live _ _ hb).2.1⟩) hv' hrep
          refine ⟨val :: vs, ?_, by simp [closedL, g1, h2], RepAVs.cons g2 h3⟩
          simp only [Nat.zero_add] at hrun
          have he : a.tmps.getD q undef = .pointer (some ⟨b, 0, none⟩) := hval
          simp [List.mapM_cons, resF, h1, he, asAddr, hrun]
        · cases h
      · cases h
    · cases h

theorem results_run {w : World} {fn : Func} {tmps : Array Value} {vs : List Value} (h : (fn.results.toList.mapM (resF tmps)).run P w = .ok vs w) : (results fn tmps).run P w = .ok (if h : vs.toArray.size = 1 then vs.toArray[0] else .tuple vs.toArray) w := by
  have e : results fn tmps = (do let vs ← fn.results.mapM (resF tmps); pure (if h : vs.size = 1 then vs[0] else .tuple vs)) := by
    unfold results
    rfl
  rw [e, Array.mapM_eq_mapM_toList]
  simp [h]

theorem Dok.drop {B : Dom} {w0 : World} {A A' : Dom} {D : Nat} (hF : ∀ b, A.F b → b ≠ D → A'.F b) (hX : ∀ b, A.X b → b ≠ D → A'.X b) (hw : A'.wF = A.wF) : ∀ {ds : List Deferred}, (∀ d ∈ ds, d ≠ { target := .collected D, args := #[] }) → Dok B w0 A ds → Dok B w0 A' ds
  | [], _, _ => trivial
  | d :: ds, hne, h => by
    obtain ⟨⟨D', h1, h2, h3, h4, h5, h5', h6, h7⟩, h8⟩ := h
    have hD : D' ≠ D := fun e => hne d (by simp) (by rw [h1, e])
    exact ⟨⟨D', h1, hF _ h2 hD, hX _ h3 hD, by rw [hw]; exact h4, h5, h5', h6, h7⟩, Dok.drop hF hX hw (fun d hd => hne d (by simp [hd])) h8⟩
def Dom.less (A1 : Dom) (D : Nat) : Dom := { A1 with F := fun b => A1.F b ∧ b ≠ D, X := fun b => A1.X b ∧ b ≠ D }
theorem sim_shut {A1 : Dom} {w0 w : World} {st : St} {tmps : Array Value} {μ : Mu} {D : Nat} {o : Obj} (hs : Sim A1 w0 st tmps w μ) (hF : A1.F D) (hX : A1.X D) (hD : w.heap[D]? = some (.deferred (some []))) (hw0 : w0.heap.size ≤ D) :
    Sim (A1.less D) w0 st tmps (w.putObj D o) μ := by
  have hm := hs.mem
  have hoth : ∀ b, b ≠ D → (w.putObj D o).heap[b]? = w.heap[b]? := fun b hb => World.putObj_heap_other hb
  have hsize : (w.putObj D o).heap.size = w.heap.size := by simp [World.putObj]
  have hown : ∀ {b vs}, Own w b vs → b ≠ D := by
    rintro b vs ⟨el, e⟩ rfl
    rw [hD] at e; cases e
  have hownL : ∀ {e : Ty} {b vs}, OwnL e w b vs → b ≠ D := by
    rintro e b vs h rfl
    rcases h.obj with ⟨es, c, e⟩ | ⟨el, e⟩ <;> (rw [hD] at e; cases e)
  have hle : (cx A1 w0 st.recs st.lsts w μ).Le (cx (A1.less D) w0 st.recs st.lsts (w.putObj D o) μ) :=
    ⟨fun b hb => ⟨⟨hb.1.1, fun h => hb.1.2 h.1⟩, by rw [hsize]; exact hb.2.1, hb.2.2⟩, fun b hb => hoth b (fun e => hb.1.2 (e ▸ hX)), Nat.le_refl _, Nat.le_refl _, fun _ _ hs => ⟨hs, rfl⟩, fun _ o _ ho => ⟨o, ho, rfl, rfl, rfl, rfl⟩, fun _ _ h => h⟩
  have hat : ∀ x b, μ.at_ x = some b → (w.putObj D o).heap[b]? = w.heap[b]? := fun x b hx => hoth b fun e => (hm.xo D hX).2 x (e ▸ hx)
  refine ⟨hs.slots.mono hle, ?_, ?_, fun x b hx => ?_, hm.inj, ?_, ?_, fun b hb => by obtain ⟨h1, h2⟩ := hm.xo b hb.1; exact ⟨by rw [hsize]; exact h1, h2⟩, hm.np, hm.pins, hm.gi, hm.bty.ext fun x b hx => hoth b fun e => (hm.xo D hX).2 x (e ▸ hx), fun r c hr => (hm.htop r c hr).imp (c := cx A1 w0 st.recs st.lsts w μ) rfl rfl (fun b hb => hat _ b hb) fun us hu => hu.mono hle, fun d hd => (hm.deep d hd).mono (c := cx A1 w0 st.recs st.lsts w μ) ⟨hle.A, hle.w, fun _ => rfl, fun k b hb => hat _ b hb, Nat.le_refl _, fun _ _ h => h⟩, hm.pinl⟩
  · intro r cells hr hk
    obtain ⟨b, vs, h1, h2, h3⟩ := hm.hrec r cells hr hk
    exact ⟨b, vs, h1, h2.ext (hoth b (hown h2)), h3.mono hle⟩
  · intro t o ht
    rcases hm.hlst t o ht with h1 | ⟨b, vs, hb, ho, hsz, hc, us, rest, e, hr⟩
    · exact .inl h1
    · exact .inr ⟨b, vs, hb, ho.ext (hoth b (hownL ho)), hsz, hc, us, rest, e, hr.imp fun x u hx => hx.mono hle.A hle.w⟩
  · obtain ⟨h1, h2, h3⟩ := hm.live x b hx
    exact ⟨h1, by rw [hsize]; exact h2, h3⟩
  · exact hm.below.trans ((Below.refl _ w).grown (grownBy_putObj' w D o) (by have := hm.below.size; have := (Array.getElem?_eq_some_iff.1 hD).1; omega) (fun k e => by cases e; exact hw0))
  · rintro b ⟨hb, hne⟩
    obtain ⟨h1, h2, h3⟩ := hm.fr b hb
    exact ⟨by rw [hsize]; exact h1, by rw [hoth b hne]; exact h2, h3⟩
theorem leaveU {B : Dom} {w0 : World} {fn : Func} {R : Ending → World → Prop} {n : Nat} {st : St} {tmps ta : Array Value} {μ : Mu} {u : FrameMode} (hu : u ≠ .run) : ∀ (ds : List Deferred) (A1 : Dom) (w : World), B.Ext A1 → Dok B w0 A1 ds → Sim A1 w0 st tmps w μ →
    (∀ w1, Sim B w0 st tmps w1 μ → LeavesIn (Fr none) n P fn ta R [] u w1) → LeavesInM (Fr none) n P fn ta R ds u w
  | [], A1, w, he, _, hs, hfin => by
    exact hfin w (he.sim hs)
  | d :: ds, A1, w, he, hd, hs, hfin => by
    obtain ⟨⟨D, h1, h2, h3, h4, h5, h5', h6, h7⟩, h8⟩ := hd
    have hD : w.heap[D]? = some (.deferred (some [])) := (hs.mem.fr D h2).2.1.trans h4
    refine ⟨hu, .inl ⟨D, w.putObj D (.deferred none), by rw [h1], run_takeDeferred hD, ?_⟩⟩
    refine leaveU hu ds (A1.less D) _ ⟨he.A, fun b hb => ⟨he.X b hb, fun e => h5' (e ▸ hb)⟩, he.pin, he.np, he.keep, he.pinl, he.nl, fun b hb => ⟨⟨(he.F b hb).1, fun e => h5 (e ▸ hb)⟩, (he.F b hb).2⟩⟩ ?_ (sim_shut hs h2 h3 hD h6) hfin
    exact Dok.drop (A' := A1.less D) (fun b h1 h2 => ⟨h1, h2⟩) (fun b h1 h2 => ⟨h1, h2⟩) rfl h7 h8

theorem leave {B : Dom} {w0 : World} {fn : Func} {R : Ending → World → Prop} {n : Nat} {st : St} {tmps : Array Value} {μ : Mu} (ds : List Deferred) (A1 : Dom) (w : World) (hB : B.Ext A1) (hd : Dok B w0 A1 ds) (hs : Sim A1 w0 st tmps w μ)
    (hfin : ∀ w1, Sim B w0 st tmps w1 μ → ∃ v, (results fn tmps).run P w1 = .ok v w1 ∧ R (.returned v) w1) : LeavesInM (Fr none) n P fn tmps R ds .returning w :=
  leaveU (by simp) ds A1 w hB hd hs fun w1 h1 => by
    obtain ⟨v, h2, h3⟩ := hfin w1 h1
    exact ⟨v, h2, h3⟩

theorem sound_of (hε : EnvOk P ε) {f : Nat} {fn : Func} {c : Code} (hf : P.funcs[f]? = some fn) (hnm : (fn.name == "runtime.NumGoroutine") = false) (hb : fn.body = some c) (x : Ann P 0 true c) {ps rs : List KD}
    {F : argsDen ps → Option (argsDen rs)} (hF : ∀ y, F y = evFunA ε fn x (encArgs ps y) (decRes rs)) : Sound P f (pfun F) := by
  refine ⟨⟨fn, hf, hnm, by rw [hb]; rfl⟩, ?_⟩
  intro S args K r h A w vs hA hgi hcl hrep
  simp only [pfun, Option.bind_eq_some_iff] at h
  obtain ⟨y, hy, z, hz, hK⟩ := h
  refine ⟨encRes rs z, hK, encRes_closed rs z, ?_⟩
  rw [hF] at hz
  have hargs := decArgs_rep hy hrep
  refine (callsIn_wide (n := 0)).1 (callsIn_of_wp_marks (F := Fr none) hf hb trivial ?_)
  have hlen := hargs.length
  let μ0 : Mu := ⟨fun _ => none, fun _ => 0, none⟩
  have hsub : (c0 A w).Sub (cx (Dom.of A w) w [] [] w μ0) := ⟨fun b hb => ⟨⟨.inl hb, fun h => h⟩, hA b hb, fun x hx => by cases hx⟩, fun _ _ => rfl⟩
  have hdead : ∀ n, RepAVs (cx (Dom.of A w) w [] [] w μ0) (List.replicate n .dead) (List.replicate n undef) := by
    intro n
    induction n with
    | zero => simp [RepAVs]
    | succ n ih => exact RepAVs.cons (by simp only [RepAV]) ih
  have hsim : Sim (Dom.of A w) w { slots := encArgs ps y ++ List.replicate (fn.ntmps - (encArgs ps y).length) .dead, recs := [], lsts := [] } (vs.toArray ++ Array.replicate (fn.ntmps - vs.toArray.size) undef) w μ0 := by
    refine ⟨?_, ?_, ?_, ?_, ?_, Below.refl _ _, ?_, ?_, ?_, ?_, hgi, ⟨fun r c h => by simp [getL] at h, fun t o h => by simp [getL] at h⟩, fun r c h => by simp [getL] at h, fun d h => (by cases h), ⟨Nat.le_refl _, fun t b h => (by cases h)⟩⟩
    · have := (RepAVs.closed hsub hargs (encArgs_closed ps y)).append (hdead (fn.ntmps - (encArgs ps y).length))
      simpa [hlen] using this
    · intro r cells h; simp [getL] at h
    · intro t o h; simp [getL] at h
    · intro x b h; cases h
    · intro x y b h; cases h
    · intro b h; cases h
    · intro b h; cases h
    · exact Nat.le_refl _
    · intro r b h; cases h
  refine evA_sound (B := Dom.of A w) (ρ := none) hε (fun _ => rfl) x (A0 := Dom.of A w) (Dom.Ext.refl _) ⟨Nat.le_refl 0, Nat.le_refl 0⟩ _ (fun A1 ex st tm E a' w2 μ' he h1 h2 hl h3 => ?_) _ _ w μ0 hz hsim trivial
  have fin : tm = a'.tmps → (evRes ε st fn.results.toList).bind (fun l => decRes rs (resVal l)) = some z → LeavesInM (Fr none) 0 P fn a'.tmps (fun e w' => ∃ v', e = .returned v' ∧ Below w.heap.size w w' ∧ RepAV (c0 (News w w' A) w') (encRes rs z) v') a'.defers .returning w2 := by
    intro htm h4
    subst htm
    simp only [Option.bind_eq_some_iff] at h4
    obtain ⟨l, hl, hdec⟩ := h4
    refine leave _ A1 w2 he h3 h2 fun w' h2 => ?_
    obtain ⟨us, g1, g2, g3⟩ := evRes_sound (a := a') hε h2 _ l hl
    refine ⟨_, results_run g1, _, rfl, h2.mem.below, ?_⟩
    have hval : RepAV (c0 (Far (Dom.of A w) w w') w') (resVal l) (if h : us.toArray.size = 1 then us.toArray[0] else .tuple us.toArray) := by
      have hl2 := g3.length
      unfold resVal
      split
      · obtain ⟨v, rfl, hv⟩ := g3.one'
        simpa using hv
      · rename_i hne
        have : ¬ us.toArray.size = 1 := by
          intro e
          simp at e
          rw [hl2] at e
          match l, e with
          | [v], _ => exact hne v rfl
        rw [dif_neg this]
        simp only [RepAV]
        exact ⟨_, rfl, by simpa using g3⟩
    have hrr := decRes_rep hdec hval
    refine RepAV.closed (c := c0 (Far (Dom.of A w) w w') w') (c' := c0 (News w w' A) w') ⟨fun b hb => ?_, fun _ _ => rfl⟩ (encRes_closed rs z) hrr
    rcases hb.1 with h5 | h5
    · exact .inl h5
    · exact .inr ⟨h5, hb.2⟩
  cases ex with
  | normal => obtain ⟨e1, rfl⟩ := hl; exact fin e1 h1
  | ret => obtain ⟨e1, rfl⟩ := hl; exact fin e1 h1
  | exit id => cases h1
  | panic => cases h1

def evResH (ε : Env) (st : St) : List ResultVar → Option (List AV)
  | [] => some []
  | .tmp t :: r => (evResH ε st r).bind fun l => some (st.slots.getD t .dead :: l)
  | .cell a t :: r => match st.slots.getD a .dead with
    | .ptr q 0 => (match getL st.recs q, ε.ti t with
      | some cells, some i => (partOf cells 0 i.size i.agg).bind fun v => (evResH ε st r).bind fun l => some (v :: l)
      | _, _ => none)
    | _ => none
theorem evResH_sound (hε : EnvOk P ε) {A0 w0 w st} {a : Act} {μ} (hs : Sim A0 w0 st a.tmps w μ) : ∀ (rs : List ResultVar) (l : List AV), evResH ε st rs = some l →
    ∃ vs : List Value, (rs.mapM (resF a.tmps)).run P w = .ok vs w ∧ RepAVs (cx A0 w0 st.recs st.lsts w μ) l vs
  | [], l, h => by
    simp only [evResH, Option.some.injEq] at h; subst h
    exact ⟨[], by simp, by simp [RepAVs]⟩
  | .tmp t :: rs, l, h => by
    simp only [evResH, Option.bind_eq_some_iff, Option.some.injEq] at h
    obtain ⟨m, hm, rfl⟩ := h
    obtain ⟨vs, h1, h3⟩ := evResH_sound hε hs rs m hm
    have hr := ev_rep hs.slots (.tmp t)
    simp only [St.ev] at hr
    refine ⟨_ :: vs, ?_, RepAVs.cons hr h3⟩
    simp [List.mapM_cons, resF, h1, Act.eval]
  | .cell q t :: rs, l, h => by
    simp only [evResH] at h
    split at h
    · rename_i r hq
      split at h
      · rename_i cells i hcells hi
        simp only [Option.bind_eq_some_iff, Option.some.injEq] at h
        obtain ⟨v, hpart, m, hm, rfl⟩ := h
        obtain ⟨vs, h1, h3⟩ := evResH_sound hε hs rs m hm
        have hti := hε.ti t i hi
        have hr := ev_rep hs.slots (.tmp q)
        simp only [St.ev, hq] at hr
        simp only [RepAV, cx] at hr
        obtain ⟨b, hb, hval⟩ := hr.2.2 (by rw [hcells]; rfl)
        obtain ⟨cs, hown, hcr⟩ := hs.mem.rec_at hcells hb
        obtain ⟨val, hrun, hrep⟩ := load_cells (P := P) (c := cx A0 w0 st.recs st.lsts w μ) (w := w) hti hcr hown.cells hpart
        refine ⟨val :: vs, ?_, RepAVs.cons hrep h3⟩
        simp only [Nat.zero_add] at hrun
        have he : a.tmps.getD q undef = .pointer (some ⟨b, 0, none⟩) := hval
        simp [List.mapM_cons, resF, h1, he, asAddr, hrun]
      · cases h
    · cases h

noncomputable def evFunH (ε : Env) {P : Program} {np : Nat} {tp : Bool} (fn : Func) {c : Code} (x : Ann P np tp c) (I O : Shape) (y : I.den) : Option O.den :=
  evA ε x { slots := (fill I y).slots ++ List.replicate (fn.ntmps - (fill I y).slots.length) .dead, recs := (fill I y).recs, lsts := (fill I y).lsts } fun ex st => match ex with
    | .normal | .ret => (evResH ε st fn.results.toList).bind fun l => abs O ⟨l, st.recs, st.lsts⟩
    | _ => none
theorem sound_ofH (hε : EnvOk P ε) {f : Nat} {fn : Func} {c : Code} (hf : P.funcs[f]? = some fn) (hnm : (fn.name == "runtime.NumGoroutine") = false) (hb : fn.body = some c) {I O : Shape} (x : Ann P (npOf I) true c) (hsm : Nat.blt I.recs.length 64 = true) (hIO : fits (npOf I) O = true)
    {F : I.den → Option O.den} (hF : ∀ y, F y = evFunH ε fn x I O y) : SoundH P f ⟨I, O, F⟩ := by
  refine ⟨⟨fn, hf, hnm, by rw [hb]; rfl⟩, ?_⟩
  intro y o ho A0 w0 w vs μ hs
  replace ho : F y = some o := ho
  rw [hF] at ho
  refine (callsIn_wide (n := 0)).1 (callsIn_of_wp_marks (F := Fr none) hf hb trivial ?_)
  have hlen := hs.slots.length
  have hdead : ∀ n, RepAVs (cx A0 w0 (fill I y).recs (fill I y).lsts w μ) (List.replicate n .dead) (List.replicate n undef) := by
    intro n
    induction n with
    | zero => simp [RepAVs]
    | succ n ih => exact RepAVs.cons (by simp only [RepAV]) ih
  have hsim : Sim A0 w0 { slots := (fill I y).slots ++ List.replicate (fn.ntmps - (fill I y).slots.length) .dead, recs := (fill I y).recs, lsts := (fill I y).lsts } (vs.toArray ++ Array.replicate (fn.ntmps - vs.toArray.size) undef) w μ := by
    refine ⟨?_, hs.mem⟩
    have := hs.slots.append (hdead (fn.ntmps - (fill I y).slots.length))
    simp only [List.toList_toArray] at hlen
    simpa [hlen] using this
  have hnp : Under A0 (npOf I) := by
    have h1 := hs.mem.np
    have h2 := hs.mem.pinl.1
    simp only [fill] at h1 h2
    rw [fillR_length] at h1
    rw [fillT_length] at h2
    have h3 : I.recs.length < 64 := by simpa [Nat.blt_eq] using hsm
    unfold Under npOf
    constructor <;> omega
  refine evA_sound (B := A0) (ρ := none) hε (fun _ => rfl) x (Dom.Ext.refl _) hnp _ (fun A1 ex st tm E a' w2 μ' he h1 h2 hl h3 => ?_) _ _ w μ ho hsim trivial
  have fin : tm = a'.tmps → ((evResH ε st fn.results.toList).bind fun l => abs O ⟨l, st.recs, st.lsts⟩) = some o → LeavesInM (Fr none) 0 P fn a'.tmps (fun e w' => ∃ us μ', e = .returned (retVal us) ∧ Sim A0 w0 (fill O o) us.toArray w' μ') a'.defers .returning w2 := by
    intro htm h4
    subst htm
    simp only [Option.bind_eq_some_iff] at h4
    obtain ⟨l, hl, habs⟩ := h4
    refine leave _ A1 w2 he h3 h2 fun w' h2 => ?_
    obtain ⟨us, g1, g3⟩ := evResH_sound (a := a') hε h2 _ l hl
    have hs2 : Sim A0 w0 ⟨l, st.recs, st.lsts⟩ us.toArray w' μ' := ⟨by simpa using g3, h2.mem⟩
    exact ⟨_, results_run g1, us, _, rfl, abs_sound hs2 (fits_abs hnp hIO).1 (fits_abs hnp hIO).2 habs⟩
  cases ex with
  | normal => obtain ⟨e1, rfl⟩ := hl; exact fin e1 h1
  | ret => obtain ⟨e1, rfl⟩ := hl; exact fin e1 h1
  | exit id => cases h1
  | panic => cases h1

end
end Go.Pe
end
section
namespace Go.Pe
open Go.RowKit
set_option linter.unusedSectionVars false
variable [GI]

def tysOf (f : Nat → Option Ty) : List Nat → Option Ty
  | [] => some .unit
  | [t] => f t
  | t :: r => (f t).bind fun a => (tysOf f r).bind fun b => some (.prod a b)
def tyOf (P : Program) (vt : Nat) : Nat → Nat → Option Ty
  | 0, _ => none
  | n + 1, t => if t = vt then some .value else match P.underlying t with
    | some .bool => some .bool
    | some (.int k) => some (.int k)
    | some .string => some .str
    | some (.slice e) => (tyOf P vt n e).map .list
    | some (.struct fs) => tysOf (tyOf P vt n) (fs.toList.map (·.type))
    | some (.array m e) => tysOf (tyOf P vt n) (List.replicate m e)
    | _ => none
def tyU8 (t : Nat) (e : Ty) : Option Ty := match e with
  | .int .u8 => (match Nat.beq t GI.u8 with | true => some (.int .u8) | false => none)
  | e => some e
theorem tyU8_some {t : Nat} {e e' : Ty} (h : tyU8 t e = some e') : e' = e ∧ (e' = .int .u8 → t = GI.u8) := by
  unfold tyU8 at h
  split at h
  · split at h
    · rename_i hb; cases h; exact ⟨rfl, fun _ => Nat.eq_of_beq_eq_true hb⟩
    · cases h
  · rename_i hne; cases h; exact ⟨rfl, fun e => absurd e hne⟩
def aggD : TypeDesc → Bool | .struct _ | .array _ _ => true | _ => false
def tiOf (P : Program) (vt t : Nat) : Option TI :=
  match P.underlying t, P.info? t with
  | some d, some inf => match inf.zero with
    | some z => if z.cells.size = inf.size ∧ inf.bytes ≤ 16384 ∧ isAggV z = aggD d then
        some ⟨d, inf.size, (match d with | .struct _ | .array _ _ => true | _ => false), (tyOf P vt 8 t).bind fun e => if e.size = inf.size ∧ e.isMap = false then tyU8 t e else none, z.cells.toList.map ofConst,
          (match d with | .struct fs => !P.stoodInHeld t && !P.eqGuardType P.depth t && eqFs 0 fs.toList | _ => false), Nat.beq t GI.bt⟩ else none
    | none => none
  | _, _ => none

theorem consts_rep (c : Cx) : ∀ l : List Value, RepAVs c (l.map ofConst) l
  | [] => by simp [RepAVs]
  | v :: l => by simp only [List.map_cons]; exact RepAVs.cons (ofConst_rep c v) (consts_rep c l)
theorem tiOf_ok {P : Program} {vt t : Nat} {i : TI} (h : tiOf P vt t = some i) : TiOk P t i := by
  unfold tiOf at h
  split at h
  · rename_i d inf hd hi
    split at h
    · rename_i z hz
      split at h
      · rename_i hc
        cases h
        refine ⟨hd, ⟨inf, hi, rfl, hc.2.1, z, hz, hc.1, fun c => consts_rep _ _⟩, rfl, fun e he => ?_, fun e he => ?_, fun he => ?_, fun he => Nat.eq_of_beq_eq_true he, fun he => ?_, fun inf' z' h1 h2 => by rw [hi] at h1; cases h1; rw [hz] at h2; cases h2; exact hc.2.2⟩
        · simp only [Option.bind_eq_some_iff] at he
          obtain ⟨e', _, he⟩ := he
          split at he
          · rename_i hs; rw [(tyU8_some he).1]; exact hs.1
          · cases he
        · simp only [Option.bind_eq_some_iff] at he
          obtain ⟨e', _, he⟩ := he
          split at he
          · rename_i hs; rw [(tyU8_some he).1]; exact hs.2
          · cases he
        · simp only [Option.bind_eq_some_iff] at he
          obtain ⟨e', _, he⟩ := he
          split at he
          · exact (tyU8_some he).2 rfl
          · cases he
        · dsimp only at he
          split at he
          · rename_i fs
            simp only [Bool.and_eq_true, Bool.not_eq_true'] at he
            exact ⟨fs, hd, he.1.1, he.1.2, he.2⟩
          · cases he
      · cases h
    · cases h
  · cases h

def _root_.Go.Code.cl : Code → Code | .seq a _ => a | c => c
def _root_.Go.Code.cr : Code → Code | .seq _ b => b | c => c
def _root_.Go.Code.cb : Code → Code | .block _ b => b | .loop b => b | c => c
def _root_.Go.Code.ct : Code → Code | .cond _ a _ => a | c => c
def _root_.Go.Code.ce : Code → Code | .cond _ _ b => b | c => c
def codeOf (f : Func) : Code := match f.body with | some c => c | none => .skip

structure FnRow (P : Program) where
  f : Nat
  G : PFun
  sc : Bool
  sound : Sound P f @G
  uni : PFun.Uni @G
def fnOf {P : Program} : List (FnRow P) → Nat → Option (PFun × Bool)
  | [], _ => none
  | r :: l, f => match Nat.beq r.f f with | true => some (r.G, r.sc) | false => fnOf l f
structure HRow (P : Program) where
  f : Nat
  h : HF
  sound : SoundH P f h
def hfOf {P : Program} : List (HRow P) → Nat → List HF
  | [], _ => []
  | r :: l, f => match Nat.beq r.f f with | true => r.h :: hfOf l f | false => hfOf l f
theorem hfOf_ok {P : Program} : ∀ {l : List (HRow P)} {f : Nat} {h : HF}, h ∈ hfOf l f → SoundH P f h
  | [], f, h, hh => by simp [hfOf] at hh
  | r :: l, f, h, hh => by
    simp only [hfOf] at hh
    split at hh
    · rename_i e
      have e : r.f = f := by simpa using e
      rcases List.mem_cons.1 hh with rfl | hh
      · exact e ▸ r.sound
      · exact hfOf_ok hh
    · exact hfOf_ok hh
structure PRow (P : Program) where
  f : Nat
  h : PF
  sound : SoundP P f h
def envOf (P : Program) (vt : Nat) (l : List (FnRow P)) (hl : List (HRow P)) (own : List Nat := []) : Env := ⟨tiOf P vt, fnOf l, hfOf hl, fun _ => [], fun _ => false, own, fun _ => none⟩
theorem fnOf_ok {P : Program} : ∀ {l : List (FnRow P)} {f : Nat} {G : PFun} {sc : Bool}, fnOf l f = some (@G, sc) → Sound P f @G ∧ PFun.Uni @G
  | r :: l, f, G, sc, h => by
    simp only [fnOf] at h
    split at h
    · rename_i e
      have e : r.f = f := by simpa using e
      subst e
      have h1 : (r.G : PFun) = @G := congrArg Prod.fst (Option.some.inj h)
      exact ⟨h1 ▸ r.sound, h1 ▸ r.uni⟩
    · exact fnOf_ok h
theorem envOf_ok {P : Program} (vt : Nat) (l : List (FnRow P)) (hl : List (HRow P)) (hm : P.follows .mixedOrders = true) (own : List Nat := []) : EnvOk P (envOf P vt l hl own) :=
  ⟨fun _ _ h => tiOf_ok h, fun _ _ _ h => (fnOf_ok h).1, fun _ _ _ h => (fnOf_ok h).2, hm, fun _ _ h => hfOf_ok h, (fun _ _ h => by cases h), (fun _ h => by cases h), (fun _ _ h => by cases h)⟩
structure ERow (P : Program) where
  f : Nat
  G : Ext
  sound : ExtOk P f @G
theorem pfun_uni {ps rs : List KD} (F : argsDen ps → Option (argsDen rs)) : PFun.Uni (pfun F) := by
  intro S args K
  show ((decArgs ps args).bind fun x => (F x).bind fun y => K (encRes rs y)) = ((decArgs ps args).bind fun x => (F x).bind fun y => some (encRes rs y)).bind K
  rw [Option.bind_assoc]; congr; funext x; rw [Option.bind_assoc]; rfl
def KD.scalar : KD → Bool
  | .one .bool | .one (.int _) | .one .str => true
  | _ => false
def rowOf {P : Program} {f : Nat} {ps rs : List KD} {F : argsDen ps → Option (argsDen rs)} (sc : Bool) (h : Sound P f (pfun F)) : FnRow P := ⟨f, pfun F, sc, h, pfun_uni F⟩

def Ty.fuel : (t : Ty) → t.den → Nat
  | .bool, _ => 0
  | .int _, x => x.natAbs
  | .str, x => x.length
  | .list _, x => x.length
  | .unit, _ => 0
  | .prod a b, x => a.fuel x.1 + b.fuel x.2
  | .value, _ => 0
mutual
def SAV.fuel : (s : SAV) → s.den → Nat
  | .hole t, x => t.fuel x
  | .agg l, x => fuelL l x
  | .ifc _ l, x => fuelL l x
  | .fn _ a b, x => fuelL a x.1 + fuelL b x.2
  | .eptr _ _, i => i
  | .stk, x => x.length
  | .dead, _ | .ptr _ _, _ | .whole _, _ | .nilP, _ | .nilS, _ | .bld _, _ | .same, _ => 0
def fuelL : (l : List SAV) → SAVs.den l → Nat
  | [], _ => 0
  | s :: r, z => s.fuel z.1 + fuelL r z.2
end
def fuelR : (l : List (Option (List SAV))) → recsDen l → Nat
  | [], _ => 0
  | none :: r, z => fuelR r z
  | some l :: r, z => fuelL l z.1 + fuelR r z.2
def fuelT : (l : List (Option Ty)) → lstsDen l → Nat
  | [], _ => 0
  | none :: r, z => fuelT r z
  | some _ :: r, z => z.1.length + fuelT r z.2
def fuelOf (sh : Shape) (z : sh.den) : Nat := 1000000 + (fuelL sh.slots z.1 + fuelR sh.recs z.2.1 + fuelT sh.lsts z.2.2)
def go {sh : Shape} {β : Type} (step : (sh.den → Option β) → sh.den → Option β) (y : sh.den) : Option β := iter step (fuelOf sh y) y
theorem go_of {P : Program} {ε : Env} (hε : EnvOk P ε) {np : Nat} {tp : Bool} {c : Code} (x : Ann P np tp c) {sh : Shape} {outs : List (Ex × Shape)} {step : (sh.den → Option (OutDen outs)) → sh.den → Option (OutDen outs)}
    (h1 : fits np sh = true) (h2 : outsOk np outs = true) (h : ∀ rec y, step rec y = evA ε x (fill sh y) (fun ex st => match ex with | .normal => (abs sh st).bind rec | e => packOut outs e st)) : PieceSound P np tp (.loop c) sh outs (go step) :=
  ⟨h1, fun y o ho => (loop_of hε x h1 h2 h (fuelOf sh y)).2 y o ho⟩

end Go.Pe
end
section
namespace Go.Pe
open Go.RowKit
set_option linter.unusedSectionVars false
variable [GI]
set_option linter.unusedSimpArgs false
set_option linter.unusedVariables false

def Dom.noF (A : Dom) (l : Nat) : Dom := { A with F := fun b => A.F b ∧ b ≠ l }
def Dom.addF (A : Dom) (l : Nat) (w : World) : Dom := { A with F := fun b => A.F b ∨ b = l, wF := w }
section
variable {A H : Dom} {w0 w : World} {st : St} {tmps : Array Value} {μ : Mu} {l : Nat}
theorem Sim.noF (hs : Sim A w0 st tmps w μ) (l : Nat) : Sim (A.noF l) w0 st tmps w μ :=
  ⟨hs.slots, hs.mem.hrec, hs.mem.hlst, hs.mem.live, hs.mem.inj, hs.mem.below, fun b hb => hs.mem.fr b hb.1, hs.mem.xo, hs.mem.np, hs.mem.pins, hs.mem.gi, hs.mem.bty, hs.mem.htop, hs.mem.deep, hs.mem.pinl⟩
theorem Sim.addF (hs : Sim A w0 st tmps w μ) (hl : A.X l) : Sim (A.addF l w) w0 st tmps w μ :=
  ⟨hs.slots, hs.mem.hrec, hs.mem.hlst, hs.mem.live, hs.mem.inj, hs.mem.below, fun b hb => by
    rcases hb with hb | rfl
    · obtain ⟨h1, h2, h3⟩ := hs.mem.fr b hb; exact ⟨h1, rfl, h3⟩
    · obtain ⟨h1, h3⟩ := hs.mem.xo _ hl; exact ⟨h1, rfl, h3⟩, hs.mem.xo, hs.mem.np, hs.mem.pins, hs.mem.gi, hs.mem.bty, hs.mem.htop, hs.mem.deep, hs.mem.pinl⟩
theorem Sim.putX {o : Obj} (hs : Sim A w0 st tmps w μ) (hl : A.X l) (hF : ¬ A.F l) (hw0 : w0.heap.size ≤ l) : Sim A w0 st tmps (w.putObj l o) μ := by
  have hm := hs.mem
  have hoth : ∀ b, b ≠ l → (w.putObj l o).heap[b]? = w.heap[b]? := fun b hb => World.putObj_heap_other hb
  have hsize : (w.putObj l o).heap.size = w.heap.size := World.putObj_size
  have hown : ∀ {x b}, μ.at_ x = some b → b ≠ l := fun {x b} hx e => (hm.xo l hl).2 x (e ▸ hx)
  have hle : (cx A w0 st.recs st.lsts w μ).Le (cx A w0 st.recs st.lsts (w.putObj l o) μ) :=
    ⟨fun b hb => ⟨hb.1, by rw [hsize]; exact hb.2.1, hb.2.2⟩, fun b hb => hoth b (fun e => hb.1.2 (e ▸ hl)), Nat.le_refl _, Nat.le_refl _, fun _ _ hs => ⟨hs, rfl⟩, fun _ o _ ho => ⟨o, ho, rfl, rfl, rfl, rfl⟩, fun _ _ h => h⟩
  refine ⟨hs.slots.mono hle, ?_, ?_, fun x b hx => ?_, hm.inj, ?_, ?_, fun b hb => by obtain ⟨h1, h2⟩ := hm.xo b hb; exact ⟨by rw [hsize]; exact h1, h2⟩, hm.np, hm.pins, hm.gi, hm.bty.ext fun x b hx => hoth b (hown hx), fun r c hr => (hm.htop r c hr).imp (c := cx A w0 st.recs st.lsts w μ) rfl rfl (fun b hb => hoth b (hown hb)) fun us hu => hu.mono hle, fun d hd => (hm.deep d hd).mono (c := cx A w0 st.recs st.lsts w μ) ⟨hle.A, hle.w, fun _ => rfl, fun k b hb => hoth b (hown hb), Nat.le_refl _, fun _ _ h => h⟩, hm.pinl⟩
  · intro r cells hr hk
    obtain ⟨b, vs, h1, h2, h3⟩ := hm.hrec r cells hr hk
    exact ⟨b, vs, h1, h2.ext (hoth b (hown h1)), h3.mono hle⟩
  · intro t o ht
    rcases hm.hlst t o ht with h1 | ⟨b, vs, hb, ho, hsz, hc, us, rest, e, hr⟩
    · exact .inl h1
    · exact .inr ⟨b, vs, hb, ho.ext (hoth b (hown hb)), hsz, hc, us, rest, e, hr.imp fun x u hx => hx.mono hle.A hle.w⟩
  · obtain ⟨h1, h2, h3⟩ := hm.live x b hx
    exact ⟨h1, by rw [hsize]; exact h2, h3⟩
  · exact hm.below.trans ((Below.refl _ w).grown (grownBy_putObj' w l o) hm.below.size (fun k e => by cases e; exact hw0))
  · intro b hb
    obtain ⟨h1, h2, h3⟩ := hm.fr b hb
    exact ⟨by rw [hsize]; exact h1, by rw [hoth b (fun e => hF (e ▸ hb))]; exact h2, h3⟩
theorem Dom.Ext.noF (h : H.Ext A) (hl : ¬ H.F l) : H.Ext (A.noF l) :=
  ⟨h.A, h.X, h.pin, h.np, h.keep, h.pinl, h.nl, fun b hb => ⟨⟨(h.F b hb).1, fun e => hl (e ▸ hb)⟩, (h.F b hb).2⟩⟩
theorem Dom.Ext.addF (h : H.Ext A) (hs : Sim A w0 st tmps w μ) (l : Nat) : H.Ext (A.addF l w) :=
  ⟨h.A, h.X, h.pin, h.np, h.keep, h.pinl, h.nl, fun b hb => ⟨.inl (h.F b hb).1, (hs.mem.fr b (h.F b hb).1).2.1.trans (h.F b hb).2⟩⟩
theorem Dok.ext {B A A1 : Dom} (h : A.Ext A1) : ∀ {ds : List Deferred}, Dok B w0 A ds → Dok B w0 A1 ds
  | [], _ => trivial
  | d :: ds, ⟨⟨D, h1, h2, h3, h4, h5⟩, h6⟩ => ⟨⟨D, h1, (h.F D h2).1, h.X D h3, (h.F D h2).2.trans h4, h5⟩, Dok.ext h h6⟩
theorem Dok.rebase {H A : Dom} {st : St} {tmps : Array Value} {μ : Mu} {w : World} {l : Nat} (hl : H.X l) (hs : Sim (A.noF l) w0 st tmps w μ) : ∀ {ds : List Deferred}, Dok H w0 A ds → Dok H w0 ((A.noF l).addF l w) ds
  | [], _ => trivial
  | d :: ds, ⟨⟨D, h1, h2, h3, h4, h5, h6⟩, h7⟩ => by
    have hne : D ≠ l := fun e => h6.1 (e ▸ hl)
    exact ⟨⟨D, h1, .inl ⟨h2, hne⟩, h3, (hs.mem.fr D ⟨h2, hne⟩).2.1.trans h4, h5, h6⟩, Dok.rebase hl hs h7⟩
theorem Dok.old {B A : Dom} {D : Nat} (hD : ¬ A.F D) : ∀ {ds : List Deferred}, Dok B w0 A ds → ∀ d ∈ ds, d ≠ { target := .collected D, args := #[] }
  | [], _ => by simp
  | d :: ds, ⟨⟨D', h1, h2, _⟩, h6⟩ => by
    intro d' hd'
    rcases List.mem_cons.1 hd' with rfl | hd'
    · rw [h1]; intro e
      simp only [Deferred.mk.injEq, Target.collected.injEq, and_true] at e
      exact hD (e ▸ h2)
    · exact Dok.old hD h6 d' hd'
end

section
variable {P : Program} {ε : Env}
end
end Go.Pe
end
section
namespace Go.Pe
open Go.RowKit
set_option linter.unusedSectionVars false
variable [GI]
set_option linter.unusedSimpArgs false
set_option linter.unusedVariables false

section
variable {P : Program} {ops : Array Oper} {Q : Exit → Act → World → Prop} {l : List Nat} {i n : Nat} {ρ : Option Nat} {a : Act} {w w' : World} {v : Value} {d : Option Nat} {op : Op}
theorem RoundIn.fr {m : Nat} {L : Nat} {f : FuncId} {tmps : Array Value} {assign body : Code} {R : Ending → World → Prop} (h : RoundIn (Fr ρ) n P L f tmps assign body w R) : RoundIn (Fr ρ) m P L f tmps assign body w R :=
  ⟨h.1, fun c cs _ => h.2 c cs (fun d hd => by cases ρ <;> cases hd)⟩
end

section
variable {P : Program} {ε : Env} (hε : EnvOk P ε)
end

section
variable {P : Program} {ε : Env} (hε : EnvOk P ε)
theorem put_tmps (a : Act) {d e : Nat} (v : Value) (hd : d < a.tmps.size) : (a.put (some d) v).tmps.getD e undef = if e = d then v else a.tmps.getD e undef := by
  simp only [Act.put, Array.getD_eq_getD_getElem?, Array.getElem?_setIfInBounds]
  by_cases h : d = e
  · subst h; simp [hd]
  · rw [if_neg h, if_neg (fun e => h e.symm)]
theorem put_size (a : Act) {d : Option Nat} (v : Value) : (a.put d v).tmps.size = a.tmps.size := by
  cases d <;> simp [Act.put]
structure BackAt (a : Act) (L : Nat) (pv : Value) (k : Int) : Prop where
  sz : a.tmps.size = 19
  t0 : a.tmps.getD 0 undef = .func (.yield L) #[] #[]
  t1 : a.tmps.getD 1 undef = pv
  t3 : a.tmps.getD 3 undef = .int .i64 (k - 1)
  df : a.defers = []
theorem BackAt.put {a : Act} {L : Nat} {pv : Value} {k : Int} {d : Nat} {v : Value} (h : BackAt a L pv k) (h0 : d ≠ 0) (h1 : d ≠ 1) (h3 : d ≠ 3) (hd : d < 19) : BackAt (a.put (some d) v) L pv k :=
  ⟨(put_size _ _).trans h.sz, by rw [put_tmps _ _ (by rw [h.sz]; exact hd), if_neg (Ne.symm h0)]; exact h.t0, by rw [put_tmps _ _ (by rw [h.sz]; exact hd), if_neg (Ne.symm h1)]; exact h.t1, by rw [put_tmps _ _ (by rw [h.sz]; exact hd), if_neg (Ne.symm h3)]; exact h.t3, by rw [put_defers]; exact h.df⟩
end
end Go.Pe
end
section
set_option linter.unusedSectionVars false
set_option linter.unusedVariables false
set_option linter.unusedSimpArgs false
namespace Go.Pe.Tryz
open Go.Proofs Go.RowKit
def IfcAt (w : World) (g : Nat) : Prop := ∃ ev, w.cell? ⟨g, 0, none⟩ = some ev ∧ (ev = .nilIface ∨ ∃ te pe, ev = .iface te pe)
def Inv (w : World) : Prop := (∃ m : Int, w.cell? ⟨0, 0, none⟩ = some (.int .i64 m)) ∧ Lib.TabIs Tryz.prog w "internal/strconv.uint64pow10" .u64 Lib.pow10Tab ∧ IfcAt w 1 ∧ IfcAt w 2
theorem cell_mono {w w' : World} {g : Nat} {v : Value} (h : w.cell? ⟨g, 0, none⟩ = some v) (hb : Below w.heap.size w w') : w'.cell? ⟨g, 0, none⟩ = some v := by
  have h0 : g < w.heap.size := by
    rcases Nat.lt_or_ge g w.heap.size with h' | h'
    · exact h'
    · simp [World.cell?, Array.getElem?_eq_none h'] at h
  rw [hb.cell (p := ⟨g, 0, none⟩) h0]; exact h
theorem inv_mono {w w' : World} (h : Inv w) (hb : Below w.heap.size w w') : Inv w' := by
  obtain ⟨⟨m, hm⟩, ht, ⟨e1, h1, h1'⟩, ⟨e2, h2, h2'⟩⟩ := h
  exact ⟨⟨m, cell_mono hm hb⟩, Lib.tabBelow_of_tabIs ht w' hb, ⟨e1, cell_mono h1 hb, h1'⟩, ⟨e2, cell_mono h2 hb, h2'⟩⟩
instance : GI := ⟨Inv, inv_mono, 91, 5⟩
end Go.Pe.Tryz
end
section
namespace Go.Pe
open Go.RowKit
set_option linter.unusedSectionVars false
variable [GI]
set_option linter.unusedVariables false

noncomputable def joinF (y : argsDen [.one (.list .str), .one .str]) : Option (argsDen [.one .str]) :=
  if y.1.length ≤ 140737488355328 ∧ (Lib.join y.1 y.2.1).length ≤ 140737488355328 then some (Lib.join y.1 y.2.1, ()) else none
theorem strs_of {A : Nat → Prop} {w : World} : ∀ {xs : List (List UInt8)} {us : List Value}, RepAll (Rep A w .str) xs us → us = xs.map fun s => Value.string ⟨s.toArray⟩
  | [], _, h => by simpa [RepAll] using h
  | x :: xs, _, ⟨u1, u2, e, h1, h2⟩ => by
    simp only [Rep] at h1
    rw [e, h1, strs_of h2]; rfl
theorem join_sound {P : Program} {f : Nat} (hfn : ∃ fn, P.funcs[f]? = some fn ∧ (fn.name == "runtime.NumGoroutine") = false ∧ fn.body.isSome = true)
    (h0 : ∀ (a : Option Addr) (c : Nat) (sep : ByteArray) (w : World), Calls P f #[.slice a 0 c, .string sep] w fun e w' => e = .returned (.string ⟨#[]⟩) ∧ w' = w)
    (h : ∀ (bk o c : Nat) (xs : List ByteArray) (sep : ByteArray) (w : World) (hcells : ∀ (j : Nat) x, xs[j]? = some x → w.cell? ⟨bk, o + j, none⟩ = some (.string x)) (hbk : bk < w.heap.size) (hN : xs.length ≤ 140737488355328) (hcap : xs.length ≤ c) (hlen : (Lib.join (xs.map (·.data.toList)) sep.data.toList).length ≤ 140737488355328),
      Calls P f #[.slice (some ⟨bk, o, none⟩) xs.length c, .string sep] w fun e w' => e = .returned (.string ⟨(Lib.join (xs.map (·.data.toList)) sep.data.toList).toArray⟩) ∧ Below w.heap.size w w') :
    Sound P f (pfun joinF) := by
  refine ⟨hfn, ?_⟩
  intro S args K r hG A w vs hA hgi hcl hrep
  simp only [pfun, Option.bind_eq_some_iff] at hG
  obtain ⟨⟨xs, sep, _⟩, hy, z, hz, hK⟩ := hG
  refine ⟨_, hK, encRes_closed _ z, ?_⟩
  have hargs := decArgs_rep hy hrep
  simp only [encArgs, KD.enc] at hargs
  obtain ⟨v1, _, rfl, r1, hargs⟩ := hargs.cons'
  obtain ⟨v2, _, rfl, r2, hargs⟩ := hargs.cons'
  obtain rfl := hargs.nil
  simp only [RepAV, Rep, List.cons.injEq, and_true] at r2
  subst r2
  simp only [RepAV] at r1
  obtain ⟨v, e, a, cap, rfl, hcap, hm⟩ := r1
  simp only [List.cons.injEq, and_true] at e
  subst e
  unfold joinF at hz
  split at hz
  · rename_i hc
    cases hz
    rcases hm with rfl | ⟨ad, us, rfl, hsp, hAb, hcells, hall⟩
    · refine (h0 a cap ⟨sep.toArray⟩ w).mono fun e w' ⟨he, hw⟩ => ⟨_, he, hw ▸ Below.refl _ _, ?_⟩
      simp [encRes, encArgs, resVal, KD.enc, RepAV, Rep, Lib.join_nil]
    · have hus := strs_of hall
      have := h ad.block ad.off cap (xs.map fun s => ⟨s.toArray⟩) ⟨sep.toArray⟩ w (fun j x hx => ?_) (hA _ hAb) (by simpa using hc.1) (by simpa using hcap) (by simpa [List.map_map, Function.comp_def] using hc.2)
      · have ead : (⟨ad.block, ad.off, none⟩ : Addr) = ad := by cases ad; simp_all
        rw [ead] at this
        simp only [List.length_map] at this
        refine this.mono fun e w' ⟨he, hb⟩ => ⟨_, he, hb, ?_⟩
        simp [encRes, encArgs, resVal, KD.enc, RepAV, Rep, List.map_map, Function.comp_def]
      · have hj : j < us.length := by
          rw [hus, List.length_map]
          have := (List.getElem?_eq_some_iff.1 hx).1
          simpa using this
        refine (hcells j hj).trans ?_
        rw [hus]
        simpa using hx
  · cases hz
end Go.Pe
end
section
namespace Go.Pe
open Go.RowKit
set_option linter.unusedSectionVars false
variable [GI]
set_option linter.unusedVariables false
set_option linter.unusedSimpArgs false

def numOf (l : List UInt8) : Int := match Lib.atoiAll l with
  | .ok v => v
  | .range => Lib.atoiSat l
  | .«syntax» => 0
theorem below_bytesWorld (w : World) (e : TypeId) (t : ByteArray) : Below w.heap.size w (Lib.bytesWorld w e t) := Lib.below_freeze ((Below.drew (Below.refl _ w)).alloc (Nat.le_refl _) _) (p := ⟨w.heap.size, _, none⟩) (Nat.le_refl _) 1
theorem strs_rep {A : Nat → Prop} {w : World} : ∀ xs : List ByteArray, RepAll (Rep A w .str) (xs.map (·.data.toList)) (xs.map Value.string)
  | [] => rfl
  | x :: xs => ⟨[.string x], xs.map Value.string, rfl, by simp [Rep], strs_rep xs⟩
section
variable {P : Program} {f : Nat} (hfn : ∃ fn, P.funcs[f]? = some fn ∧ (fn.name == "runtime.NumGoroutine") = false ∧ fn.body.isSome = true)
include hfn
noncomputable def cutF (y : argsDen [.one .str, .one .str]) : Option (argsDen [.one .str, .one .str, .one .bool]) :=
  if y.1.length < 4294967281 then some ((Lib.cut y.1 y.2.1).1, (Lib.cut y.1 y.2.1).2.1, (Lib.cut y.1 y.2.1).2.2, ()) else none
theorem cut_sound (h : ∀ (s sep : ByteArray) (w : World), GI.inv w → s.size < 4294967281 → Calls P f #[.string s, .string sep] w fun e w' => e = .returned (.tuple #[.string ⟨(Lib.cut s.data.toList sep.data.toList).1.toArray⟩, .string ⟨(Lib.cut s.data.toList sep.data.toList).2.1.toArray⟩, .bool (Lib.cut s.data.toList sep.data.toList).2.2]) ∧ Below w.heap.size w w') :
    Sound P f (pfun cutF) := by
  refine ⟨hfn, ?_⟩
  intro S args K r hG A w vs hA hgi hcl hrep
  simp only [pfun, Option.bind_eq_some_iff] at hG
  obtain ⟨⟨s, sep, _⟩, hy, z, hz, hK⟩ := hG
  refine ⟨_, hK, encRes_closed _ z, ?_⟩
  have hargs := decArgs_rep hy hrep
  simp only [encArgs, KD.enc] at hargs
  obtain ⟨v1, _, rfl, r1, hargs⟩ := hargs.cons'
  obtain ⟨v2, _, rfl, r2, hargs⟩ := hargs.cons'
  obtain rfl := hargs.nil
  simp only [RepAV, Rep, List.cons.injEq, and_true] at r1 r2
  subst r1; subst r2
  unfold cutF at hz
  split at hz
  · rename_i hc
    cases hz
    refine (h ⟨s.toArray⟩ ⟨sep.toArray⟩ w hgi (by simpa [ByteArray.size] using hc)).mono fun e w' ⟨he, hb⟩ => ⟨_, he, hb, ?_⟩
    simp only [encRes, encArgs, resVal, KD.enc, RepAV, RepAVs, Rep]
    exact ⟨_, rfl, _, _, rfl, rfl, _, _, rfl, rfl, _, _, rfl, rfl, rfl⟩
  · cases hz
noncomputable def splitF (y : argsDen [.one .str, .one .str]) : Option (argsDen [.one (.list .str)]) :=
  if y.1.length < 4294967281 ∧ 1 ≤ y.2.1.length then some ((Lib.splitB ⟨y.2.1.toArray⟩ 0 (Lib.countB ⟨y.1.toArray⟩ ⟨y.2.1.toArray⟩) ⟨y.1.toArray⟩).map (·.data.toList), ()) else none
theorem split_sound (el : TypeId) (h : ∀ (s sep : ByteArray) (w : World), GI.inv w → s.size < 4294967281 → 1 ≤ sep.size → Calls P f #[.string s, .string sep] w fun e w' =>
      e = .returned (.slice (some ⟨w.heap.size, 0, none⟩) (Lib.countB s sep + 1) (Lib.countB s sep + 1)) ∧ w' = w.alloc (.cells ((Lib.splitB sep 0 (Lib.countB s sep) s).map Value.string).toArray el)) :
    Sound P f (pfun splitF) := by
  refine ⟨hfn, ?_⟩
  intro S args K r hG A w vs hA hgi hcl hrep
  simp only [pfun, Option.bind_eq_some_iff] at hG
  obtain ⟨⟨s, sep, _⟩, hy, z, hz, hK⟩ := hG
  refine ⟨_, hK, encRes_closed _ z, ?_⟩
  have hargs := decArgs_rep hy hrep
  simp only [encArgs, KD.enc] at hargs
  obtain ⟨v1, _, rfl, r1, hargs⟩ := hargs.cons'
  obtain ⟨v2, _, rfl, r2, hargs⟩ := hargs.cons'
  obtain rfl := hargs.nil
  simp only [RepAV, Rep, List.cons.injEq, and_true] at r1 r2
  subst r1; subst r2
  unfold splitF at hz
  split at hz
  · rename_i hc
    cases hz
    have hl : 1 ≤ (⟨sep.toArray⟩ : ByteArray).size := by simpa [ByteArray.size] using hc.2
    have hlen := Lib.splitB_all ⟨sep.toArray⟩ hl 0 _ ⟨s.toArray⟩ rfl
    refine (h ⟨s.toArray⟩ ⟨sep.toArray⟩ w hgi (by simpa [ByteArray.size] using hc.1) hl).mono fun e w' ⟨he, hb⟩ => ⟨_, he, hb ▸ (Below.refl _ w).alloc (Nat.le_refl _) _, ?_⟩
    subst hb
    generalize Lib.splitB ⟨sep.toArray⟩ 0 (Lib.countB ⟨s.toArray⟩ ⟨sep.toArray⟩) ⟨s.toArray⟩ = L at hlen ⊢
    simp only [encRes, encArgs, resVal, KD.enc, RepAV, Rep]
    refine ⟨_, rfl, some ⟨w.heap.size, 0, none⟩, Lib.countB ⟨s.toArray⟩ ⟨sep.toArray⟩ + 1, by rw [List.length_map, hlen], by rw [List.length_map, hlen]; exact Nat.le_refl _, ?_⟩
    refine Or.inr ⟨⟨w.heap.size, 0, none⟩, L.map Value.string, rfl, rfl, ?_, ?_, ?_⟩
    · simp only [c0, News]
      exact .inr ⟨Nat.le_refl _, by simp⟩
    · intro j hj
      have := World.alloc_heap_new w (.cells (L.map Value.string).toArray el)
      simp only [c0, World.cell?, this, Nat.zero_add]
      simp
    · have h5 := strs_rep (A := News w (w.alloc (.cells (L.map Value.string).toArray el)) A) (w := w.alloc (.cells (L.map Value.string).toArray el)) L
      simp only [Rep] at h5
      exact h5
  · cases hz
noncomputable def itoaF (y : argsDen [.one (.int .i64)]) : Option (argsDen [.one .str]) :=
  if -9223372036854775808 ≤ y.1 ∧ y.1 ≤ 9223372036854775807 then some (Lib.itoa y.1, ()) else none
theorem itoa_sound (h : ∀ (n : Int) (w : World), GI.inv w → -9223372036854775808 ≤ n → n ≤ 9223372036854775807 → Calls P f #[.int .i64 n] w fun e w' => e = .returned (.string ⟨(Lib.itoa n).toArray⟩) ∧ Below w.heap.size w w') :
    Sound P f (pfun itoaF) := by
  refine ⟨hfn, ?_⟩
  intro S args K r hG A w vs hA hgi hcl hrep
  simp only [pfun, Option.bind_eq_some_iff] at hG
  obtain ⟨⟨n, _⟩, hy, z, hz, hK⟩ := hG
  refine ⟨_, hK, encRes_closed _ z, ?_⟩
  have hargs := decArgs_rep hy hrep
  simp only [encArgs, KD.enc] at hargs
  obtain ⟨v1, _, rfl, r1, hargs⟩ := hargs.cons'
  obtain rfl := hargs.nil
  simp only [RepAV, Rep, List.cons.injEq, and_true] at r1
  subst r1
  unfold itoaF at hz
  split at hz
  · rename_i hc
    cases hz
    refine (h n w hgi hc.1 hc.2).mono fun e w' ⟨he, hb⟩ => ⟨_, he, hb, ?_⟩
    simp [encRes, encArgs, resVal, KD.enc, RepAV, Rep]
  · cases hz
noncomputable def numberF (y : argsDen [.one .str]) : Option (argsDen [.one (.int .i64)]) :=
  if y.1.length ≤ 4294967296 then some (numOf y.1, ()) else none
theorem number_sound (h : ∀ (s : ByteArray) (w : World), GI.inv w → s.size ≤ 4294967296 → Calls P f #[.string s] w fun e w' => e = .returned (.int .i64 (numOf s.data.toList)) ∧ Below w.heap.size w w') :
    Sound P f (pfun numberF) := by
  refine ⟨hfn, ?_⟩
  intro S args K r hG A w vs hA hgi hcl hrep
  simp only [pfun, Option.bind_eq_some_iff] at hG
  obtain ⟨⟨s, _⟩, hy, z, hz, hK⟩ := hG
  refine ⟨_, hK, encRes_closed _ z, ?_⟩
  have hargs := decArgs_rep hy hrep
  simp only [encArgs, KD.enc] at hargs
  obtain ⟨v1, _, rfl, r1, hargs⟩ := hargs.cons'
  obtain rfl := hargs.nil
  simp only [RepAV, Rep, List.cons.injEq, and_true] at r1
  subst r1
  unfold numberF at hz
  split at hz
  · rename_i hc
    cases hz
    refine (h ⟨s.toArray⟩ w hgi (by simpa [ByteArray.size] using hc)).mono fun e w' ⟨he, hb⟩ => ⟨_, he, hb, ?_⟩
    simp [encRes, encArgs, resVal, KD.enc, RepAV, Rep]
  · cases hz
noncomputable def indexF (y : argsDen [.one .str, .one (.int .u8)]) : Option (argsDen [.one (.int .i64)]) := some (Lib.indexByte y.1 y.2.1.toNat.toUInt8, ())
theorem index_sound (h : ∀ (s : ByteArray) (c : Int) (w : World), Calls P f #[.string s, .int .u8 c] w fun e w' => e = .returned (.int .i64 (Lib.indexByte s.data.toList c.toNat.toUInt8)) ∧ w' = w) :
    Sound P f (pfun indexF) := by
  refine ⟨hfn, ?_⟩
  intro S args K r hG A w vs hA hgi hcl hrep
  simp only [pfun, Option.bind_eq_some_iff] at hG
  obtain ⟨⟨s, c, _⟩, hy, z, hz, hK⟩ := hG
  refine ⟨_, hK, encRes_closed _ z, ?_⟩
  have hargs := decArgs_rep hy hrep
  simp only [encArgs, KD.enc] at hargs
  obtain ⟨v1, _, rfl, r1, hargs⟩ := hargs.cons'
  obtain ⟨v2, _, rfl, r2, hargs⟩ := hargs.cons'
  obtain rfl := hargs.nil
  simp only [RepAV, Rep, List.cons.injEq, and_true] at r1 r2
  subst r1; subst r2
  unfold indexF at hz
  cases hz
  refine (h ⟨s.toArray⟩ c w).mono fun e w' ⟨he, hb⟩ => ⟨_, he, hb ▸ Below.refl _ _, ?_⟩
  simp [encRes, encArgs, resVal, KD.enc, RepAV, Rep]
noncomputable def trimF (y : argsDen [.one .str, .one .str]) : Option (argsDen [.one .str]) := some (Lib.trimPrefix y.1 y.2.1, ())
theorem trim_sound (h : ∀ (s p : ByteArray) (w : World), Calls P f #[.string s, .string p] w fun e w' => e = .returned (.string ⟨(Lib.trimPrefix s.data.toList p.data.toList).toArray⟩) ∧ w' = w) :
    Sound P f (pfun trimF) := by
  refine ⟨hfn, ?_⟩
  intro S args K r hG A w vs hA hgi hcl hrep
  simp only [pfun, Option.bind_eq_some_iff] at hG
  obtain ⟨⟨s, p, _⟩, hy, z, hz, hK⟩ := hG
  refine ⟨_, hK, encRes_closed _ z, ?_⟩
  have hargs := decArgs_rep hy hrep
  simp only [encArgs, KD.enc] at hargs
  obtain ⟨v1, _, rfl, r1, hargs⟩ := hargs.cons'
  obtain ⟨v2, _, rfl, r2, hargs⟩ := hargs.cons'
  obtain rfl := hargs.nil
  simp only [RepAV, Rep, List.cons.injEq, and_true] at r1 r2
  subst r1; subst r2
  unfold trimF at hz
  cases hz
  refine (h ⟨s.toArray⟩ ⟨p.toArray⟩ w).mono fun e w' ⟨he, hb⟩ => ⟨_, he, hb ▸ Below.refl _ _, ?_⟩
  simp [encRes, encArgs, resVal, KD.enc, RepAV, Rep]
end
end Go.Pe
end
section
namespace Go.Proofs
open Go.Shelf

def Tryz.lays156_ren : Go.Shelf.Ren := ⟨fun | 156 => 46 | 165 => 69 | 166 => 70 | 169 => 67 | 240 => 84 | 241 => 86 | 276 => 91 | 277 => 96 | n => n, fun | 31 => 22 | 9 => 9 | 3 => 3 | 4 => 4 | 0 => 0 | 20 => 20 | 72 => 91 | 76 => 72 | 70 => 89 | 37 => 80 | 75 => 71 | 127 => 109 | 164 => 117 | 5 => 5 | 80 => 93 | n => n, fun | n => n⟩
theorem Tryz.lays156 : Go.Proofs.Lays.n156 Tryz.prog Tryz.lays156_ren := {
  mixed := by kernel_rfl
  f156 := Tryz.func46.trans (congrArg some (by kernel_rfl))
  f165 := Tryz.func69.trans (congrArg some (by kernel_rfl))
  f166 := Tryz.func70.trans (congrArg some (by kernel_rfl))
  f169 := Tryz.func67.trans (congrArg some (by kernel_rfl))
  f240 := Tryz.func84.trans (congrArg some (by kernel_rfl))
  f241 := Tryz.func86.trans (congrArg some (by kernel_rfl))
  f276 := Tryz.func91.trans (congrArg some (by kernel_rfl))
  f277 := Tryz.func96.trans (congrArg some (by kernel_rfl))
  t0 := Tryz.underlying0
  a0 := Tryz.isAgg0
  z0 := Tryz.sizeOf0
  v0 := Tryz.zeroValue0
  t3 := Tryz.underlying3
  a3 := Tryz.isAgg3
  z3 := Tryz.sizeOf3
  v3 := Tryz.zeroValue3
  t4 := Tryz.underlying4
  a4 := Tryz.isAgg4
  z4 := Tryz.sizeOf4
  v4 := Tryz.zeroValue4
  t9 := Tryz.underlying9
  a9 := Tryz.isAgg9
  z9 := Tryz.sizeOf9
  v9 := Tryz.zeroValue9
  t20 := Tryz.underlying20
  a20 := Tryz.isAgg20
  z20 := Tryz.sizeOf20
  v20 := Tryz.zeroValue20
  t31 := Tryz.underlying22
  a31 := Tryz.isAgg22
  z31 := Tryz.sizeOf22
  v31 := Tryz.zeroValue22
  t37 := Tryz.underlying80
  a37 := Tryz.isAgg80
  z37 := Tryz.sizeOf80
  v37 := Tryz.zeroValue80
  t70 := Tryz.underlying89
  a70 := Tryz.isAgg89
  z70 := Tryz.sizeOf89
  v70 := Tryz.zeroValue89
  t72 := Tryz.underlying91
  a72 := Tryz.isAgg91
  z72 := Tryz.sizeOf91
  v72 := Tryz.zeroValue91
  t75 := Tryz.underlying71
  a75 := Tryz.isAgg71
  z75 := Tryz.sizeOf71
  v75 := Tryz.zeroValue71
  t76 := Tryz.underlying72
  a76 := Tryz.isAgg72
  z76 := Tryz.sizeOf72
  v76 := Tryz.zeroValue72
  t127 := Tryz.underlying109
  a127 := Tryz.isAgg109
  z127 := Tryz.sizeOf109
  v127 := Tryz.zeroValue109
  t164 := Tryz.underlying117
  a164 := Tryz.isAgg117
  z164 := Tryz.sizeOf117
  v164 := Tryz.zeroValue117 }
theorem Tryz.Builder_Extra_156 : Builder.Extra Tryz.prog Tryz.lays156_ren := {
  sizeBuilder := by kernel_rfl
  liesBuilder := by kernel_rfl
  t5 := Tryz.underlying5
  a5 := Tryz.isAgg5
  z5 := Tryz.sizeOf5
  v5 := Tryz.zeroValue5
  infoByte := by kernel_rfl
  cellsByte := by kernel_rfl
  sizeByte := by kernel_rfl
  neB5 := by decide }
open Go.RowKit in
theorem Tryz.strings_Join_none (a : Option Addr) (c : Nat) (sep : ByteArray) (w : World) :
    Calls Tryz.prog 46 #[.slice a 0 c, .string sep] w fun e w' => e = .returned (.string ⟨#[]⟩) ∧ w' = w := Any.strings_Join_none Tryz.lays156 Tryz.Builder_Extra_156 a c sep w
open Go.RowKit in
theorem Tryz.strings_Join (bk o c : Nat) (xs : List ByteArray) (sep : ByteArray) (w : World) (hcells : ∀ (j : Nat) x, xs[j]? = some x → w.cell? ⟨bk, o + j, none⟩ = some (.string x)) (hbk : bk < w.heap.size) (hN : xs.length ≤ 140737488355328) (hcap : xs.length ≤ c) (hlen : (Lib.join (xs.map (·.data.toList)) sep.data.toList).length ≤ 140737488355328) :
    Calls Tryz.prog 46 #[.slice (some ⟨bk, o, none⟩) xs.length c, .string sep] w fun e w' => e = .returned (.string ⟨(Lib.join (xs.map (·.data.toList)) sep.data.toList).toArray⟩) ∧ Below w.heap.size w w' := Any.strings_Join Tryz.lays156 Tryz.Builder_Extra_156 bk o c xs sep w hcells hbk hN hcap hlen
def Tryz.lays137_ren : Go.Shelf.Ren := ⟨fun | 137 => 62 | 217 => 55 | 266 => 74 | n => n, fun | 9 => 9 | 5 => 5 | 3 => 3 | n => n, fun | n => n⟩
theorem Tryz.lays137 : Go.Proofs.Lays.n137 Tryz.prog Tryz.lays137_ren := {
  mixed := by kernel_rfl
  f137 := Tryz.func62.trans (congrArg some (by kernel_rfl))
  f217 := Tryz.func55.trans (congrArg some (by kernel_rfl))
  f266 := Tryz.func74.trans (congrArg some (by kernel_rfl))
  t3 := Tryz.underlying3
  a3 := Tryz.isAgg3
  z3 := Tryz.sizeOf3
  v3 := Tryz.zeroValue3
  t5 := Tryz.underlying5
  a5 := Tryz.isAgg5
  z5 := Tryz.sizeOf5
  v5 := Tryz.zeroValue5
  t9 := Tryz.underlying9
  a9 := Tryz.isAgg9
  z9 := Tryz.sizeOf9
  v9 := Tryz.zeroValue9 }
open Go.RowKit in
theorem Tryz.strings_IndexByte (s : ByteArray) (c : Int) (w : World) :
    Calls Tryz.prog 62 #[.string s, .int .u8 c] w fun e w' => e = .returned (.int .i64 (Lib.indexByte s.data.toList c.toNat.toUInt8)) ∧ w' = w := Any.strings_IndexByte Tryz.lays137 s c w
def Tryz.laysM171_ren : Go.Shelf.Ren := ⟨fun | 171 => 45 | 243 => 68 | 246 => 85 | 283 => 92 | 284 => 93 | 285 => 94 | 286 => 95 | 129 => 100 | 317 => 99 | 318 => 101 | 319 => 102 | 320 => 103 | 337 => 104 | 338 => 105 | n => n, fun | 3 => 3 | 9 => 9 | 2 => 2 | 4 => 4 | 171 => 119 | 0 => 0 | 53 => 111 | 37 => 80 | 5 => 5 | 173 => 122 | 212 => 134 | 51 => 98 | 20 => 20 | 213 => 135 | 46 => 85 | 232 => 138 | 233 => 139 | n => n, fun | 17 => 5 | 18 => 6 | 19 => 7 | n => n⟩
theorem Tryz.laysM171 : Go.Proofs.LaysM.n171 Tryz.prog Tryz.laysM171_ren := {
  mixed := by kernel_rfl
  f129 := Tryz.func100.trans (congrArg some (by kernel_rfl))
  f171 := Tryz.func45.trans (congrArg some (by kernel_rfl))
  f243 := Tryz.func68.trans (congrArg some (by kernel_rfl))
  f246 := Tryz.func85.trans (congrArg some (by kernel_rfl))
  f283 := Tryz.func92.trans (congrArg some (by kernel_rfl))
  f284 := Tryz.func93.trans (congrArg some (by kernel_rfl))
  f285 := Tryz.func94.trans (congrArg some (by kernel_rfl))
  f286 := Tryz.func95.trans (congrArg some (by kernel_rfl))
  f317 := Tryz.func99.trans (congrArg some (by kernel_rfl))
  f318 := Tryz.func101.trans (congrArg some (by kernel_rfl))
  f319 := Tryz.func102.trans (congrArg some (by kernel_rfl))
  f320 := Tryz.func103.trans (congrArg some (by kernel_rfl))
  f337 := Tryz.func104.trans (congrArg some (by kernel_rfl))
  f338 := Tryz.func105.trans (congrArg some (by kernel_rfl))
  t0 := Tryz.underlying0
  a0 := Tryz.isAgg0
  z0 := Tryz.sizeOf0
  v0 := Tryz.zeroValue0
  t2 := Tryz.underlying2
  a2 := Tryz.isAgg2
  z2 := Tryz.sizeOf2
  v2 := Tryz.zeroValue2
  t3 := Tryz.underlying3
  a3 := Tryz.isAgg3
  z3 := Tryz.sizeOf3
  v3 := Tryz.zeroValue3
  t4 := Tryz.underlying4
  a4 := Tryz.isAgg4
  z4 := Tryz.sizeOf4
  v4 := Tryz.zeroValue4
  t5 := Tryz.underlying5
  a5 := Tryz.isAgg5
  z5 := Tryz.sizeOf5
  v5 := Tryz.zeroValue5
  t9 := Tryz.underlying9
  a9 := Tryz.isAgg9
  z9 := Tryz.sizeOf9
  v9 := Tryz.zeroValue9
  t20 := Tryz.underlying20
  a20 := Tryz.isAgg20
  z20 := Tryz.sizeOf20
  v20 := Tryz.zeroValue20
  t37 := Tryz.underlying80
  a37 := Tryz.isAgg80
  z37 := Tryz.sizeOf80
  v37 := Tryz.zeroValue80
  t46 := Tryz.underlying85
  a46 := Tryz.isAgg85
  z46 := Tryz.sizeOf85
  v46 := Tryz.zeroValue85
  t51 := Tryz.underlying98
  a51 := Tryz.isAgg98
  z51 := Tryz.sizeOf98
  v51 := Tryz.zeroValue98
  t53 := Tryz.underlying111
  a53 := Tryz.isAgg111
  z53 := Tryz.sizeOf111
  v53 := Tryz.zeroValue111
  t171 := Tryz.underlying119
  a171 := Tryz.isAgg119
  z171 := Tryz.sizeOf119
  v171 := Tryz.zeroValue119
  t173 := Tryz.underlying122
  a173 := Tryz.isAgg122
  z173 := Tryz.sizeOf122
  v173 := Tryz.zeroValue122
  t212 := Tryz.underlying134
  a212 := Tryz.isAgg134
  z212 := Tryz.sizeOf134
  v212 := Tryz.zeroValue134
  t213 := Tryz.underlying135
  a213 := Tryz.isAgg135
  z213 := Tryz.sizeOf135
  t232 := Tryz.underlying138
  a232 := Tryz.isAgg138
  z232 := Tryz.sizeOf138
  v232 := Tryz.zeroValue138
  t233 := Tryz.underlying139
  a233 := Tryz.isAgg139
  z233 := Tryz.sizeOf139
  v233 := Tryz.zeroValue139
  g17 := by kernel_rfl
  g18 := by kernel_rfl
  g19 := by kernel_rfl
  i0 := by kernel_rfl
  i2 := by kernel_rfl
  i3 := by kernel_rfl
  i4 := by kernel_rfl
  i5 := by kernel_rfl
  i9 := by kernel_rfl
  i20 := by kernel_rfl
  i37 := by kernel_rfl
  i46 := by kernel_rfl
  i51 := by kernel_rfl
  i53 := by kernel_rfl
  i171 := by kernel_rfl
  i173 := by kernel_rfl
  i212 := by kernel_rfl
  i232 := by kernel_rfl
  i233 := by kernel_rfl
  m17 := by kernel_rfl
  m18 := by kernel_rfl
  m19 := by kernel_rfl }
open Go.RowKit Go.Sort Go.Lib in
theorem Tryz.strconv_Itoa (n : Int) (h0 : -9223372036854775808 ≤ n) (h1 : n ≤ 9223372036854775807) (w : World) (htab : Lib.TabIs Tryz.prog w "internal/strconv.uint64pow10" .u64 Lib.pow10Tab) :
    Calls Tryz.prog 45 #[.int .i64 n] w fun e w' => e = .returned (.string ⟨(Lib.itoa n).toArray⟩) ∧ ∃ k os, w' = grow (w.drewN k) os := Any.strconv_Itoa Tryz.laysM171 n h0 h1 w htab
def Tryz.laysC172_ren : Go.Shelf.Ren := ⟨fun | 172 => 41 | 244 => 63 | 245 => 64 | 247 => 79 | 279 => 80 | 280 => 81 | 281 => 82 | 282 => 83 | 287 => 88 | 316 => 89 | 171 => 45 | 205 => 90 | 321 => 97 | 322 => 98 | 243 => 68 | 246 => 85 | 283 => 92 | 284 => 93 | 285 => 94 | 286 => 95 | 129 => 100 | 317 => 99 | 318 => 101 | 319 => 102 | 320 => 103 | 337 => 104 | 338 => 105 | n => n, fun | 9 => 9 | 3 => 3 | 75 => 71 | 76 => 72 | 4 => 4 | 5 => 5 | 167 => 103 | 37 => 80 | 0 => 0 | 85 => 104 | 2 => 2 | 168 => 106 | 53 => 111 | 175 => 112 | 46 => 85 | 210 => 115 | 127 => 109 | 145 => 132 | 143 => 130 | 21 => 21 | 171 => 119 | 173 => 122 | 212 => 134 | 51 => 98 | 20 => 20 | 213 => 135 | 232 => 138 | 233 => 139 | 80 => 93 | n => n, fun | 15 => 1 | 16 => 2 | 17 => 5 | 18 => 6 | 19 => 7 | n => n⟩
theorem Tryz.laysC172 : Go.Proofs.LaysC.n172 Tryz.prog Tryz.laysC172_ren := {
  mixed := by kernel_rfl
  f129 := Tryz.func100.trans (congrArg some (by kernel_rfl))
  f171 := Tryz.func45.trans (congrArg some (by kernel_rfl))
  f172 := Tryz.func41.trans (congrArg some (by kernel_rfl))
  f205 := Tryz.func90.trans (congrArg some (by kernel_rfl))
  f243 := Tryz.func68.trans (congrArg some (by kernel_rfl))
  f244 := Tryz.func63.trans (congrArg some (by kernel_rfl))
  f245 := Tryz.func64.trans (congrArg some (by kernel_rfl))
  f246 := Tryz.func85.trans (congrArg some (by kernel_rfl))
  f247 := Tryz.func79.trans (congrArg some (by kernel_rfl))
  f279 := Tryz.func80.trans (congrArg some (by kernel_rfl))
  f280 := Tryz.func81.trans (congrArg some (by kernel_rfl))
  f281 := Tryz.func82.trans (congrArg some (by kernel_rfl))
  f282 := Tryz.func83.trans (congrArg some (by kernel_rfl))
  f283 := Tryz.func92.trans (congrArg some (by kernel_rfl))
  f284 := Tryz.func93.trans (congrArg some (by kernel_rfl))
  f285 := Tryz.func94.trans (congrArg some (by kernel_rfl))
  f286 := Tryz.func95.trans (congrArg some (by kernel_rfl))
  f287 := Tryz.func88.trans (congrArg some (by kernel_rfl))
  f316 := Tryz.func89.trans (congrArg some (by kernel_rfl))
  f317 := Tryz.func99.trans (congrArg some (by kernel_rfl))
  f318 := Tryz.func101.trans (congrArg some (by kernel_rfl))
  f319 := Tryz.func102.trans (congrArg some (by kernel_rfl))
  f320 := Tryz.func103.trans (congrArg some (by kernel_rfl))
  f321 := Tryz.func97.trans (congrArg some (by kernel_rfl))
  f322 := Tryz.func98.trans (congrArg some (by kernel_rfl))
  f337 := Tryz.func104.trans (congrArg some (by kernel_rfl))
  f338 := Tryz.func105.trans (congrArg some (by kernel_rfl))
  t0 := Tryz.underlying0
  a0 := Tryz.isAgg0
  z0 := Tryz.sizeOf0
  v0 := Tryz.zeroValue0
  t2 := Tryz.underlying2
  a2 := Tryz.isAgg2
  z2 := Tryz.sizeOf2
  v2 := Tryz.zeroValue2
  t3 := Tryz.underlying3
  a3 := Tryz.isAgg3
  z3 := Tryz.sizeOf3
  v3 := Tryz.zeroValue3
  t4 := Tryz.underlying4
  a4 := Tryz.isAgg4
  z4 := Tryz.sizeOf4
  v4 := Tryz.zeroValue4
  t5 := Tryz.underlying5
  a5 := Tryz.isAgg5
  z5 := Tryz.sizeOf5
  v5 := Tryz.zeroValue5
  t9 := Tryz.underlying9
  a9 := Tryz.isAgg9
  z9 := Tryz.sizeOf9
  v9 := Tryz.zeroValue9
  t20 := Tryz.underlying20
  a20 := Tryz.isAgg20
  z20 := Tryz.sizeOf20
  v20 := Tryz.zeroValue20
  t21 := Tryz.underlying21
  a21 := Tryz.isAgg21
  z21 := Tryz.sizeOf21
  v21 := Tryz.zeroValue21
  t37 := Tryz.underlying80
  a37 := Tryz.isAgg80
  z37 := Tryz.sizeOf80
  v37 := Tryz.zeroValue80
  t46 := Tryz.underlying85
  a46 := Tryz.isAgg85
  z46 := Tryz.sizeOf85
  v46 := Tryz.zeroValue85
  t51 := Tryz.underlying98
  a51 := Tryz.isAgg98
  z51 := Tryz.sizeOf98
  v51 := Tryz.zeroValue98
  t53 := Tryz.underlying111
  a53 := Tryz.isAgg111
  z53 := Tryz.sizeOf111
  v53 := Tryz.zeroValue111
  t75 := Tryz.underlying71
  a75 := Tryz.isAgg71
  z75 := Tryz.sizeOf71
  v75 := Tryz.zeroValue71
  t76 := Tryz.underlying72
  a76 := Tryz.isAgg72
  z76 := Tryz.sizeOf72
  v76 := Tryz.zeroValue72
  t85 := Tryz.underlying104
  a85 := Tryz.isAgg104
  z85 := Tryz.sizeOf104
  v85 := Tryz.zeroValue104
  t127 := Tryz.underlying109
  a127 := Tryz.isAgg109
  z127 := Tryz.sizeOf109
  v127 := Tryz.zeroValue109
  t143 := Tryz.underlying130
  a143 := Tryz.isAgg130
  z143 := Tryz.sizeOf130
  v143 := Tryz.zeroValue130
  t145 := Tryz.underlying132
  a145 := Tryz.isAgg132
  z145 := Tryz.sizeOf132
  v145 := Tryz.zeroValue132
  t167 := Tryz.underlying103
  a167 := Tryz.isAgg103
  z167 := Tryz.sizeOf103
  v167 := Tryz.zeroValue103
  t168 := Tryz.underlying106
  a168 := Tryz.isAgg106
  z168 := Tryz.sizeOf106
  v168 := Tryz.zeroValue106
  t171 := Tryz.underlying119
  a171 := Tryz.isAgg119
  z171 := Tryz.sizeOf119
  v171 := Tryz.zeroValue119
  t173 := Tryz.underlying122
  a173 := Tryz.isAgg122
  z173 := Tryz.sizeOf122
  v173 := Tryz.zeroValue122
  t175 := Tryz.underlying112
  a175 := Tryz.isAgg112
  z175 := Tryz.sizeOf112
  v175 := Tryz.zeroValue112
  t210 := Tryz.underlying115
  a210 := Tryz.isAgg115
  z210 := Tryz.sizeOf115
  v210 := Tryz.zeroValue115
  t212 := Tryz.underlying134
  a212 := Tryz.isAgg134
  z212 := Tryz.sizeOf134
  v212 := Tryz.zeroValue134
  t213 := Tryz.underlying135
  a213 := Tryz.isAgg135
  z213 := Tryz.sizeOf135
  t232 := Tryz.underlying138
  a232 := Tryz.isAgg138
  z232 := Tryz.sizeOf138
  v232 := Tryz.zeroValue138
  t233 := Tryz.underlying139
  a233 := Tryz.isAgg139
  z233 := Tryz.sizeOf139
  v233 := Tryz.zeroValue139
  g15 := by kernel_rfl
  g16 := by kernel_rfl
  g17 := by kernel_rfl
  g18 := by kernel_rfl
  g19 := by kernel_rfl
  t80 := Tryz.underlying93
  a80 := Tryz.isAgg93
  z80 := Tryz.sizeOf93
  v80 := Tryz.zeroValue93
  i0 := by kernel_rfl
  i2 := by kernel_rfl
  i3 := by kernel_rfl
  i4 := by kernel_rfl
  i5 := by kernel_rfl
  i9 := by kernel_rfl
  i20 := by kernel_rfl
  i21 := by kernel_rfl
  i37 := by kernel_rfl
  i46 := by kernel_rfl
  i51 := by kernel_rfl
  i53 := by kernel_rfl
  i75 := by kernel_rfl
  i76 := by kernel_rfl
  i80 := by kernel_rfl
  i85 := by kernel_rfl
  i127 := by kernel_rfl
  i143 := by kernel_rfl
  i145 := by kernel_rfl
  i167 := by kernel_rfl
  i168 := by kernel_rfl
  i171 := by kernel_rfl
  i173 := by kernel_rfl
  i175 := by kernel_rfl
  i210 := by kernel_rfl
  i212 := by kernel_rfl
  i232 := by kernel_rfl
  i233 := by kernel_rfl
  m15 := by kernel_rfl
  m16 := by kernel_rfl
  m17 := by kernel_rfl
  m18 := by kernel_rfl
  m19 := by kernel_rfl
  c0 := by kernel_rfl
  c2 := by kernel_rfl
  c3 := by kernel_rfl
  c4 := by kernel_rfl
  c5 := by kernel_rfl
  c9 := by kernel_rfl
  c20 := by kernel_rfl
  c21 := by kernel_rfl
  c37 := by kernel_rfl
  c46 := by kernel_rfl
  c51 := by kernel_rfl
  c53 := by kernel_rfl
  c75 := by kernel_rfl
  c76 := by kernel_rfl
  c80 := by kernel_rfl
  c85 := by kernel_rfl
  c127 := by kernel_rfl
  c143 := by kernel_rfl
  c145 := by kernel_rfl
  c167 := by kernel_rfl
  c168 := by kernel_rfl
  c171 := by kernel_rfl
  c173 := by kernel_rfl
  c175 := by kernel_rfl
  c210 := by kernel_rfl
  c212 := by kernel_rfl
  c213 := by kernel_rfl
  c232 := by kernel_rfl
  c233 := by kernel_rfl }
open Go.RowKit in
theorem Tryz.strconv_Atoi_ok (s : ByteArray) (hmax : s.size ≤ 9223372036854775806) (v : Int) (h : Lib.atoiAll s.data.toList = .ok v) (w : World) :
    Calls Tryz.prog 41 #[.string s] w fun e w' => e = .returned (.tuple #[.int .i64 v, .nilIface]) ∧ (w' = w ∨ ∃ t, w' = Lib.bytesWorld w 5 t) := Any.strconv_Atoi_ok Tryz.laysC172 s hmax v h w
open Go.RowKit in
theorem Tryz.strconv_Atoi_syntax (s : ByteArray) (hlim : s.size ≤ 281474976710656) (h : Lib.atoiAll s.data.toList = .«syntax») (ev : Value) (w : World) (hv : w.cell? ⟨1, 0, none⟩ = some ev) (hev : ev = .nilIface ∨ ∃ te pe, ev = .iface te pe) :
    Calls Tryz.prog 41 #[.string s] w fun e w' => ∃ N, e = .returned (.tuple #[.int .i64 (0), .iface 106 (.pointer (some ⟨N, 0, none⟩))]) ∧ w.heap.size ≤ N ∧ w'.heap[N]? = some (.cells #[.string ⟨#[65, 116, 111, 105]⟩, .string s, ev] 115 (0, 0)) ∧ Below w.heap.size w w' := Any.strconv_Atoi_syntax Tryz.laysC172 s hlim h ev w hv hev
open Go.RowKit in
theorem Tryz.strconv_Atoi_range (s : ByteArray) (hlim : s.size ≤ 281474976710656) (h : Lib.atoiAll s.data.toList = .range) (ev : Value) (w : World) (hv : w.cell? ⟨2, 0, none⟩ = some ev) (hev : ev = .nilIface ∨ ∃ te pe, ev = .iface te pe) :
    Calls Tryz.prog 41 #[.string s] w fun e w' => ∃ N, e = .returned (.tuple #[.int .i64 (Lib.atoiSat s.data.toList), .iface 106 (.pointer (some ⟨N, 0, none⟩))]) ∧ w.heap.size ≤ N ∧ w'.heap[N]? = some (.cells #[.string ⟨#[65, 116, 111, 105]⟩, .string s, ev] 115 (0, 0)) ∧ Below w.heap.size w w' := Any.strconv_Atoi_range Tryz.laysC172 s hlim h ev w hv hev
def Tryz.lays145_ren : Go.Shelf.Ren := ⟨fun | 145 => 8 | 220 => 19 | 219 => 38 | 217 => 55 | 225 => 56 | 224 => 57 | 267 => 58 | 266 => 74 | 314 => 75 | n => n, fun | 9 => 9 | 4 => 4 | 59 => 34 | 3 => 3 | 5 => 5 | 46 => 85 | 146 => 99 | 51 => 98 | n => n, fun | 1 => 0 | n => n⟩
theorem Tryz.lays145 : Go.Proofs.Lays.n145 Tryz.prog Tryz.lays145_ren := {
  mixed := by kernel_rfl
  f145 := Tryz.func8.trans (congrArg some (by kernel_rfl))
  f217 := Tryz.func55.trans (congrArg some (by kernel_rfl))
  f219 := Tryz.func38.trans (congrArg some (by kernel_rfl))
  f220 := Tryz.func19.trans (congrArg some (by kernel_rfl))
  f224 := Tryz.func57.trans (congrArg some (by kernel_rfl))
  f225 := Tryz.func56.trans (congrArg some (by kernel_rfl))
  f266 := Tryz.func74.trans (congrArg some (by kernel_rfl))
  f267 := Tryz.func58.trans (congrArg some (by kernel_rfl))
  f314 := Tryz.func75.trans (congrArg some (by kernel_rfl))
  t3 := Tryz.underlying3
  a3 := Tryz.isAgg3
  z3 := Tryz.sizeOf3
  v3 := Tryz.zeroValue3
  t4 := Tryz.underlying4
  a4 := Tryz.isAgg4
  z4 := Tryz.sizeOf4
  v4 := Tryz.zeroValue4
  t5 := Tryz.underlying5
  a5 := Tryz.isAgg5
  z5 := Tryz.sizeOf5
  v5 := Tryz.zeroValue5
  t9 := Tryz.underlying9
  a9 := Tryz.isAgg9
  z9 := Tryz.sizeOf9
  v9 := Tryz.zeroValue9
  t46 := Tryz.underlying85
  a46 := Tryz.isAgg85
  z46 := Tryz.sizeOf85
  v46 := Tryz.zeroValue85
  t51 := Tryz.underlying98
  a51 := Tryz.isAgg98
  z51 := Tryz.sizeOf98
  v51 := Tryz.zeroValue98
  t59 := Tryz.underlying34
  a59 := Tryz.isAgg34
  z59 := Tryz.sizeOf34
  v59 := Tryz.zeroValue34
  t146 := Tryz.underlying99
  a146 := Tryz.isAgg99
  z146 := Tryz.sizeOf99
  v146 := Tryz.zeroValue99
  g1 := by kernel_rfl }
open Go.RowKit Go.Lib in
theorem Tryz.strings_Cut (s sep : ByteArray) (m : Int) (w : World) (hs : s.size < 4294967281) (hm : w.cell? ⟨0, 0, none⟩ = some (.int .i64 m)) :
    Calls Tryz.prog 8 #[.string s, .string sep] w fun e w' => e = .returned (.tuple #[.string ⟨(Lib.cut s.data.toList sep.data.toList).1.toArray⟩, .string ⟨(Lib.cut s.data.toList sep.data.toList).2.1.toArray⟩, .bool (Lib.cut s.data.toList sep.data.toList).2.2]) ∧ ∃ n, w' = w.drewN n := Any.strings_Cut Tryz.lays145 s sep m w hs hm
def Tryz.lays101_ren : Go.Shelf.Ren := ⟨fun | 101 => 26 | 208 => 47 | 206 => 71 | n => n, fun | 9 => 9 | 4 => 4 | 3 => 3 | n => n, fun | n => n⟩
theorem Tryz.lays101 : Go.Proofs.Lays.n101 Tryz.prog Tryz.lays101_ren := {
  mixed := by kernel_rfl
  f101 := Tryz.func26.trans (congrArg some (by kernel_rfl))
  f206 := Tryz.func71.trans (congrArg some (by kernel_rfl))
  f208 := Tryz.func47.trans (congrArg some (by kernel_rfl))
  t3 := Tryz.underlying3
  a3 := Tryz.isAgg3
  z3 := Tryz.sizeOf3
  v3 := Tryz.zeroValue3
  t4 := Tryz.underlying4
  a4 := Tryz.isAgg4
  z4 := Tryz.sizeOf4
  v4 := Tryz.zeroValue4
  t9 := Tryz.underlying9
  a9 := Tryz.isAgg9
  z9 := Tryz.sizeOf9
  v9 := Tryz.zeroValue9 }
open Go.RowKit Go.Lib in
theorem Tryz.strings_TrimPrefix (s p : ByteArray) (w : World) :
    Calls Tryz.prog 26 #[.string s, .string p] w fun e w' => e = .returned (.string ⟨(Lib.trimPrefix s.data.toList p.data.toList).toArray⟩) ∧ w' = w := Any.strings_TrimPrefix Tryz.lays101 s p w
def Tryz.lays146_ren : Go.Shelf.Ren := ⟨fun | 146 => 20 | 221 => 39 | 268 => 59 | 138 => 60 | 143 => 61 | 195 => 76 | 197 => 77 | 218 => 78 | 219 => 38 | 260 => 87 | 217 => 55 | 225 => 56 | 224 => 57 | 267 => 58 | 266 => 74 | 314 => 75 | n => n, fun | 9 => 9 | 31 => 22 | 3 => 3 | 4 => 4 | 0 => 0 | 105 => 101 | 21 => 21 | 5 => 5 | 46 => 85 | 119 => 125 | 139 => 128 | 138 => 127 | 146 => 99 | 51 => 98 | n => n, fun | 1 => 0 | 3 => 3 | 4 => 4 | n => n⟩
theorem Tryz.lays146 : Go.Proofs.Lays.n146 Tryz.prog Tryz.lays146_ren := {
  mixed := by kernel_rfl
  f138 := Tryz.func60.trans (congrArg some (by kernel_rfl))
  f143 := Tryz.func61.trans (congrArg some (by kernel_rfl))
  f146 := Tryz.func20.trans (congrArg some (by kernel_rfl))
  f195 := Tryz.func76.trans (congrArg some (by kernel_rfl))
  f197 := Tryz.func77.trans (congrArg some (by kernel_rfl))
  f217 := Tryz.func55.trans (congrArg some (by kernel_rfl))
  f218 := Tryz.func78.trans (congrArg some (by kernel_rfl))
  f219 := Tryz.func38.trans (congrArg some (by kernel_rfl))
  f221 := Tryz.func39.trans (congrArg some (by kernel_rfl))
  f224 := Tryz.func57.trans (congrArg some (by kernel_rfl))
  f225 := Tryz.func56.trans (congrArg some (by kernel_rfl))
  f260 := Tryz.func87.trans (congrArg some (by kernel_rfl))
  f266 := Tryz.func74.trans (congrArg some (by kernel_rfl))
  f267 := Tryz.func58.trans (congrArg some (by kernel_rfl))
  f268 := Tryz.func59.trans (congrArg some (by kernel_rfl))
  f314 := Tryz.func75.trans (congrArg some (by kernel_rfl))
  t0 := Tryz.underlying0
  a0 := Tryz.isAgg0
  z0 := Tryz.sizeOf0
  v0 := Tryz.zeroValue0
  t3 := Tryz.underlying3
  a3 := Tryz.isAgg3
  z3 := Tryz.sizeOf3
  v3 := Tryz.zeroValue3
  t4 := Tryz.underlying4
  a4 := Tryz.isAgg4
  z4 := Tryz.sizeOf4
  v4 := Tryz.zeroValue4
  t5 := Tryz.underlying5
  a5 := Tryz.isAgg5
  z5 := Tryz.sizeOf5
  v5 := Tryz.zeroValue5
  t9 := Tryz.underlying9
  a9 := Tryz.isAgg9
  z9 := Tryz.sizeOf9
  v9 := Tryz.zeroValue9
  t21 := Tryz.underlying21
  a21 := Tryz.isAgg21
  z21 := Tryz.sizeOf21
  v21 := Tryz.zeroValue21
  t31 := Tryz.underlying22
  a31 := Tryz.isAgg22
  z31 := Tryz.sizeOf22
  v31 := Tryz.zeroValue22
  t46 := Tryz.underlying85
  a46 := Tryz.isAgg85
  z46 := Tryz.sizeOf85
  v46 := Tryz.zeroValue85
  t51 := Tryz.underlying98
  a51 := Tryz.isAgg98
  z51 := Tryz.sizeOf98
  v51 := Tryz.zeroValue98
  t105 := Tryz.underlying101
  a105 := Tryz.isAgg101
  z105 := Tryz.sizeOf101
  v105 := Tryz.zeroValue101
  t119 := Tryz.underlying125
  a119 := Tryz.isAgg125
  z119 := Tryz.sizeOf125
  t138 := Tryz.underlying127
  a138 := Tryz.isAgg127
  z138 := Tryz.sizeOf127
  v138 := Tryz.zeroValue127
  t139 := Tryz.underlying128
  a139 := Tryz.isAgg128
  z139 := Tryz.sizeOf128
  v139 := Tryz.zeroValue128
  t146 := Tryz.underlying99
  a146 := Tryz.isAgg99
  z146 := Tryz.sizeOf99
  v146 := Tryz.zeroValue99
  g1 := by kernel_rfl
  g3 := by kernel_rfl
  g4 := by kernel_rfl }
open Go.RowKit Go.Lib in
theorem Tryz.strings_Split (s sep : ByteArray) (m : Int) (w : World) (hs : s.size < 4294967281) (hm : w.cell? ⟨0, 0, none⟩ = some (.int .i64 m)) (h1 : 1 ≤ sep.size) :
    Calls Tryz.prog 20 #[.string s, .string sep] w fun e w' =>
      e = .returned (.slice (some ⟨w.heap.size, 0, none⟩) (Lib.countB s sep + 1) (Lib.countB s sep + 1)) ∧ w' = w.alloc (.cells ((Lib.splitB sep 0 (Lib.countB s sep) s).map Value.string).toArray 9) := Any.strings_Split Tryz.lays146 (by kernel_rfl) s sep m w hs hm h1
end Go.Proofs
end
section
set_option linter.unusedSectionVars false
set_option linter.unusedVariables false
set_option linter.unusedSimpArgs false
namespace Go.Pe.Tryz
open Go.Proofs Go.RowKit
set_option maxRecDepth 100000 in
set_option maxHeartbeats 1000000 in
theorem copy_used (b : Nat) (w : World) (h0 : w.cell? ⟨b, 0, none⟩ = some (.pointer (some ⟨b, 0, none⟩))) :
    Calls Tryz.prog 84 #[.pointer (some ⟨b, 0, none⟩)] w fun e w' => e = .returned (.tuple #[]) ∧ w' = w := by
  obtain ⟨j, hj, _⟩ := Option.map_eq_some_iff.1 (show (Tryz.prog.info? 91).map (·.size) = some 2 by kernel_rfl)
  go_enter Tryz.func84, Tryz.ntmps84
  go_wp2
  rw [Lib.run_neq_ptr_same _ _ Tryz.underlying89 hj]
  go_wp2
  go_end0
  exact ⟨rfl, rfl⟩
set_option maxRecDepth 100000 in
set_option maxHeartbeats 1000000 in
theorem copy_fresh (b : Nat) (w : World) (c1 : Value) (hb : w.heap[b]? = some (.cells #[.pointer none, c1] 91 (0, 0))) :
    Calls Tryz.prog 84 #[.pointer (some ⟨b, 0, none⟩)] w fun e w' => e = .returned (.tuple #[]) ∧ w' = w.setCell ⟨b, 0, none⟩ (.pointer (some ⟨b, 0, none⟩)) := by
  obtain ⟨j, hj, hjs⟩ := Option.map_eq_some_iff.1 (show (Tryz.prog.info? 91).map (·.size) = some 2 by kernel_rfl)
  have h0 : w.cell? ⟨b, 0, none⟩ = some (.pointer none) := by rw [Lib.cell_of_heap hb]; rfl
  have hsh : w.shape? b = some (91, 2) := by simp [World.shape?, hb]
  have hfz : w.frozen? ⟨b, 0, none⟩ = false := Lib.frozen_of_heap hb 0
  go_enter Tryz.func84, Tryz.ntmps84
  go_wp2
  rw [Lib.run_to_unsafe w ⟨b, 0, none⟩ Tryz.underlying89 Tryz.underlying117 hj (by rw [hjs]; decide) hsh (Nat.zero_lt_succ 1)]
  simp only [Result.andThen]
  rw [Oper.upon_value]
  go_wp2
  rw [run_callFunc_extern Tryz.func91 (by kernel_rfl) (by kernel_rfl) (by kernel_rfl) (e := Extern.AbiNoEscape.same) (by kernel_rfl)]
  rw [Lib.run_noEscape]
  simp only [Result.andThen]
  rw [Oper.upon_value]
  go_wp2
  rw [Lib.run_from_unsafe w ⟨b, 0, none⟩ Tryz.underlying117 Tryz.underlying89 hj hsh (by kernel_rfl)]
  simp only [Result.andThen]
  rw [Oper.upon_value]
  go_wp2
  go_end0
  exact ⟨rfl, rfl⟩

set_option maxRecDepth 100000 in
set_option maxHeartbeats 1000000 in
theorem str_bytes (b g cap : Nat) (p : Value) (cur : Array Value) (l : List UInt8) (h0 : l ≠ []) (w : World) (hbk : w.heap[b]? = some (.cells #[p, .slice (some ⟨g, 0, none⟩) l.length cap] 91 (0, 0))) (hg : w.heap[g]? = some (.cells cur 5 (0, 0)))
    (hlc : l.length ≤ cur.size) (hcap : l.length ≤ cap) (hn : l.length ≤ 4294967296) (hc : ∀ (j : Nat) x, l[j]? = some x → w.cell? ⟨g, j, none⟩ = some (.int .u8 x.toNat)) :
    Calls Tryz.prog 67 #[.pointer (some ⟨b, 0, none⟩)] w fun e w' => e = .returned (.string ⟨l.toArray⟩) ∧ w' = w.drew.freeze ⟨g, 0, none⟩ l.length := by
  have hl0 : l.length ≠ 0 := by simpa using h0
  have c1 : w.drew.cell? ⟨b, 1, none⟩ = some (.slice (some ⟨g, 0, none⟩) l.length cap) := by
    have : w.drew.heap[b]? = some (.cells #[p, .slice (some ⟨g, 0, none⟩) l.length cap] 91 (0, 0)) := hbk
    rw [Lib.cell_of_heap this]; rfl
  have hSD : (Builtin.unsafeSliceData_ #[80] 109 #[.slice (some ⟨g, 0, none⟩) l.length cap]).run Tryz.prog w.drew = .ok (.pointer (some ⟨g, 0, none⟩)) w.drew :=
    Lib.run_unsafeSliceData_row _ _ _ _ _ _ (by omega)
  have hUS : (Builtin.unsafeString_ #[109, 3] 9 #[.pointer (some ⟨g, 0, none⟩), .int .i64 l.length]).run Tryz.prog w.drew = .ok (.string ⟨l.toArray⟩) (w.drew.freeze ⟨g, 0, none⟩ l.length) := by
    refine Lib.run_unsafeString_row w.drew 109 3 9 5 Tryz.underlying109 (by kernel_rfl) g cur.size (by have hg' : w.drew.heap[g]? = some (.cells cur 5 (0, 0)) := hg; simp [World.shape?, hg']) l h0 (by omega) (by omega) ?_
    intro j x hx
    have e : (⟨g, 0, none⟩ : Addr).add j = ⟨g, j, none⟩ := by unfold Addr.add; split <;> simp_all
    rw [e]; exact hc j x hx
  clear hc hg
  go_enter Tryz.func67, Tryz.ntmps67
  go_wp2
  go_region
  all_goals (go_wp2; go_ret; exact ⟨rfl, rfl⟩)
set_option maxRecDepth 100000 in
set_option maxHeartbeats 2000000 in
theorem str_nil (b : Nat) (p : Value) (w : World) (hbk : w.heap[b]? = some (.cells #[p, .slice none 0 0] 91 (0, 0))) :
    Calls Tryz.prog 67 #[.pointer (some ⟨b, 0, none⟩)] w fun e w' => e = .returned (.string ⟨#[]⟩) ∧ w' = w.drew := by
  have hUS : ∀ q, (Builtin.unsafeString_ #[109, 3] 9 #[.pointer q, .int .i64 0]).run Tryz.prog w.drew = .ok (.string .empty) w.drew := fun q => Lib.run_unsafeString_none _ 109 3 9 q
  have c1 : w.drew.cell? ⟨b, 1, none⟩ = some (.slice none 0 0) := by
    have : w.drew.heap[b]? = some (.cells #[p, .slice none 0 0] 91 (0, 0)) := hbk
    rw [Lib.cell_of_heap this]; rfl
  have hSD : (Builtin.unsafeSliceData_ #[80] 109 #[.slice none 0 0]).run Tryz.prog w.drew = .ok (.pointer none) w.drew := rfl
  go_enter Tryz.func67, Tryz.ntmps67
  go_wp2
  go_region
  all_goals (go_wp2; go_ret; exact ⟨rfl, rfl⟩)
set_option maxRecDepth 100000 in
set_option maxHeartbeats 2000000 in
theorem str_room (b g cap : Nat) (p : Value) (w : World) (hc0 : cap ≠ 0) (hbk : w.heap[b]? = some (.cells #[p, .slice (some ⟨g, 0, none⟩) 0 cap] 91 (0, 0))) :
    Calls Tryz.prog 67 #[.pointer (some ⟨b, 0, none⟩)] w fun e w' => e = .returned (.string ⟨#[]⟩) ∧ w' = w.drew := by
  have hUS : ∀ q, (Builtin.unsafeString_ #[109, 3] 9 #[.pointer q, .int .i64 0]).run Tryz.prog w.drew = .ok (.string .empty) w.drew := fun q => Lib.run_unsafeString_none _ 109 3 9 q
  have c1 : w.drew.cell? ⟨b, 1, none⟩ = some (.slice (some ⟨g, 0, none⟩) 0 cap) := by
    have : w.drew.heap[b]? = some (.cells #[p, .slice (some ⟨g, 0, none⟩) 0 cap] 91 (0, 0)) := hbk
    rw [Lib.cell_of_heap this]; rfl
  have hSD : (Builtin.unsafeSliceData_ #[80] 109 #[.slice (some ⟨g, 0, none⟩) 0 cap]).run Tryz.prog w.drew = .ok (.pointer (some ⟨g, 0, none⟩)) w.drew :=
    Lib.run_unsafeSliceData_row _ _ _ _ _ _ hc0
  clear hc0
  go_enter Tryz.func67, Tryz.ntmps67
  go_wp2
  go_region
  all_goals (go_wp2; go_ret; exact ⟨rfl, rfl⟩)
set_option maxRecDepth 100000 in
set_option maxHeartbeats 2000000 in
theorem str_noroom (b g : Nat) (p : Value) (cur : Array Value) (w : World) (hbk : w.heap[b]? = some (.cells #[p, .slice (some ⟨g, 0, none⟩) 0 0] 91 (0, 0))) (hg : w.heap[g]? = some (.cells cur 5 (0, 0))) :
    Calls Tryz.prog 67 #[.pointer (some ⟨b, 0, none⟩)] w fun e w' => e = .returned (.string ⟨#[]⟩) ∧ w' = w.drew.alloc (.view ⟨g, 0, none⟩ 5) := by
  have hUS : ∀ W q, (Builtin.unsafeString_ #[109, 3] 9 #[.pointer q, .int .i64 0]).run Tryz.prog W = .ok (.string .empty) W := fun W q => Lib.run_unsafeString_none _ 109 3 9 q
  have hlt : b < w.heap.size := (Array.getElem?_eq_some_iff.1 hbk).1
  have c1 : w.drew.cell? ⟨b, 1, none⟩ = some (.slice (some ⟨g, 0, none⟩) 0 0) := by
    have : w.drew.heap[b]? = some (.cells #[p, .slice (some ⟨g, 0, none⟩) 0 0] 91 (0, 0)) := hbk
    rw [Lib.cell_of_heap this]; rfl
  have hSD : (Builtin.unsafeSliceData_ #[80] 109 #[.slice (some ⟨g, 0, none⟩) 0 0]).run Tryz.prog w.drew = .ok (.pointer (some ⟨w.drew.heap.size, 0, none⟩)) (w.drew.alloc (.view ⟨g, 0, none⟩ 5)) :=
    Lib.run_unsafeSliceData_zero _ #[80] 109 5 Tryz.underlying109 ⟨g, 0, none⟩ 0 (5, cur.size) (by have hg' : w.drew.heap[g]? = some (.cells cur 5 (0, 0)) := hg; simp [World.shape?, hg'])
  have c2 : (w.drew.alloc (.view ⟨g, 0, none⟩ 5)).cell? ⟨b, 1, none⟩ = some (.slice (some ⟨g, 0, none⟩) 0 0) := by
    have : (w.drew.alloc (.view ⟨g, 0, none⟩ 5)).heap[b]? = _ := (Lib.alloc_old w.drew _ b hlt).trans hbk
    rw [Lib.cell_of_heap this]; rfl
  have c3 : w.cell? ⟨b, 1, none⟩ = some (.slice (some ⟨g, 0, none⟩) 0 0) := c1
  have c4 : (w.alloc (.view ⟨g, 0, none⟩ 5)).drew.cell? ⟨b, 1, none⟩ = some (.slice (some ⟨g, 0, none⟩) 0 0) := c2
  clear hg
  go_enter Tryz.func67, Tryz.ntmps67
  go_wp2
  go_region
  all_goals (go_wp2; go_ret; exact ⟨rfl, rfl⟩)
end Go.Pe.Tryz
end
section
set_option linter.unusedSectionVars false
set_option linter.unusedVariables false
set_option linter.unusedSimpArgs false
namespace Go.Pe.Tryz
open Go.Proofs Go.RowKit Go.Lib Go.Sort
@[reducible] def h84_I : Shape := ⟨[.ptr 0 0], [some [.bld 0, .whole 0]], [some (.int .u8)]⟩
@[reducible] def h84_O : Shape := ⟨[], [some [.bld 0, .whole 0]], [some (.int .u8)]⟩
@[reducible] def h84_F (y : h84_I.den) : Option h84_O.den := some ((), y.2)
@[reducible] def h67_I : Shape := ⟨[.ptr 0 0], [some [.bld 0, .whole 0]], [some (.int .u8)]⟩
@[reducible] def h67_O : Shape := ⟨[.hole .str], [none], [none]⟩
@[reducible] def h67_F (y : h67_I.den) : Option h67_O.den := if bytesOf (strOf y.2.2.1) = y.2.2.1 ∧ y.2.2.1.length ≤ 4294967296 then some ((strOf y.2.2.1, ()), (), ()) else none
theorem bld_block {A0 : Dom} {w0 w : World} {st : St} {tmps : Array Value} {μ : Mu} (hs : Sim A0 w0 st tmps w μ) {l : List Int} (h0 : getL st.recs 0 = some [.bld 0, .whole 0]) (h1 : getL st.lsts 0 = some ⟨.int .u8, l⟩) :
    ∃ b p v, μ.at_ (.r 0) = some b ∧ w.heap[b]? = some (.cells #[p, v] 91 (0, 0)) ∧ (p = .pointer none ∨ p = .pointer (some ⟨b, 0, none⟩)) ∧ RepAV (cx A0 w0 st.recs st.lsts w μ) (.whole 0) v ∧ WholeAt0 μ 0 ⟨.int .u8, l⟩ v := by
  obtain ⟨b, vs, hb, ⟨el, ho⟩, hv⟩ := hs.mem.hrec 0 _ h0 rfl
  obtain ⟨vs2, h2⟩ := hs.mem.bty.r 0 _ h0 rfl b hb
  rw [ho] at h2; cases h2
  obtain ⟨p, _, e1, r1, hv⟩ := hv.cons'
  obtain ⟨v, _, rfl, r2, hv⟩ := hv.cons'
  obtain rfl := hv.nil
  have hvs : vs = #[p, v] := by apply Array.ext'; simpa using e1
  subst hvs
  have r2' := r2
  simp only [RepAV, cx] at r1 r2'
  obtain ⟨b', hb', hp⟩ := r1.2.2 (by rw [h0]; rfl)
  rw [hb] at hb'; cases hb'
  exact ⟨b, p, v, hb, ho, hp, r2, (WholeAt.plain (o := ⟨.int .u8, l⟩) rfl).1 (r2'.2.2 _ h1)⟩
theorem copy_ok : SoundH Tryz.prog 84 ⟨h84_I, h84_O, h84_F⟩ := by
  refine ⟨⟨_, Tryz.func84, by kernel_rfl, by kernel_rfl⟩, ?_⟩
  intro y o hF A0 w0 w vs μ hs
  simp only [Option.some.injEq] at hF; subst hF
  obtain ⟨b, p, v, hb, hh, hp, hv, hw⟩ := bld_block hs (l := y.2.2.1) rfl rfl
  obtain ⟨x, _, e, hx, hn⟩ := hs.slots.cons'
  obtain rfl := hn.nil
  simp only [fillA, RepAV, cx] at hx
  obtain ⟨b', hb', rfl⟩ := hx.2.2 rfl
  rw [hb] at hb'; cases hb'
  have hvs : vs = [.pointer (some ⟨b, 0, none⟩)] := by simpa using e
  subst hvs
  rcases hp with rfl | rfl
  · refine (copy_fresh b w v hh).mono ?_
    rintro e w' ⟨rfl, rfl⟩
    refine ⟨[], μ, rfl, ?_, ?_⟩
    · simp [fill, fillL, RepAVs]
    · rw [setCell_eq_setRow w b 0 _ 91 (0, 0) _ hh]
      exact hs.mem.setRec (r := 0) (cells := [.bld 0, .whole 0]) (cells' := [.bld 0, .whole 0]) rfl hb ⟨91, hh⟩ (by
        refine RepAVs.cons ?_ (RepAVs.cons hv (by simp [RepAVs]))
        simp only [RepAV, cx]
        exact ⟨by simp [fill, fillR], rfl, fun _ => ⟨b, hb, .inr rfl⟩⟩) (fun h => h)
  · refine (copy_used b w (by rw [Lib.cell_of_heap hh]; rfl)).mono ?_
    rintro e w' ⟨rfl, rfl⟩
    exact ⟨[], μ, rfl, by simp [fill, fillL, RepAVs], hs.mem⟩
theorem freeze_other {w : World} {g n k : Nat} (h : k ≠ g) : (w.freeze ⟨g, 0, none⟩ n).heap[k]? = w.heap[k]? := by
  unfold World.freeze
  split
  · rfl
  · simp [Array.getElem?_modify, Ne.symm h]
theorem freeze_size {w : World} {a : Addr} {n : Nat} : (w.freeze a n).heap.size = w.heap.size := by
  unfold World.freeze
  split <;> simp
theorem str_post {A0 : Dom} {w0 w : World} {l : List Int} {tmps : Array Value} {μ : Mu} (hs : Sim A0 w0 (fill h67_I (((), ()), (((), (), ()), ()), (l, ()))) tmps w μ) {w' : World} (s : List UInt8) (hsz : w.heap.size ≤ w'.heap.size) (hb : Below w0.heap.size w w')
    (hk : ∀ k, k < w.heap.size → (∀ x, μ.at_ x ≠ some k) → w'.heap[k]? = w.heap[k]?) : Sim A0 w0 (fill h67_O ((s, ()), (), ())) #[.string ⟨s.toArray⟩] w' ⟨fun _ => none, fun _ => 0, none⟩ := by
  have hm := hs.mem
  refine ⟨?_, ?_, ?_, (fun x b hx => by cases hx), (fun x y b hx => by cases hx), hm.below.trans hb, ?_, ?_, hm.np, ?_, hm.gi, ?_, (fun r c h => by cases r <;> simp [fill, fillR, getL] at h), (fun d h => by cases h), hm.pinl.of (by have := hm.pinl.1; simpa [fill, fillT] using this) (fun t o ht h => by cases t <;> simp [fill, fillT, getL] at h)⟩
  · simp [fill, fillL, fillA, RepAVs, RepAV, Rep]
  · intro r cells h _
    cases r <;> simp [fill, fillR, getL] at h
  · intro r o h
    cases r <;> simp [fill, fillT, getL] at h
  · intro b hF
    obtain ⟨h1, h2, h3⟩ := hm.fr b hF
    exact ⟨by omega, (hk b h1 h3).trans h2, fun x hx => by cases hx⟩
  · intro b hX
    obtain ⟨h1, h2⟩ := hm.xo b hX
    exact ⟨by omega, fun x hx => by cases hx⟩
  · intro r b h
    obtain ⟨h1, h2⟩ := hm.pins r b h
    exact ⟨h1, fun h3 => by cases r <;> simp [fill, fillR, getL] at h3⟩
  · exact ⟨fun r c h => by cases r <;> simp [fill, fillR, getL] at h, fun r o h => by cases r <;> simp [fill, fillT, getL] at h⟩
theorem u8s {A : Nat → Prop} {w : World} : ∀ {xs : List Int} {us : List Value}, RepAll (Rep A w (.int .u8)) xs us → us = xs.map fun n => Value.int .u8 n
  | [], _, h => by simpa [RepAll] using h
  | x :: xs, _, ⟨u1, u2, e, h1, h2⟩ => by
    simp only [Rep] at h1
    rw [e, h1, u8s h2]; rfl
theorem str_ok : SoundH Tryz.prog 67 ⟨h67_I, h67_O, h67_F⟩ := by
  refine ⟨⟨_, Tryz.func67, by kernel_rfl, by kernel_rfl⟩, ?_⟩
  intro y o hF A0 w0 w vs μ hs
  obtain ⟨⟨⟨⟩, ⟨⟩⟩, ⟨⟨⟨⟩, ⟨⟩, ⟨⟩⟩, ⟨⟩⟩, l, ⟨⟩⟩ := y
  obtain ⟨b, p, v, hb, hh, hp, hv, hw⟩ := bld_block hs (l := l) rfl rfl
  obtain ⟨x, _, e, hx, hn⟩ := hs.slots.cons'
  obtain rfl := hn.nil
  simp only [fillA, RepAV, cx] at hx
  obtain ⟨b', hb', rfl⟩ := hx.2.2 rfl
  rw [hb] at hb'; cases hb'
  have hvs : vs = [.pointer (some ⟨b, 0, none⟩)] := by simpa using e
  subst hvs
  simp only [h67_F] at hF
  split at hF
  · rename_i hc
    obtain ⟨hc, hlen⟩ := hc
    cases hF
    have fin : ∀ {e : Ending} {w' : World}, e = .returned (.string ⟨(strOf l).toArray⟩) → w.heap.size ≤ w'.heap.size → Below w0.heap.size w w' → (∀ k, k < w.heap.size → (∀ x, μ.at_ x ≠ some k) → w'.heap[k]? = w.heap[k]?) →
        ∃ us μ', e = .returned (retVal us) ∧ Sim A0 w0 (fill h67_O ((strOf l, ()), (), ())) us.toArray w' μ' := fun he h1 h2 h3 =>
      ⟨[.string ⟨(strOf l).toArray⟩], _, by rw [he]; rfl, str_post hs (strOf l) h1 h2 h3⟩
    rcases hw with ⟨hat, rfl⟩ | ⟨g, hg, rfl⟩
    · rcases (LstAt.plain (o := ⟨.int .u8, l⟩) rfl).1 (hs.mem.hlst 0 _ (show getL _ 0 = some (⟨.int .u8, l⟩ : LObj) from rfl)) with ⟨_, h2⟩ | ⟨g, _, h2, _⟩
      · simp only at h2; subst h2
        refine (str_nil b p w hh).mono ?_
        rintro e w' ⟨rfl, rfl⟩
        exact fin rfl (Nat.le_refl _) (Below.drew (Below.refl _ w)) fun k _ _ => rfl
      · rw [show (cx A0 w0 _ _ w μ).μ.at_ (.l 0) = μ.at_ (.l 0) from rfl, hat] at h2; cases h2
    · rcases (LstAt.plain (o := ⟨.int .u8, l⟩) rfl).1 (hs.mem.hlst 0 _ (show getL _ 0 = some (⟨.int .u8, l⟩ : LObj) from rfl)) with ⟨h2, _⟩ | ⟨g', cs, h2, hown, hsz, hcap, us, rest, e1, hr⟩
      · rw [show (cx A0 w0 _ _ w μ).μ.at_ (.l 0) = μ.at_ (.l 0) from rfl, hg] at h2; cases h2
      · rw [show (cx A0 w0 _ _ w μ).μ.at_ (.l 0) = μ.at_ (.l 0) from rfl, hg] at h2; cases h2
        obtain ⟨cs2, hg2⟩ := hs.mem.bty.l 0 _ (show getL _ 0 = some (⟨.int .u8, l⟩ : LObj) from rfl) rfl g hg
        obtain ⟨el, hg3⟩ := hown
        have hg4 : w.heap[g]? = some (.cells cs el (0, 0)) := hg3
        rw [hg4] at hg2; cases hg2
        have hus := u8s hr
        have hul : us.length = l.length := by rw [hus]; simp
        have hsz' : cs.size = μ.cap 0 := (show cs.size = μ.cap 0 * 1 from hsz).trans (Nat.mul_one _)
        have hcap' : l.length ≤ μ.cap 0 := hcap
        have hlive := hs.mem.live _ _ hg
        by_cases h0 : l = []
        · subst h0
          by_cases hc0 : μ.cap 0 = 0
          · have hh' := hh
            rw [hc0] at hh'
            refine (str_noroom b g p cs w hh' hg4).mono ?_
            rintro e w' ⟨rfl, rfl⟩
            refine fin rfl ((Below.drew (Below.refl w.heap.size w)).alloc (Nat.le_refl _) (.view ⟨g, 0, none⟩ 5)).size ((Below.drew (Below.refl _ w)).alloc hs.mem.below.size _) fun k hk _ => (Lib.alloc_old w.drew _ k hk)
          · refine (str_room b g _ p w hc0 hh).mono ?_
            rintro e w' ⟨rfl, rfl⟩
            exact fin rfl (Nat.le_refl _) (Below.drew (Below.refl _ w)) fun k _ _ => rfl
        · have hsl : (strOf l).length = l.length := by
            have := congrArg List.length hc
            simpa [bytesOf] using this
          have hne : strOf l ≠ [] := by intro e; rw [e] at hsl; exact h0 (List.eq_nil_of_length_eq_zero hsl.symm)
          rw [← hsl] at hh hcap' hlen
          refine (str_bytes b g _ p cs (strOf l) hne w hh hg4 (by rw [hsz']; exact hcap') hcap' hlen fun j x hx => ?_).mono ?_
          · rw [Lib.cell_of_heap hg4, ← Array.getElem?_toList, e1]
            have hj : j < l.length := by rw [← hsl]; exact (List.getElem?_eq_some_iff.1 hx).1
            have hx2 : (bytesOf (strOf l))[j]? = some (x.toNat : Int) := by simp only [bytesOf, List.getElem?_map, hx]; rfl
            rw [hc] at hx2
            rw [List.getElem?_append_left (by omega), hus, List.getElem?_map, hx2]; rfl
          · rintro e w' ⟨rfl, rfl⟩
            refine fin rfl (by rw [freeze_size]; exact Nat.le_refl _) (Lib.below_freeze (Below.drew (Below.refl _ w)) (p := ⟨g, 0, none⟩) hlive.1 _) fun k hk hx => freeze_other (w := w.drew) (fun e => hx (.l 0) (by rw [e]; exact hg))
  · cases hF
theorem below_growN (w : World) (k : Nat) (os : Array Obj) : Below w.heap.size w (grow (w.drewN k) os) :=
  ⟨rfl, rfl, rfl, Lib.size_grow w k os, fun j hj => Lib.heap_grow_old w k os j hj⟩
theorem join_ok : Sound Tryz.prog 46 (pfun joinF) := join_sound ⟨_, Tryz.func46, by kernel_rfl, by kernel_rfl⟩ (fun a c sep w => Tryz.strings_Join_none a c sep w) fun bk o c xs sep w h1 h2 h3 h4 h5 => Tryz.strings_Join bk o c xs sep w h1 h2 h3 h4 h5
theorem cut_ok : Sound Tryz.prog 8 (pfun cutF) := cut_sound ⟨_, Tryz.func8, by kernel_rfl, by kernel_rfl⟩ fun s sep w hi hs => by
  obtain ⟨⟨m, hm⟩, _⟩ := hi
  refine (Tryz.strings_Cut s sep m w hs hm).mono ?_
  rintro e w' ⟨rfl, n, rfl⟩
  exact ⟨rfl, below_drewN (Below.refl _ w) n⟩
theorem split_ok : Sound Tryz.prog 20 (pfun splitF) := split_sound ⟨_, Tryz.func20, by kernel_rfl, by kernel_rfl⟩ 9 fun s sep w hi hs h1 => by
  obtain ⟨⟨m, hm⟩, _⟩ := hi
  exact Tryz.strings_Split s sep m w hs hm h1
theorem itoa_ok : Sound Tryz.prog 45 (pfun itoaF) := itoa_sound ⟨_, Tryz.func45, by kernel_rfl, by kernel_rfl⟩ fun n w hi h0 h1 => by
  refine (Tryz.strconv_Itoa n h0 h1 w hi.2.1).mono ?_
  rintro e w' ⟨rfl, k, os, rfl⟩
  exact ⟨rfl, below_growN w k os⟩
theorem index_ok : Sound Tryz.prog 62 (pfun indexF) := index_sound ⟨_, Tryz.func62, by kernel_rfl, by kernel_rfl⟩ fun s c w => Tryz.strings_IndexByte s c w
theorem trim_ok : Sound Tryz.prog 26 (pfun trimF) := trim_sound ⟨_, Tryz.func26, by kernel_rfl, by kernel_rfl⟩ fun s p w => Tryz.strings_TrimPrefix s p w
theorem atoi_calls (s : ByteArray) (hs : s.size ≤ 4294967296) (w : World) (hi : Inv w) : Calls Tryz.prog 41 #[.string s] w fun e w' => ∃ ev, e = .returned (.tuple #[.int .i64 (numOf s.data.toList), ev]) ∧ Below w.heap.size w w' := by
  obtain ⟨_, _, ⟨eS, hS, hS'⟩, ⟨eR, hR, hR'⟩⟩ := hi
  unfold numOf
  cases h : Lib.atoiAll s.data.toList with
  | ok v =>
    refine (Tryz.strconv_Atoi_ok s (by omega) v h w).mono ?_
    rintro e w' ⟨rfl, hw⟩
    refine ⟨_, rfl, ?_⟩
    rcases hw with rfl | ⟨t, rfl⟩
    · exact Below.refl _ _
    · exact below_bytesWorld _ _ _
  | «syntax» =>
    refine (Tryz.strconv_Atoi_syntax s (by omega) h eS w hS hS').mono ?_
    rintro e w' ⟨N, rfl, _, _, hb⟩
    exact ⟨_, rfl, hb⟩
  | range =>
    refine (Tryz.strconv_Atoi_range s (by omega) h eR w hR hR').mono ?_
    rintro e w' ⟨N, rfl, _, _, hb⟩
    exact ⟨_, rfl, hb⟩
set_option maxRecDepth 100000 in
set_option maxHeartbeats 1000000 in
theorem number_calls (s : ByteArray) (hs : s.size ≤ 4294967296) (w : World) (hi : Inv w) : Calls Tryz.prog 22 #[.string s] w fun e w' => e = .returned (.int .i64 (numOf s.data.toList)) ∧ Below w.heap.size w w' := by
  have hI := atoi_calls s hs w hi
  generalize numOf s.data.toList = v at hI ⊢
  have eg : ∀ args w, (callFunc 41 args).run Tryz.prog w = .ok (.enter 41 args) w := enters_of Tryz.func41 (by kernel_rfl) rfl
  go_enter Tryz.func22, Tryz.ntmps22
  go_wp2_with (go_at_call 41; refine hI.mono ?_; rintro e W ⟨ev, rfl, hW⟩)
  go_wp2
  go_ret
  exact ⟨rfl, hW⟩
theorem number_ok : Sound Tryz.prog 22 (pfun numberF) := number_sound ⟨_, Tryz.func22, by kernel_rfl, by kernel_rfl⟩ fun s w hi hs => number_calls s hs w hi
end Go.Pe.Tryz
end
section
namespace Go.Pe
open Go.RowKit
open Go.ChangeMaps (setBlock)
set_option linter.unusedSectionVars false
variable [GI]
set_option linter.unusedSimpArgs false
set_option linter.unusedVariables false

section
variable {α β γ : Type}
def MrOk (step : γ → Option (α ⊕ β)) (fin : Option β) (l : List γ) (y : α) (o : β) : Prop :=
  (∀ x ∈ l, step x = some (.inl y) ∨ step x = some (.inr o)) ∧ ((∃ x ∈ l, step x = some (.inr o)) ∨ fin = some o)
open Classical in
noncomputable def mr (step : γ → Option (α ⊕ β)) (fin : Option β) (l : List γ) (y : α) : Option β := if h : ∃ o, MrOk step fin l y o then some (Classical.choose h) else none
theorem mr_ok {step : γ → Option (α ⊕ β)} {fin : Option β} {l : List γ} {y : α} {o : β} (h : mr step fin l y = some o) : MrOk step fin l y o := by
  unfold mr at h
  split at h
  · rename_i hx; cases h; exact Classical.choose_spec hx
  · cases h
theorem mrOk_one {step : γ → Option (α ⊕ β)} {fin : Option β} {l : List γ} {y : α} {o o' : β} (h : MrOk step fin l y o) (h' : MrOk step fin l y o') : o = o' := by
  rcases h.2 with ⟨x, hx, e⟩ | e
  · rcases h'.1 x hx with e1 | e1 <;> rw [e] at e1 <;> cases e1; rfl
  · rcases h'.2 with ⟨x, hx, e1⟩ | e1
    · rcases h.1 x hx with e2 | e2 <;> rw [e1] at e2 <;> cases e2; rfl
    · rw [e] at e1; cases e1; rfl
theorem mr_eq {step : γ → Option (α ⊕ β)} {fin : Option β} {l : List γ} {y : α} {o : β} (h : MrOk step fin l y o) : mr step fin l y = some o := by
  unfold mr
  rw [dif_pos ⟨o, h⟩]
  exact congrArg some (mrOk_one (Classical.choose_spec (⟨o, h⟩ : ∃ o, MrOk step fin l y o)) h)
end

mutual
def nosxA : SAV → Bool
  | .stk | .same => false
  | .agg l | .ifc _ l => nosxL l
  | .fn _ a b => nosxL a && nosxL b
  | _ => true
def nosxL : List SAV → Bool
  | [] => true
  | s :: r => nosxA s && nosxL r
end
def nosxR : List (Option (List SAV)) → Bool
  | [] => true
  | none :: r => nosxR r
  | some l :: r => nosxL l && nosxR r
def nosx (sh : Shape) : Bool := nosxL sh.slots && nosxR sh.recs
def nosxO : List (Ex × Shape) → Bool
  | [] => true
  | q :: r => nosx q.2 && nosxO r
mutual
theorem nosxA_map : ∀ {s : SAV} {z : s.den}, nosxA s = true → (fillA s z).mapS (fun _ => .dead) = fillA s z
  | .dead, _, _ | .hole _, _, _ | .ptr _ _, _, _ | .bld _, _, _ | .whole _, _, _ | .nilP, _, _ | .nilS, _, _ | .eptr _ _, _, _ => by simp only [fillA, AV.mapS]
  | .stk, _, h | .same, _, h => by simp [nosxA] at h
  | .agg l, z, h => by simp only [nosxA] at h; simp only [fillA, AV.mapS, nosxL_map h]
  | .ifc q l, z, h => by simp only [nosxA] at h; simp only [fillA, AV.mapS, nosxL_map h]
  | .fn f a b, z, h => by simp only [nosxA, Bool.and_eq_true] at h; simp only [fillA, AV.mapS, nosxL_map h.1, nosxL_map h.2]
theorem nosxL_map : ∀ {l : List SAV} {z : SAVs.den l}, nosxL l = true → mapSL (fun _ => .dead) (fillL l z) = fillL l z
  | [], _, _ => by simp only [fillL, mapSL]
  | s :: r, z, h => by simp only [nosxL, Bool.and_eq_true] at h; simp only [fillL, mapSL, nosxA_map h.1, nosxL_map h.2]
end
theorem fillL_len' : ∀ (l : List SAV) (z : SAVs.den l), (fillL l z).length = l.length
  | [], _ => rfl
  | s :: r, z => by simp [fillL, fillL_len' r z.2]
theorem nosxL_mark : ∀ {l : List SAV} {z : SAVs.den l}, nosxL l = true → isMark (fillL l z) = false
  | [], _, _ => rfl
  | s :: r, z, h => by
    simp only [nosxL, Bool.and_eq_true] at h
    cases s <;> first | rfl | (simp [nosxA] at h)
theorem nosxR_get : ∀ {l : List (Option (List SAV))} {z : recsDen l}, nosxR l = true → ∀ r c, getL (fillR l z) r = some c → isMark c = false ∧ mapSL (fun _ => .dead) c = c
  | [], _, _, r, c, h => by simp [fillR, getL_nil] at h
  | none :: l, z, hn, r, c, h => by
    cases r with
    | zero => simp [fillR, getL_cons0] at h
    | succ r => simp only [fillR, getL_consS] at h; exact nosxR_get (l := l) hn r c h
  | some s :: l, z, hn, r, c, h => by
    simp only [nosxR, Bool.and_eq_true] at hn
    cases r with
    | zero => simp only [fillR, getL_cons0, Option.some.injEq] at h; subst h; exact ⟨nosxL_mark hn.1, nosxL_map hn.1⟩
    | succ r => simp only [fillR, getL_consS] at h; exact nosxR_get (l := l) hn.2 r c h
def NoSx (st : St) : Prop := mapSL (fun _ => .dead) st.slots = st.slots ∧ ∀ r c, getL st.recs r = some c → isMark c = false ∧ mapSL (fun _ => .dead) c = c
theorem nosx_fill {sh : Shape} {z : sh.den} (h : nosx sh = true) : NoSx (fill sh z) := by
  simp only [nosx, Bool.and_eq_true] at h
  exact ⟨nosxL_map h.1, nosxR_get h.2⟩
theorem nosx_out : ∀ {outs : List (Ex × Shape)} {o : OutDen outs}, nosxO outs = true → NoSx (unOut outs o).2
  | [(e, sh)], z, h => by simp only [nosxO, Bool.and_eq_true] at h; exact nosx_fill h.1
  | (e, sh) :: _ :: _, .inl z, h => by rw [nosxO, Bool.and_eq_true] at h; exact nosx_fill (z := z) h.1
  | _ :: q :: r, .inr o, h => by rw [nosxO, Bool.and_eq_true] at h; exact nosx_out (outs := q :: r) (o := o) h.2

section
variable {A0 : Dom} {w0 w : World} {st : St} {tmps : Array Value} {μ : Mu}
theorem Sim.rekeep (hs : Sim A0 w0 st tmps w μ) (hn : NoSx st) (v : Value) : Sim { A0 with keep := v } w0 st tmps w μ := by
  have hm := hs.mem
  have hle : (cx A0 w0 st.recs st.lsts w μ).LeS (cx { A0 with keep := v } w0 st.recs st.lsts w μ) :=
    ⟨fun x hx => hx, fun x hx => rfl, Nat.le_refl _, Nat.le_refl _, fun _ _ h => ⟨h, rfl⟩, fun t o' _ h => ⟨o', h, rfl, rfl, rfl, rfl⟩⟩
  have hall : ∀ {l vs}, mapSL (fun _ => .dead) l = l → RepAVs (cx A0 w0 st.recs st.lsts w μ) l vs → RepAVs (cx { A0 with keep := v } w0 st.recs st.lsts w μ) l vs := fun hk hr => by
    have := hr.mapS hle (f := fun _ => .dead) (fun _ _ _ => by simp only [RepAV]); rwa [hk] at this
  refine ⟨hall hn.1 hs.slots, fun r c hr hk => ?_, hm.hlst, hm.live, hm.inj, hm.below, hm.fr, hm.xo, hm.np, hm.pins, hm.gi, hm.bty, fun r c hr => ?_, fun d hd => ?_, ⟨hm.pinl.1, hm.pinl.2⟩⟩
  · obtain ⟨b, vs, h1, h2, h3⟩ := hm.hrec r c hr hk
    exact ⟨b, vs, h1, h2, hall (hn.2 r c hr).2 h3⟩
  · have := (hn.2 r _ hr).1; simp [isMark] at this
  · exact (hm.deep d hd).mono (c := cx A0 w0 st.recs st.lsts w μ) ⟨hle.A, hle.w, fun _ => rfl, fun _ _ _ => rfl, Nat.le_refl _, fun _ _ h => h⟩
def Dom.itr (A : Dom) (r b : Nat) (w : World) : Dom := { A with F := fun x => A.F x ∨ x = b ∨ x = r, X := fun x => A.X x ∨ x = r, wF := w }
theorem Sim.itr (hs : Sim A0 w0 st tmps w μ) {b : Nat} (hb : b < w.heap.size) (hbu : ∀ x, μ.at_ x ≠ some b) (o : Obj) : Sim (A0.itr w.heap.size b (w.alloc o)) w0 st tmps (w.alloc o) μ := by
  have hm0 := hs.mem
  have hb1 : Below w.heap.size w (w.alloc o) := (Below.refl _ w).alloc (Nat.le_refl _) _
  have hsz1 : (w.alloc o).heap.size = w.heap.size + 1 := by simp
  have hle : (cx A0 w0 st.recs st.lsts w μ).Le (cx (A0.itr w.heap.size b (w.alloc o)) w0 st.recs st.lsts (w.alloc o) μ) :=
    ⟨fun b hb => ⟨⟨hb.1.1, fun h => by
      rcases h with h | h
      · exact hb.1.2 h
      · have := hb.2.1; omega⟩, by rw [hsz1]; have := hb.2.1; omega, hb.2.2⟩, fun b hb => hb1.block b hb.2.1, Nat.le_refl _, Nat.le_refl _, fun _ _ hs => ⟨hs, rfl⟩, fun _ o _ ho => ⟨o, ho, rfl, rfl, rfl, rfl⟩, fun _ _ h => h⟩
  refine ⟨hs.slots.mono hle, ?_, ?_, fun x b hx => ?_, hm0.inj, hm0.below.trans (hb1.mono hm0.below.size), ?_, ?_, hm0.np, hm0.pins, hm0.gi, hm0.bty.ext fun x b hx => hb1.block b (hm0.live _ _ hx).2.1, fun r c hr => (hm0.htop r c hr).imp (c := cx A0 w0 st.recs st.lsts w μ) rfl rfl (fun b hb => hb1.block b (hm0.live _ _ hb).2.1) fun us hu => hu.mono hle, fun d hd => (hm0.deep d hd).mono (c := cx A0 w0 st.recs st.lsts w μ) ⟨hle.A, hle.w, fun _ => rfl, fun k b hb => hb1.block b (hm0.live _ _ hb).2.1, Nat.le_refl _, fun _ _ h => h⟩, ⟨hm0.pinl.1, hm0.pinl.2⟩⟩
  · intro r cells hr hk
    obtain ⟨b, vs, h1, h2, h3⟩ := hm0.hrec r cells hr hk
    exact ⟨b, vs, h1, h2.ext (hb1.block b (hm0.live _ _ h1).2.1), h3.mono hle⟩
  · intro t o ht
    rcases hm0.hlst t o ht with h1 | ⟨b, vs, hb, ho, hsz, hc, us, rest, e, hr⟩
    · exact .inl h1
    · exact .inr ⟨b, vs, hb, ho.ext (hb1.block b (hm0.live _ _ hb).2.1), hsz, hc, us, rest, e, hr.imp fun x u hx => hx.mono hle.A hle.w⟩
  · obtain ⟨h1, h2, h3⟩ := hm0.live x b hx
    exact ⟨h1, by rw [hsz1]; omega, h3⟩
  · intro x hx
    rcases hx with hx | rfl | rfl
    · obtain ⟨h1, h2, h3⟩ := hm0.fr x hx
      exact ⟨by rw [hsz1]; omega, rfl, h3⟩
    · exact ⟨by rw [hsz1]; omega, rfl, hbu⟩
    · exact ⟨by rw [hsz1]; omega, rfl, fun y hy => by have := (hm0.live y _ hy).2.1; omega⟩
  · intro x hx
    rcases hx with hx | rfl
    · obtain ⟨h1, h3⟩ := hm0.xo x hx
      exact ⟨by rw [hsz1]; omega, h3⟩
    · exact ⟨by rw [hsz1]; omega, fun y hy => by have := (hm0.live y _ hy).2.1; omega⟩
end

def Ty.flat : Ty → Bool
  | .unit | .bool | .int _ | .str => true
  | .prod a b => a.flat && b.flat
  | _ => false
theorem flat_rep {A A' : Nat → Prop} {w w' : World} : ∀ {t : Ty} {x : t.den} {us : List Value}, t.flat = true → Rep A w t x us → Rep A' w' t x us
  | .unit, _, _, _, h | .bool, _, _, _, h | .int _, _, _, _, h | .str, _, _, _, h => by simpa only [Rep] using h
  | .prod a b, x, us, hf, h => by
    simp only [Ty.flat, Bool.and_eq_true] at hf
    simp only [Rep] at h ⊢
    obtain ⟨u1, u2, e, h1, h2⟩ := h
    exact ⟨u1, u2, e, flat_rep hf.1 h1, flat_rep hf.2 h2⟩
  | .list _, _, _, h, _ | .value, _, _, h, _ => by simp [Ty.flat] at h
section
variable {P : Program} {A0 : Dom} {Dk : List Deferred → Prop} {w0 : World} {S : Type}
variable {ε : Env} (hε : EnvOk P ε)
include hε
theorem evOps_soundL {ρ : Option Nat} {n : Nat} {ops : Array Oper} {Q : Exit → Act → World → Prop} {l2 : List Nat} {K : St → Option S} {Z : AV → St → Option S} {r : S}
    (hK : ∀ st' a' w' μ', K st' = some r → Sim A0 w0 st' a'.tmps w' μ' → Dk a'.defers → wpOpsIn (Fr ρ) n P ops Q l2 a' w')
    (hZ : ∀ av st' v a' w' μ', Z av st' = some r → RepAV (cx A0 w0 st'.recs st'.lsts w' μ') av v → Sim A0 w0 st' a'.tmps w' μ' → Dk a'.defers → Q (.panic [{ v := v, recovered := false }]) a' w') :
    ∀ (l : List Nat) (st : St) (a : Act) (w : World) (μ : Mu), evOps ε ops l st K Z = some r → Sim A0 w0 st a.tmps w μ → Dk a.defers → wpOpsIn (Fr ρ) n P ops Q (l ++ l2) a w
  | [], st, a, w, μ, h, hs, hd => hK st a w μ h hs hd
  | i :: rest, st, a, w, μ, h, hs, hd => by
    simp only [evOps, putN_eq] at h
    simp only [List.cons_append, wpOpsIn]
    split at h
    · rename_i hi; rw [hi]; exact evOps_soundL hK hZ rest st a w μ h hs hd
    · rename_i o hi
      rw [hi]
      have run : ∀ (st1 : St), Sim A0 w0 st1 a.tmps w μ → evOpZ ε st1 o (fun v st' => evOps ε ops rest (st'.put o.dst v) K Z) Z = some r → o.wpIn (Fr ρ) n P a w (wpOpsIn (Fr ρ) n P ops Q (rest ++ l2)) Q := by
        intro st1 hs1 h1
        rcases evOpZ_sound hε hs1 o _ _ r h1 with ⟨av, st', hK', hop⟩ | ⟨av, st', hK', hop⟩
        · refine hop ρ n _ _ fun v w' ⟨μ', hrep, hsim⟩ => ?_
          exact evOps_soundL hK hZ rest _ _ w' μ' hK' (Sim.put (a := a) hsim o.dst hrep) (by rw [put_defers]; exact hd)
        · refine hop ρ n _ _ fun v w' ⟨μ', hrep, hsim⟩ => ?_
          exact hZ av st' v a w' μ' hK' hrep hsim hd
      have skip : ∀ (st1 : St), Sim A0 w0 st1 a.tmps w μ → evOps ε ops rest (st1.put o.dst (.tup [])) K Z = some r → (∀ f, o.about P w a.eval = some f → (Fr ρ).fn f) ∧ wpOpsIn (Fr ρ) n P ops Q (rest ++ l2) (a.put o.dst undef) w := by
        intro st1 hs1 h1
        refine ⟨fun _ _ => trivial, ?_⟩
        exact evOps_soundL hK hZ rest _ _ w μ h1 (Sim.put (a := a) hs1 o.dst (by simp only [RepAV, RepAVs]; exact ⟨#[], rfl, rfl⟩)) (by rw [put_defers]; exact hd)
      split at h
      · rename_i hg
        have hw : Region.wanted o (yielded ops a.tmps) = true := by simp [Region.wanted, hg]
        simp only [hw, if_true]
        split at h
        · rename_i q hq
          obtain ⟨b, hrun, hb, hnd⟩ := nilCmp_run hε hs hq
          have hput : ∀ b' : Bool, b = b' → evOps ε ops rest (st.put o.dst (.d .bool b')) K Z = some r → wpOpsIn (Fr ρ) n P ops Q (rest ++ l2) (a.put o.dst (.bool b)) w := fun b' e h => by
            subst e
            exact evOps_soundL hK hZ rest _ _ w μ h (Sim.put (a := a) hs o.dst (by simp only [RepAV, Rep])) (by rw [put_defers]; exact hd)
          refine ⟨fun f _ => trivial, ?_⟩
          rw [Oper.semAt_eq _ _ _ hnd, hrun]
          show wpOpsIn (Fr ρ) n P ops Q (rest ++ l2) (a.put o.dst (.bool b)) w
          unfold nilEq at h
          split at h
          · split at h
            · rename_i e1 e2
              cases b
              · exact hput false rfl (e2 ▸ h)
              · exact hput true rfl h
            · cases h
          · rename_i hne
            cases b
            · exact hput false rfl h
            · exact absurd (hb rfl) hne
        · exact (run st hs h)
      · rename_i j want hg
        split at h
        · cases h
        · rename_i d hj
          split at h
          · rename_i hb
            obtain ⟨v, hv, hr⟩ := hs.slots.get d _ hb
            simp only [RepAV, RepAVs] at hr
            obtain ⟨us, rfl, _⟩ := hr
            have hy : yielded ops a.tmps j = none := by
              have : a.tmps[d]? = some (.tuple us) := by simpa using hv
              simp [yielded, hj, this]
            have hw : Region.wanted o (yielded ops a.tmps) = false := by simp [Region.wanted, hg, hy]
            simp only [hw, Bool.false_eq_true, if_false]
            exact skip st hs h
          · rename_i b hb
            have hrep := hs.slots.get d _ hb
            obtain ⟨v, hv, hr⟩ := hrep
            simp only [RepAV, Rep, List.cons.injEq, and_true] at hr
            subst hr
            have hy : yielded ops a.tmps j = some b := by
              have : a.tmps[d]? = some (.bool b) := by simpa using hv
              simp [yielded, hj, this]
            have hset : ∀ b', b = b' → Sim A0 w0 { st with slots := st.slots.set d (.d .bool b') } a.tmps w μ := by
              intro b' e; subst e
              refine ⟨?_, hs.mem⟩
              have h1 : st.slots.set d (.d .bool b) = st.slots := by
                apply List.ext_getElem?
                intro k
                by_cases e : k = d
                · subst e; rw [List.getElem?_set_self (List.getElem?_eq_some_iff.1 hb).1, hb]
                · rw [List.getElem?_set_ne (Ne.symm e)]
              rw [h1]; exact hs.slots
            cases b with
            | true =>
              simp only [cond_true] at h
              cases want with
              | true =>
                have hw : Region.wanted o (yielded ops a.tmps) = true := by simp [Region.wanted, hg, hy]
                simp only [hw, if_true] at h ⊢
                exact (run _ (hset _ rfl) h)
              | false =>
                have hw : Region.wanted o (yielded ops a.tmps) = false := by simp [Region.wanted, hg, hy]
                simp only [hw, Bool.false_eq_true, if_false] at h ⊢
                exact skip _ (hset _ rfl) h
            | false =>
              simp only [cond_false] at h
              cases want with
              | true =>
                have hw : Region.wanted o (yielded ops a.tmps) = false := by simp [Region.wanted, hg, hy]
                simp only [hw, Bool.false_eq_true, if_false, if_true] at h ⊢
                exact skip _ (hset _ rfl) h
              | false =>
                have hw : Region.wanted o (yielded ops a.tmps) = true := by simp [Region.wanted, hg, hy]
                simp only [hw, Bool.false_eq_true, if_false, if_true] at h ⊢
                exact (run _ (hset _ rfl) h)
          · cases h

end

def itSt (it : Nat) (st : St) : St := { st with slots := st.slots.set it (.sx .same) }
def isSame : Option AV → Bool
  | some (.sx x) => (match x with | .same => true | _ => false)
  | _ => false
def entAV (k v : Ty) (ag : Bool) (e : k.den × v.den) : List AV := [.d k e.1, valOf v ag e.2]
def mrNext {β : Type} (it : Nat) (sh : Shape) (st : St) : Option (sh.den ⊕ β) := match isSame st.slots[it]? with | true => (abs sh st).map .inl | false => none
noncomputable def mrStep (ε : Env) {P : Program} {np : Nat} {tp : Bool} {body : Code} (xb : Ann P np tp body) (ops1 ops2 : Array Oper) (l1 l2 : List Nat) (d1 t1 d2 it k j : Nat) (sh : Shape) (outs : List (Ex × Shape)) (y : sh.den) (e : List AV) : Option (sh.den ⊕ OutDen outs) :=
  putN (itSt it (fill sh y)) (some d1) (.tup [.d .bool true, .dead, .dead]) fun s0 => evOps ε ops1 l1 s0 (fun s1 => match s1.ev (.tmp t1) with
    | .d .bool b => (match b with
      | true => (match isSame s1.slots[it]? with
        | true => putN s1 (some d2) (.tup e) fun s1 => evOps ε ops2 l2 s1 (fun s2 => evA ε xb s2 fun ex s3 => match ex with
          | .normal => mrNext it sh s3
          | .exit i => (match Nat.beq i k with | true => mrNext it sh s3 | false => (match Nat.beq i j with | true => none | false => (packOut outs (.exit i) s3).map .inr))
          | .ret => (packOut outs .ret s3).map .inr
          | .panic => none) fun _ _ => none
        | false => none)
      | false => none)
    | _ => none) fun _ _ => none
noncomputable def mrFin (ε : Env) (ops1 : Array Oper) (l1 : List Nat) (d1 t1 it : Nat) (sh : Shape) (outs : List (Ex × Shape)) (y : sh.den) : Option (OutDen outs) :=
  putN (itSt it (fill sh y)) (some d1) (.tup [.d .bool false]) fun s0 => evOps ε ops1 l1 s0 (fun s1 => match s1.ev (.tmp t1) with
    | .d .bool b => (match b with | true => none | false => packOut outs .normal s1)
    | _ => none) fun _ _ => none
noncomputable def mrF (ε : Env) (ops0 : Array Oper) (l0 : List Nat) (m : Operand) (tM : Nat) (shi sh : Shape) {β : Type} (step : sh.den → List AV → Option (sh.den ⊕ β)) (fin : sh.den → Option β) (y : shi.den) : Option β :=
  evOps ε ops0 l0 (fill shi y) (fun s => match s.ev m with
    | .whole q => (match mapInfo ε tM with
      | some (k, v, i) => (match v.flat && k.flat && (getL sh.lsts q).isNone with
        | true => (asMap k v i.agg s.lsts q).bind fun l => (abs sh s).bind fun y0 => mr (fun e => step y0 (entAV k v i.agg e)) (fin y0) l y0
        | false => none)
      | none => none)
    | _ => none) fun _ _ => none

section
variable {A0 : Dom} {w0 w : World} {st : St} {μ : Mu}
theorem Sim.itSt {a : Act} (hs : Sim A0 w0 st a.tmps w μ) {it : Nat} {v : Value} (hv : a.tmps[it]? = some v) (hk : A0.keep = v) (h1 : v.oneCell' = true) : Sim A0 w0 (itSt it st) a.tmps w μ := by
  have h := hs.put (some it) (av := .sx .same) (v := v) (by simp only [RepAV, RepSX, cx]; exact ⟨hk.symm, h1⟩)
  have e : (a.put (some it) v).tmps = a.tmps := by
    apply Array.ext_getElem?
    intro i
    by_cases hi : i = it
    · subst hi
      have hlt := (Array.getElem?_eq_some_iff.1 hv).1
      rw [hv]
      simp [Act.put, Array.getElem?_setIfInBounds, hlt]
    · simp [Act.put, Array.getElem?_setIfInBounds, Ne.symm hi]
  rw [e] at h
  exact h
theorem Sim.same {tmps : Array Value} (hs : Sim A0 w0 st tmps w μ) {it : Nat} (h : isSame st.slots[it]? = true) : tmps[it]? = some A0.keep := by
  unfold isSame at h
  split at h
  · rename_i x hx
    split at h
    · obtain ⟨v, hv, hr⟩ := hs.slots.get it _ hx
      simp only [RepAV, RepSX, cx] at hr
      rw [← hr.1]; simpa using hv
    · cases h
  · cases h
end

section
variable {P : Program} {ε : Env}
theorem opRun {ρ : Option Nat} {n : Nat} {a : Act} {w w' : World} {o : Oper} {v : Value} {next : Act → World → Prop} {Q : Exit → Act → World → Prop} (hr : (execOp a.eval o).run P w = .ok (.value v) w') (hnd : ∀ c, o.op ≠ .defer c) (h : next (a.put o.dst v) w') : o.wpIn (Fr ρ) n P a w next Q := by
  refine ⟨fun f _ => trivial, ?_⟩
  rw [Oper.semAt_eq _ _ _ hnd, hr]; exact h
theorem wpOps_step {ρ : Option Nat} {n : Nat} {a : Act} {w : World} {ops : Array Oper} {Q : Exit → Act → World → Prop} {i : Nat} {rest : List Nat} {o : Oper} (hi : ops[i]? = some o) (hg : o.guard = none) (h : o.wpIn (Fr ρ) n P a w (wpOpsIn (Fr ρ) n P ops Q rest) Q) : wpOpsIn (Fr ρ) n P ops Q (i :: rest) a w := by
  simp only [wpOpsIn]
  rw [hi]
  have hw : Region.wanted o (yielded ops a.tmps) = true := by simp [Region.wanted, hg]
  simp only [hw, if_true]
  exact h
theorem ents_get {A : Nat → Prop} {w : World} {k v : Ty} {ag : Bool} : ∀ {xs : List (k.den × v.den)} {es : List MapEntry}, EntsRep A w k v ag xs es → ∀ (i : Nat) (h : i < xs.length) (h' : i < es.length), Rep A w k xs[i].1 [es[i].key] ∧ Rep A w v xs[i].2 (valCells ag es[i])
  | [], _, _, i, h, _ => by simp at h
  | _ :: _, [], h, _, _, _ => h.elim
  | x :: xs, e0 :: es, h, i, h1, h2 => by
    cases i with
    | zero => exact h.1
    | succ i => exact ents_get h.2 i (by simpa using h1) (by simpa using h2)
theorem nodup_at {l : List MapEntry} (h : (l.map (·.born)).Nodup) {i j : Nat} (hi : i < l.length) (hj : j < l.length) (e : l[i].born = l[j].born) : i = j := by
  have h1 := (List.getElem_inj (xs := l.map (·.born)) (i := i) (j := j) (h₀ := by simpa using hi) (h₁ := by simpa using hj) h).1 (by simpa using e)
  exact h1
theorem val_rep {c : Cx} {v : Ty} {ag : Bool} {y : v.den} {e : MapEntry} (hy : Rep c.A c.w v y (valCells ag e)) (hag : ag = true → ∃ us, e.val = .agg us) : RepAV c (valOf v ag y) e.val := by
  unfold valOf
  cases ag with
  | true =>
    obtain ⟨us, hu⟩ := hag rfl
    simp only [valCells, cellsOf, hu] at hy
    rw [hu]
    simp only [RepAV]
    exact ⟨us, rfl, unpack_rep hy⟩
  | false =>
    simp only [valCells, cellsOf] at hy
    simp only [RepAV]
    exact hy
theorem Dok.unX {B : Dom} {w0 : World} {A : Dom} {r : Nat} {v u : Value} : ∀ {ds : List Deferred}, Dok { B with keep := v, X := fun x => B.X x ∨ x = r } w0 A ds → Dok B w0 { A with keep := u } ds
  | [], _ => trivial
  | d :: ds, ⟨⟨D, h1, h2, h3, h4, h5, h6, h7⟩, h8⟩ => ⟨⟨D, h1, h2, h3, h4, h5, fun h => h6 (.inl h), h7⟩, Dok.unX h8⟩
theorem Dok.toX {B A0 : Dom} {w0 w : World} {st : St} {tmps : Array Value} {μ : Mu} (hs : Sim A0 w0 st tmps w μ) {b : Nat} {o : Obj} {v : Value} : ∀ {ds : List Deferred}, Dok B w0 A0 ds → Dok { B with keep := v, X := fun x => B.X x ∨ x = w.heap.size } w0 { A0.itr w.heap.size b (w.alloc o) with keep := v } ds
  | [], _ => trivial
  | d :: ds, ⟨⟨D, h1, h2, h3, h4, h5, h6, h7⟩, h8⟩ => by
    obtain ⟨g1, g2, _⟩ := hs.mem.fr D h2
    have hb1 : Below w.heap.size w (w.alloc o) := (Below.refl _ w).alloc (Nat.le_refl _) _
    refine ⟨⟨D, h1, .inl h2, .inl h3, ?_, h5, fun h => ?_, h7⟩, Dok.toX hs h8⟩
    · show (w.alloc o).heap[D]? = _
      rw [hb1.block D g1, g2]; exact h4
    · rcases h with h | h
      · exact h6 h
      · omega
set_option maxHeartbeats 1000000 in
theorem mrange_of (hε : EnvOk P ε) {np : Nat} {tp : Bool} {id0 id1 id2 j k it d1 t1 d2 tM n0 : Nat} {m : Operand} {ops0 ops1 ops2 : Array Oper} {body : Code} (xb : Ann P np tp body) {l0 l1 l2 : List Nat} {shi sh : Shape} {outs : List (Ex × Shape)}
    {ty0 ty1 ty2 : TypeId} {p0 p1 p2 : String} {a0 a1 a2 : Array Edge}
    (e0 : List.range ops0.size = l0 ++ [n0]) (o0 : ops0[n0]? = some ⟨some it, .range tM m, ty0, p0, a0, none⟩)
    (e1 : List.range ops1.size = 0 :: l1) (o1 : ops1[0]? = some ⟨some d1, .next (.tmp it) false, ty1, p1, a1, none⟩)
    (e2 : List.range ops2.size = 0 :: l2) (o2 : ops2[0]? = some ⟨some d2, .entry (.tmp it), ty2, p2, a2, none⟩)
    (hit : Nat.blt it sh.slots.length = true) (hdd : ∀ y, (fill sh y).slots.set it .dead = (fill sh y).slots) (hnp0 : fits np shi = true) (hnp1 : fits np sh = true) (hnp2 : outsOk np outs = true) (hx : nosx sh = true) (hxo : nosxO outs = true)
    {F : shi.den → Option (OutDen outs)} (hF : ∀ y, F y = mrF ε ops0 l0 m tM shi sh (mrStep ε xb ops1 ops2 l1 l2 d1 t1 d2 it k j sh outs) (mrFin ε ops1 l1 d1 t1 it sh outs) y) :
    PieceSound P np tp (.seq (.region id0 ops0 false) (.block j (.loop (.seq (.region id1 ops1 false) (.seq (.cond (.tmp t1) .skip (.exit j)) (.block k (.seq (.region id2 ops2 false) body))))))) shi outs F := by
  refine ⟨hnp0, ?_⟩
  intro y o ho ρ n B A0 w0 Q a w μ hρ hB hnp hs hd hQ
  rw [hF] at ho
  unfold mrF at ho
  refine wpIn_seq (wpIn_region ?_)
  rw [e0]
  refine evOps_soundL (Dk := Dok B w0 A0) hε (fun s a w μ ho hs hd => ?_) (fun av st' v a' w' μ' h => by cases h) l0 _ a w μ ho hs hd
  split at ho
  case h_2 => cases ho
  rename_i q hm
  split at ho
  case h_2 => cases ho
  rename_i kt vt inf hinf
  split at ho
  case h_2 => cases ho
  rename_i hflat
  simp only [Bool.and_eq_true, Option.isNone_iff_eq_none] at hflat
  obtain ⟨⟨hvf, hkf⟩, hq0⟩ := hflat
  simp only [Option.bind_eq_some_iff] at ho
  obtain ⟨l, hl, y0, hy0, ho⟩ := ho
  obtain ⟨xs, hq, rfl⟩ := asMap_ok hl
  have hmr := mr_ok ho
  obtain ⟨ta, tb, d, ht, hka, hdesc, hk, hj, hv⟩ := mapInfo_ok hε hinf
  obtain ⟨b, es, clock, hb, hblk, hst, hsz, hent, hrep⟩ := map_block hs.mem hk hq
  have hmv : a.eval m = .map (some b) := by
    have h1 := ev_rep hs.slots m
    rw [hm] at h1
    simp only [RepAV, cx] at h1
    obtain ⟨b', hb', h2⟩ := (WholeAt.map (mapT_isMap kt vt inf.agg)).1 (h1.2.2 _ hq)
    rw [hb] at hb'; cases hb'
    exact h2
  have hbw : b < w.heap.size := (hs.mem.live _ _ hb).2.1
  have hs0 := abs_sound hs (fits_abs hnp hnp1).1 (fits_abs hnp hnp1).2 hy0
  have hbu : ∀ x, (μ.keep sh).at_ x ≠ some b := fun x hx1 => by
    have := hs.mem.inj _ _ _ (keep_some hx1) hb
    subst this
    simp [Mu.keep, hq0] at hx1
  generalize μ.keep sh = μ0 at hs0 hbu
  have hr0 := run_range_map (P := P) w tM ta tb b es clock ht hblk
  obtain ⟨ito, hito⟩ : ∃ ito : Obj, ito = .mapIter (some b) clock #[] clock := ⟨_, rfl⟩
  rw [← hito] at hr0
  obtain ⟨r, hr⟩ : ∃ r, r = w.heap.size := ⟨_, rfl⟩
  obtain ⟨ptr, hptr⟩ : ∃ ptr : Value, ptr = .pointer (some ⟨r, 0, none⟩) := ⟨_, rfl⟩
  refine wpOps_step o0 rfl (opRun (v := ptr) (w' := w.alloc ito) (by simp [execOp, hmv, hr0, hptr, hr]) (fun c h => by cases h) ?_)
  show Code.wpIn (Fr ρ) n P _ Q (a.put (some it) ptr) (w.alloc ito)
  refine wpIn_block (wpIn_loop_rounds (es.size + 1) ?_)
  have hone : ptr.oneCell' = true := by rw [hptr]; rfl
  obtain ⟨A1, hA1⟩ : ∃ A1 : Dom, A1 = { A0.itr w.heap.size b (w.alloc ito) with keep := ptr } := ⟨_, rfl⟩
  obtain ⟨B1, hB1⟩ : ∃ B1 : Dom, B1 = { B with keep := ptr, X := fun x => B.X x ∨ x = w.heap.size } := ⟨_, rfl⟩
  obtain ⟨A0k, hA0k⟩ : ∃ A0k : Dom, A0k = { A0 with keep := ptr } := ⟨_, rfl⟩
  have hbl : Below w.heap.size w (w.alloc ito) := (Below.refl _ w).alloc (Nat.le_refl _) _
  have hFlt : ∀ x, A0.F x → x < w.heap.size := fun x hx => (hs.mem.fr x hx).1
  have hEx : A0k.Ext A1 := by
    subst hA0k hA1
    exact ⟨rfl, fun b hb => .inl hb, rfl, rfl, rfl, rfl, rfl, fun b hb => ⟨.inl hb, by
      obtain ⟨h1, h2, _⟩ := hs.mem.fr b hb
      exact (hbl.block b h1).trans h2⟩⟩
  have hBx : ∀ {A2 : Dom}, A0k.Ext A2 → A2.X r → B1.Ext A2 := fun {A2} h hX => by
    subst hA0k hB1
    have h' := hB
    exact ⟨h.A.trans hB.A, fun x hx => by
      rcases hx with hx | hx
      · exact h.X x (hB.X x hx)
      · rw [hx, ← hr]; exact hX, h.pin.trans hB.pin, h.np.trans hB.np, h.keep, h.pinl.trans hB.pinl, h.nl.trans hB.nl, fun x hx => by
      obtain ⟨g1, g2⟩ := hB.F x hx
      obtain ⟨g3, g4⟩ := h.F x g1
      exact ⟨g3, g4.trans g2⟩⟩
  have hBF : ¬ B1.F r := fun h => by
    subst hB1
    have := hFlt _ (hB.F _ h).1; omega
  have hAF : ¬ A0k.F r := fun h => by
    subst hA0k
    have := hFlt _ h; omega
  have hBX : B1.X r := by subst hB1; exact .inr hr
  have hrw0 : w0.heap.size ≤ r := by have := hs.mem.below.size; omega
  have hU : ∀ {A2 : Dom}, A0k.Ext A2 → Under A2 np := fun {A2} h => by
    subst hA0k
    exact ⟨by rw [h.np]; exact hnp.1, by rw [h.nl]; exact hnp.2⟩
  -- the end
  have hend : ∀ {A2 : Dom} {ex : Ex} {st' : St} {tm : Array Value} {E : Exit} {a' : Act} {w' : World} {μ' : Mu}, A0k.Ext A2 → packOut outs ex st' = some o → Sim A2 w0 st' tm w' μ' → Lands ex tm a' E → Dok B1 w0 A2 a'.defers → Q E a' w' := fun {A2 ex st' tm E a' w' μ'} hE h1 h2 hl0 h3 => by
    obtain ⟨e, μ2, h4⟩ := packOut_sound h2 (hU hE) hnp2 h1
    refine hQ { A2 with keep := A0.keep } tm E a' w' μ2 ?_ (h4.rekeep (nosx_out hxo) A0.keep) (by rw [e]; exact hl0) (by subst hB1; exact Dok.unX h3)
    subst hA0k
    exact ⟨hE.A, hE.X, hE.pin, hE.np, rfl, hE.pinl, hE.nl, hE.F⟩
  -- the rounds
  have key : ∀ (N : Nat) (seen : Array Nat) (c0 : Nat) (Ai : Dom) (a : Act) (W : World) (μi : Mu), (leftOf es seen).size < N → A0k.Ext Ai → Ai.F r → Ai.F b → Ai.X r → Ai.wF.heap[r]? = some (.mapIter (some b) clock seen c0) → Ai.wF.heap[b]? = some (.map es clock) → clock ≤ c0 →
      Sim Ai w0 (fill sh y0) a.tmps W μi → a.tmps[it]? = some ptr → Dok B1 w0 Ai a.defers →
      ((∃ (i : Nat) (h1 : i < (xs.map (kv inf.agg)).length) (h2 : i < es.toList.length), seen.contains es.toList[i].born = false ∧ mrStep ε xb ops1 ops2 l1 l2 d1 t1 d2 it k j sh outs y0 (entAV kt vt inf.agg (xs.map (kv inf.agg))[i]) = some (.inr o)) ∨ mrFin ε ops1 l1 d1 t1 it sh outs y0 = some o) →
      Code.roundsIn (Fr ρ) n P (.seq (.region id1 ops1 false) (.seq (.cond (.tmp t1) .skip (.exit j)) (.block k (.seq (.region id2 ops2 false) body)))) (Exit.inBlock j Q) N a W := by
    intro N
    induction N with
    | zero => intro seen c0 Ai a W μi h; omega
    | succ N ih =>
      intro seen c0 Ai a W μi hlt hE hFr hFb hXr hwr hwb hsc hsi htm hdi hor
      have hBi := hBx hE hXr
      have hWr : W.heap[r]? = some (.mapIter (some b) clock seen c0) := (hsi.mem.fr r hFr).2.1.trans hwr
      have hWb : W.heap[b]? = some (.map es clock) := (hsi.mem.fr b hFb).2.1.trans hwb
      have hkeep : Ai.keep = ptr := by rw [hE.keep, hA0k]
      have hitS := hsi.itSt (it := it) htm hkeep hone
      rw [roundsIn_succ]
      refine wpIn_seq (wpIn_region ?_)
      rw [e1]
      refine wpOps_step o1 rfl ?_
      have hev : a.eval (.tmp it) = ptr := by simp [Act.eval, Array.getD_eq_getD_getElem?, htm]
      have hborn := (MapKept.stamped_iff es clock).1 hst
      rcases run_next_at (P := P) W ty1 r b clock c0 seen es clock hWr hWb hborn.1 hsc with ⟨h0, hrun⟩ | ⟨e, he, W1, hal, hrun⟩
      · -- nothing is left
        have hfin : mrFin ε ops1 l1 d1 t1 it sh outs y0 = some o := by
          rcases hor with ⟨i, g1, g2, g3, _⟩ | h
          · exfalso
            have : es.toList[i] ∈ (leftOf es seen).toList := by
              unfold leftOf
              simp only [Array.toList_filter, List.mem_filter]
              exact ⟨List.getElem_mem g2, by rw [g3]; rfl⟩
            rw [Array.eq_empty_of_size_eq_zero h0] at this
            cases this
          · exact h
        refine opRun (v := .tuple #[.bool false]) (w' := W) (by simp [execOp, hev, hptr, hrun]) (fun c h => by cases h) ?_
        have hput := hitS.put (some d1) (av := .tup [.d .bool false]) (v := .tuple #[.bool false]) (by simp only [RepAV, RepAVs, Rep]; exact ⟨#[.bool false], rfl, _, _, rfl, rfl, rfl⟩)
        unfold mrFin at hfin
        rw [putN_eq] at hfin
        refine evOps_sound (Dk := Dok B1 w0 Ai) hε (fun s1 a1 w1 μ1 h1 hs1 hd1 => ?_) (fun av st' v a' w' μ' h => by cases h) l1 _ _ W μi hfin hput (by rw [put_defers]; exact hdi)
        split at h1
        case h_2 => cases h1
        rename_i bb hbb
        split at h1
        · cases h1
        have hcr := ev_rep hs1.slots (.tmp t1)
        rw [hbb] at hcr
        simp only [RepAV, Rep, List.cons.injEq, and_true] at hcr
        show Code.wpIn (Fr ρ) n P _ _ a1 w1
        refine wpIn_seq (wpIn_cond_false hcr (wpIn_exit ?_))
        show Exit.inBlock j Q (.exit j) a1 w1
        simp only [Exit.inBlock, if_true]
        exact hend (ex := .normal) hE h1 hs1 ⟨rfl, rfl⟩ hd1
      · -- one comes
        obtain ⟨hem, hes⟩ := mem_left he
        obtain ⟨i, hi2, rfl⟩ := List.mem_iff_getElem.1 hem
        have hi1 : i < (xs.map (kv inf.agg)).length := by rw [ents_len hrep]; exact hi2
        have hstep := hmr.1 _ (List.getElem_mem hi1)
        obtain ⟨W2, hW2⟩ : ∃ W2, W2 = setBlock W1 r (.mapIter (some b) clock (seen.push es.toList[i].born) clock) := ⟨_, rfl⟩
        rw [← hW2] at hrun
        have hsi1 : Sim Ai w0 (fill sh y0) a.tmps W1 μi := by
          rcases hal with rfl | rfl
          · exact hsi
          · exact hsi.ext (Below.drew (Below.refl _ _))
        have hW1r : W1.heap[r]? = some (.mapIter (some b) clock seen c0) := by rcases hal with rfl | rfl <;> exact hWr
        have hW1b : W1.heap[b]? = some (.map es clock) := by rcases hal with rfl | rfl <;> exact hWb
        have hrb : b ≠ r := by omega
        have hs2 : Sim (Ai.noF r) w0 (fill sh y0) a.tmps W2 μi := by rw [hW2]; exact (hsi1.noF r).putX hXr (fun h => h.2 rfl) hrw0
        have hW2r : W2.heap[r]? = some (.mapIter (some b) clock (seen.push es.toList[i].born) clock) := by rw [hW2]; exact World.putObj_heap_same (Array.getElem?_eq_some_iff.1 hW1r).1
        have hW2b : W2.heap[b]? = some (.map es clock) := by rw [hW2]; exact (World.putObj_heap_other hrb).trans hW1b
        obtain ⟨A3, hA3⟩ : ∃ A3, A3 = (Ai.noF r).addF r W2 := ⟨_, rfl⟩
        have hs3 : Sim A3 w0 (fill sh y0) a.tmps W2 μi := by rw [hA3]; exact hs2.addF hXr
        have hE3 : A0k.Ext A3 := by rw [hA3]; exact (hE.noF hAF).addF hs2 r
        have hX3 : A3.X r := by rw [hA3]; exact hXr
        have hF3r : A3.F r := by rw [hA3]; exact .inr rfl
        have hF3b : A3.F b := by rw [hA3]; exact .inl ⟨hFb, hrb⟩
        have hd3 : Dok B1 w0 A3 a.defers := by rw [hA3]; exact Dok.rebase hBX hs2 hdi
        have hk3 : A3.keep = ptr := by rw [hE3.keep, hA0k]
        have hw3 : A3.wF = W2 := by rw [hA3]; rfl
        have hitS3 := hs3.itSt (it := it) htm hk3 hone
        have hput := hitS3.put (some d1) (av := .tup [.d .bool true, .dead, .dead]) (v := .tuple #[.bool true, es.toList[i].key, es.toList[i].val]) (by simp only [RepAV, RepAVs, Rep]; exact ⟨_, rfl, _, _, rfl, rfl, _, _, rfl, trivial, _, _, rfl, trivial, rfl⟩)
        refine opRun (v := .tuple #[.bool true, es.toList[i].key, es.toList[i].val]) (w' := W2) (by simp [execOp, hev, hptr, hrun]) (fun c h => by cases h) ?_
        have hB3 := hBx hE3 hX3
        -- the rest, whatever the round comes to
        have round : ∀ res, mrStep ε xb ops1 ops2 l1 l2 d1 t1 d2 it k j sh outs y0 (entAV kt vt inf.agg (xs.map (kv inf.agg))[i]) = some res → (res = .inl y0 ∨ res = .inr o) → (res = .inl y0 → ((∃ (i' : Nat) (h1 : i' < (xs.map (kv inf.agg)).length) (h2 : i' < es.toList.length), (seen.push es.toList[i].born).contains es.toList[i'].born = false ∧ mrStep ε xb ops1 ops2 l1 l2 d1 t1 d2 it k j sh outs y0 (entAV kt vt inf.agg (xs.map (kv inf.agg))[i']) = some (.inr o)) ∨ mrFin ε ops1 l1 d1 t1 it sh outs y0 = some o)) →
            wpOpsIn (Fr ρ) n P ops1 (Exit.then (Code.wpIn (Fr ρ) n P (.seq (.cond (.tmp t1) .skip (.exit j)) (.block k (.seq (.region id2 ops2 false) body))) (Exit.then (Code.roundsIn (Fr ρ) n P (.seq (.region id1 ops1 false) (.seq (.cond (.tmp t1) .skip (.exit j)) (.block k (.seq (.region id2 ops2 false) body)))) (Exit.inBlock j Q) N) (Exit.inBlock j Q))) (Exit.then (Code.roundsIn (Fr ρ) n P (.seq (.region id1 ops1 false) (.seq (.cond (.tmp t1) .skip (.exit j)) (.block k (.seq (.region id2 ops2 false) body)))) (Exit.inBlock j Q) N) (Exit.inBlock j Q))) l1 (a.put (some d1) (.tuple #[.bool true, es.toList[i].key, es.toList[i].val])) W2 := by
          intro res hres hor1 hnext
          unfold mrStep at hres
          rw [putN_eq] at hres
          refine evOps_sound (Dk := Dok B1 w0 A3) hε (fun s1 a1 w1 μ1 h1 hs1 hd1 => ?_) (fun av st' v a' w' μ' h => by cases h) l1 _ _ W2 μi hres hput (by rw [put_defers]; exact hd3)
          split at h1
          case h_2 => cases h1
          rename_i bb hbb
          split at h1
          case h_2 => cases h1
          split at h1
          case h_2 => cases h1
          rename_i hsame
          have hcr := ev_rep hs1.slots (.tmp t1)
          rw [hbb] at hcr
          simp only [RepAV, Rep, List.cons.injEq, and_true] at hcr
          show Code.wpIn (Fr ρ) n P _ _ a1 w1
          refine wpIn_seq (wpIn_cond_true hcr (wpIn_skip ?_))
          show Code.wpIn (Fr ρ) n P (.block k _) _ a1 w1
          refine wpIn_block (wpIn_seq (wpIn_region ?_))
          rw [e2]
          refine wpOps_step o2 rfl ?_
          have hti := hs1.same hsame
          have hev1 : a1.eval (.tmp it) = ptr := by rw [hk3] at hti; simp [Act.eval, Array.getD_eq_getD_getElem?, hti]
          have hw1r : w1.heap[r]? = some (.mapIter (some b) clock (seen.push es.toList[i].born) clock) := (hs1.mem.fr r hF3r).2.1.trans (by rw [hw3]; exact hW2r)
          have hw1b : w1.heap[b]? = some (.map es clock) := (hs1.mem.fr b hF3b).2.1.trans (by rw [hw3]; exact hW2b)
          have hentry := run_entry_at (P := P) w1 r b clock seen es clock es.toList[i] hw1r hw1b hem hborn.2.1
          refine opRun (v := .tuple #[es.toList[i].key, es.toList[i].val]) (w' := w1) (by simp [execOp, hev1, hptr, hentry]) (fun c h => by cases h) ?_
          obtain ⟨q1, q2⟩ := ents_get hrep i hi1 hi2
          have hput2 := hs1.put (some d2) (av := .tup (entAV kt vt inf.agg (xs.map (kv inf.agg))[i])) (v := .tuple #[es.toList[i].key, es.toList[i].val]) (by
            simp only [RepAV]
            refine ⟨_, rfl, RepAVs.cons ?_ (RepAVs.cons (val_rep (flat_rep hvf q2) (hent _ hem).2.1) (by simp [RepAVs]))⟩
            simp only [RepAV]
            exact flat_rep hkf q1)
          rw [putN_eq] at h1
          refine evOps_sound (Dk := Dok B1 w0 A3) hε (fun s2 a2 w2 μ2 h2 hs2 hd2 => ?_) (fun av st' v a' w' μ' h => by cases h) l2 _ _ w1 μ1 h1 hput2 (by rw [put_defers]; exact hd1)
          show Code.wpIn (Fr ρ) n P body _ a2 w2
          refine evA_sound (B := B1) hε hρ xb hB3 (hU hE3) _ (fun A4 ex st4 tm E a4 w4 μ4 he4 g1 g2 gl g3 => ?_) s2 a2 w2 μ2 h2 hs2 hd2
          have hE4 : A0k.Ext A4 := hE3.trans he4
          have hX4 : A4.X r := he4.X _ hX3
          -- it goes on
          have goon : ∀ (res' : sh.den ⊕ OutDen outs), mrNext it sh st4 = some res' → res' = res → tm = a4.tmps → Code.roundsIn (Fr ρ) n P (.seq (.region id1 ops1 false) (.seq (.cond (.tmp t1) .skip (.exit j)) (.block k (.seq (.region id2 ops2 false) body)))) (Exit.inBlock j Q) N a4 w4 := by
            intro res' hn hre htm4
            unfold mrNext at hn
            split at hn
            case h_2 => cases hn
            rename_i hsm
            simp only [Option.map_eq_some_iff] at hn
            obtain ⟨y', hy', rfl⟩ := hn
            rw [← hre] at hor1 hnext
            have hyy : y' = y0 := by rcases hor1 with h | h <;> cases h; rfl
            subst hyy
            subst htm4
            have hti4 := g2.same hsm
            refine ih (seen.push es.toList[i].born) clock A4 a4 w4 _ ?_ hE4 (he4.F r hF3r).1 (he4.F b hF3b).1 hX4 ?_ ?_ (Nat.le_refl _) (abs_sound g2 (fits_abs (hU hE4) hnp1).1 (fits_abs (hU hE4) hnp1).2 hy') (by rw [hti4, he4.keep, hk3]) g3 (hnext rfl)
            · have := left_shrinks es seen es.toList[i] he; omega
            · rw [(he4.F r hF3r).2, hw3]; exact hW2r
            · rw [(he4.F b hF3b).2, hw3]; exact hW2b
          have out : ∀ ex', (packOut outs ex' st4).map Sum.inr = some res → Lands ex' tm a4 E → Q E a4 w4 := by
            intro ex' hp hl4
            simp only [Option.map_eq_some_iff] at hp
            obtain ⟨o', ho', rfl⟩ := hp
            have : o' = o := by rcases hor1 with h | h <;> cases h; rfl
            subst this
            exact hend hE4 ho' g2 hl4 g3
          cases ex with
          | panic => cases g1
          | normal =>
            obtain ⟨h5, rfl⟩ := gl
            exact goon res g1 rfl h5
          | ret =>
            have h6 := out .ret g1 gl
            obtain ⟨h5, rfl⟩ := gl
            exact h6
          | exit id =>
            simp only at g1
            split at g1
            · rename_i hk
              obtain ⟨h5, rfl⟩ := gl
              have hk' : id = k := Nat.eq_of_beq_eq_true hk
              subst hk'
              show Exit.inBlock id _ (.exit id) a4 w4
              simp only [Exit.inBlock, if_true]
              exact goon res g1 rfl h5
            · rename_i hk
              split at g1
              · cases g1
              rename_i hj2
              have h6 := out (.exit id) g1 gl
              obtain ⟨h5, rfl⟩ := gl
              have hk' : id ≠ k := Nat.ne_of_beq_eq_false hk
              have hj' : id ≠ j := Nat.ne_of_beq_eq_false hj2
              show Exit.inBlock k (Exit.then _ (Exit.inBlock j Q)) (.exit id) a4 w4
              simp only [Exit.inBlock, if_neg hk', Exit.then, if_neg hj']
              exact h6
        rcases hstep with h | h
        · refine round _ h (.inl rfl) (fun _ => ?_)
          rcases hor with ⟨i', g1, g2, g3, g4⟩ | h'
          · refine .inl ⟨i', g1, g2, ?_, g4⟩
            have hne : es.toList[i'].born ≠ es.toList[i].born := fun e => by
              have := nodup_at hborn.2.1 g2 hi2 e
              subst this
              exact absurd (h.symm.trans g4) (by simp)
            rw [contains_push, g3]
            simpa using hne
          · exact .inr h'
        · exact round _ h (.inr rfl) (fun h => by cases h)
  -- the first round
  have h1 := (hs0.itr hbw hbu ito).rekeep (nosx_fill hx) ptr
  have hlen : it < (fill sh y0).slots.length := by
    have := Nat.le_of_ble_eq_true hit
    show it < (fillL sh.slots y0.1).length
    rw [fillL_len']; omega
  have htlen : it < a.tmps.size := by
    have := h1.slots.length
    rw [← Array.length_toList]; omega
  have h2 := h1.put (a := a) (some it) (av := .dead) (v := ptr) (by simp only [RepAV])
  have h3 : (fill sh y0).put (some it) .dead = fill sh y0 := by
    show { fill sh y0 with slots := (fill sh y0).slots.set it .dead } = fill sh y0
    rw [hdd y0]
  rw [h3] at h2
  rw [← hA1] at h2
  refine key (es.size + 1) #[] clock A1 (a.put (some it) ptr) (w.alloc ito) μ0 ?_ hEx (by subst hA1; exact .inr (.inr hr)) (by subst hA1; exact .inr (.inl rfl)) (by subst hA1; exact .inr hr) ?_ ?_ (Nat.le_refl _) h2 (by simp [Act.put, htlen]) (by rw [put_defers, hB1, hA1]; exact Dok.toX hs0 hd) ?_
  · have : (leftOf es #[]).size ≤ es.size := by unfold leftOf; exact Array.size_filter_le ..
    omega
  · subst hA1
    show (w.alloc ito).heap[r]? = _
    rw [hr, World.alloc_heap_new, hito]
  · subst hA1
    show (w.alloc ito).heap[b]? = _
    exact (hbl.block b hbw).trans hblk
  · rcases hmr.2 with ⟨z, hz, h⟩ | h
    · obtain ⟨i, hi, rfl⟩ := List.mem_iff_getElem.1 hz
      exact .inl ⟨i, hi, by rw [← ents_len hrep]; exact hi, by simp, h⟩
    · exact .inr h
def okAt (o : Option Oper) (d : Nat) (op : Op) : Prop := (o.map fun o => (o.dst, o.op, o.guard)) = some (some d, op, none)
theorem okAt_ok {o : Option Oper} {d : Nat} {op : Op} (h : okAt o d op) : ∃ (ty : TypeId) (p : String) (a : Array Edge), o = some ⟨some d, op, ty, p, a, none⟩ := by
  unfold okAt at h
  cases o with
  | none => cases h
  | some o =>
    obtain ⟨dst, op', ty, p, a, g⟩ := o
    simp only [Option.map_some, Option.some.injEq, Prod.mk.injEq] at h
    obtain ⟨rfl, rfl, rfl⟩ := h
    exact ⟨ty, p, a, rfl⟩
theorem mrange_at (hε : EnvOk P ε) {np : Nat} {tp : Bool} {id0 id1 id2 j k it d1 t1 d2 tM n0 : Nat} {m : Operand} {ops0 ops1 ops2 : Array Oper} {body c : Code} (xb : Ann P np tp body) {l0 l1 l2 : List Nat} {shi sh : Shape} {outs : List (Ex × Shape)}
    (hc : c = .seq (.region id0 ops0 false) (.block j (.loop (.seq (.region id1 ops1 false) (.seq (.cond (.tmp t1) .skip (.exit j)) (.block k (.seq (.region id2 ops2 false) body)))))))
    (e0 : List.range ops0.size = l0 ++ [n0]) (o0 : (ops0[n0]?.map fun o => (o.dst, o.op, o.guard)) = some (some it, .range tM m, none))
    (e1 : List.range ops1.size = 0 :: l1) (o1 : (ops1[0]?.map fun o => (o.dst, o.op, o.guard)) = some (some d1, .next (.tmp it) false, none))
    (e2 : List.range ops2.size = 0 :: l2) (o2 : (ops2[0]?.map fun o => (o.dst, o.op, o.guard)) = some (some d2, .entry (.tmp it), none))
    (hit : Nat.blt it sh.slots.length = true) (hdd : ∀ y, (fill sh y).slots.set it .dead = (fill sh y).slots) (hnp0 : fits np shi = true) (hnp1 : fits np sh = true) (hnp2 : outsOk np outs = true) (hx : nosx sh = true) (hxo : nosxO outs = true)
    {F : shi.den → Option (OutDen outs)} (hF : ∀ y, F y = mrF ε ops0 l0 m tM shi sh (mrStep ε xb ops1 ops2 l1 l2 d1 t1 d2 it k j sh outs) (mrFin ε ops1 l1 d1 t1 it sh outs) y) :
    PieceSound P np tp c shi outs F := by
  subst hc
  obtain ⟨_, _, _, g0⟩ := okAt_ok o0
  obtain ⟨_, _, _, g1⟩ := okAt_ok o1
  obtain ⟨_, _, _, g2⟩ := okAt_ok o2
  exact mrange_of hε xb e0 g0 e1 g1 e2 g2 hit hdd hnp0 hnp1 hnp2 hx hxo hF
def _root_.Go.Code.opsOf : Code → Array Oper | .region _ o _ => o | _ => #[]
end
end Go.Pe
end
