/- A state as its shape tells it. -/
import Derived.Test.YtgghmllnhaahgaaPeOps6
namespace Go.Pe
open Go.RowKit
set_option linter.unusedSectionVars false
variable [GI]
set_option linter.unusedSimpArgs false
set_option linter.unusedVariables false

theorem fillR_length : ∀ (l : List (Option (List SAV))) (z : recsDen l), (fillR l z).length = l.length
  | [], _ => rfl
  | none :: r, z => by simp [fillR, fillR_length r z]
  | some l :: r, z => by simp [fillR, fillR_length r z.2]
theorem fillT_length : ∀ (l : List (Option Ty)) (z : lstsDen l), (fillT l z).length = l.length
  | [], _ => rfl
  | none :: r, z => by simp [fillT, fillT_length r z]
  | some l :: r, z => by simp [fillT, fillT_length r z.2]
theorem getL_nil {α : Type} (i : Nat) : getL ([] : List (Option α)) i = none := by simp [getL]
theorem getL_cons0 {α : Type} (x : Option α) (l : List (Option α)) : getL (x :: l) 0 = x := by cases x <;> rfl
theorem getL_consS {α : Type} (x : Option α) (l : List (Option α)) (i : Nat) : getL (x :: l) (i + 1) = getL l i := by simp [getL]
theorem getL_tail {α : Type} (l : List (Option α)) (i : Nat) : getL l.tail i = getL l (i + 1) := by
  cases l with
  | nil => simp [getL_nil]
  | cons x l => simp [getL_consS]

theorem absR_get {lsts keep nr} : ∀ {l : List (Option (List SAV))} {vs : List (Option (List AV))} {z : recsDen l}, absR lsts keep nr l vs = some z →
    (∀ r s, getL l r = some s → ∃ c x, getL vs r = some c ∧ absL lsts keep nr s c = some x ∧ getL (fillR l z) r = some (fillL s x) ∧ isMark c = false) ∧ (∀ r, getL l r = none → getL (fillR l z) r = none)
  | [], vs, z, _ => ⟨fun r s h => by simp [getL_nil] at h, fun r _ => by simp [fillR, getL_nil]⟩
  | none :: l, vs, z, h => by
    simp only [absR] at h
    obtain ⟨h1, h2⟩ := absR_get h
    refine ⟨fun r s hr => ?_, fun r hr => ?_⟩
    · cases r with
      | zero => simp [getL_cons0] at hr
      | succ r =>
        rw [getL_consS] at hr
        obtain ⟨c, x, e1, e2, e3, e4⟩ := h1 r s hr
        exact ⟨c, x, by rw [← getL_tail]; exact e1, e2, by simp only [fillR, getL_consS]; exact e3, e4⟩
    · cases r with
      | zero => simp [fillR, getL_cons0]
      | succ r => simp only [fillR, getL_consS] at hr ⊢; exact h2 r hr
  | some s0 :: l, [], z, h => by simp [absR] at h
  | some s0 :: l, none :: vs, z, h => by simp [absR] at h
  | some s0 :: l, some c0 :: vs, z, h => by
    simp only [absR] at h
    split at h
    · cases h
    rename_i hmk
    simp only [Option.bind_eq_some_iff, Option.some.injEq] at h
    obtain ⟨x, hx, y, hy, rfl⟩ := h
    obtain ⟨h1, h2⟩ := absR_get hy
    refine ⟨fun r s hr => ?_, fun r hr => ?_⟩
    · cases r with
      | zero => rw [getL_cons0] at hr; cases hr; exact ⟨c0, x, rfl, hx, rfl, hmk⟩
      | succ r =>
        rw [getL_consS] at hr
        obtain ⟨c, x, e1, e2, e3, e4⟩ := h1 r s hr
        exact ⟨c, x, by rw [getL_consS]; exact e1, e2, by simp only [fillR, getL_consS]; exact e3, e4⟩
    · cases r with
      | zero => simp [getL_cons0] at hr
      | succ r => simp only [fillR, getL_consS] at hr ⊢; exact h2 r hr

theorem absT_get : ∀ {l : List (Option Ty)} {vs : List (Option LObj)} {z : lstsDen l}, absT l vs = some z →
    (∀ t e, getL l t = some e → ∃ xs : List e.den, getL (fillT l z) t = some ⟨e, xs⟩ ∧ (getL vs t = some ⟨e, xs⟩ ∨ (getL vs t = none ∧ xs = []))) ∧ (∀ t, getL l t = none → getL (fillT l z) t = none)
  | [], vs, z, _ => ⟨fun r s h => by simp [getL_nil] at h, fun r _ => by simp [fillT, getL_nil]⟩
  | none :: l, vs, z, h => by
    simp only [absT] at h
    obtain ⟨h1, h2⟩ := absT_get h
    refine ⟨fun r s hr => ?_, fun r hr => ?_⟩
    · cases r with
      | zero => simp [getL_cons0] at hr
      | succ r =>
        rw [getL_consS] at hr
        obtain ⟨xs, e1, e2⟩ := h1 r s hr
        rw [getL_tail] at e2
        exact ⟨xs, by simp only [fillT, getL_consS]; exact e1, e2⟩
    · cases r with
      | zero => simp [fillT, getL_cons0]
      | succ r => simp only [fillT, getL_consS] at hr ⊢; exact h2 r hr
  | some t0 :: l, vs, z, h => by
    simp only [absT, Option.bind_eq_some_iff, Option.some.injEq] at h
    obtain ⟨x, hx, y, hy, rfl⟩ := h
    obtain ⟨h1, h2⟩ := absT_get hy
    refine ⟨fun r s hr => ?_, fun r hr => ?_⟩
    · cases r with
      | zero =>
        rw [getL_cons0] at hr; cases hr
        refine ⟨x, rfl, ?_⟩
        split at hx
        · rename_i o ho
          split at hx
          · rename_i e
            obtain ⟨e0, xs0⟩ := o
            cases e
            simp only [Option.some.injEq] at hx; subst hx
            left
            cases vs with
            | nil => cases ho
            | cons v vs => simp at ho; subst ho; rfl
          · cases hx
        · rename_i hno
          simp only [Option.some.injEq] at hx; subst hx
          right
          refine ⟨?_, rfl⟩
          cases vs with
          | nil => simp [getL_nil]
          | cons v vs =>
            cases v with
            | none => rfl
            | some o => exact absurd rfl (hno o)
      | succ r =>
        rw [getL_consS] at hr
        obtain ⟨xs, e1, e2⟩ := h1 r s hr
        rw [getL_tail] at e2
        exact ⟨xs, by simp only [fillT, getL_consS]; exact e1, e2⟩
    · cases r with
      | zero => simp [getL_cons0] at hr
      | succ r => simp only [fillT, getL_consS] at hr ⊢; exact h2 r hr

section
variable {A0 : Dom} {w0 w : World} {st : St} {tmps : Array Value} {μ : Mu}

def Mu.keep (μ : Mu) (sh : Shape) : Mu := { μ with at_ := fun x => match x with | .r r => if (getL sh.recs r).isSome then μ.at_ (.r r) else none | .l t => (if (getL sh.lsts t).isSome then μ.at_ (.l t) else none) | .n k => μ.at_ (.n k), dp := μ.dp.map fun d => ⟨none, d.cap, d.fs⟩ }
theorem keep_some {sh : Shape} {x : Loc} {b : Nat} (h : (μ.keep sh).at_ x = some b) : μ.at_ x = some b := by
  cases x with
  | n k => exact h
  | r r => simp only [Mu.keep] at h; split at h <;> first | exact h | cases h
  | l t => simp only [Mu.keep] at h; split at h <;> first | exact h | cases h
theorem imm_keep {sh : Shape} {b : Nat} (h : Imm A0 w0 μ w b) : Imm A0 w0 (μ.keep sh) w b := ⟨h.1, h.2.1, fun x hx => h.2.2 x (keep_some hx)⟩


mutual
theorem absA_rep (hs : Sim A0 w0 st tmps w μ) {sh : Shape} {z : sh.den} (hR : absR st.lsts sh.lsts sh.recs.length sh.recs st.recs = some z.2.1) (hT : absT sh.lsts st.lsts = some z.2.2) : ∀ {s : SAV} {v : AV} {x : s.den} {val : Value}, absA st.lsts sh.lsts sh.recs.length s v = some x → RepAV (cx A0 w0 st.recs st.lsts w μ) v val →
    RepAV (cx A0 w0 (fillR sh.recs z.2.1) (fillT sh.lsts z.2.2) w (μ.keep sh)) (fillA s x) val
  | .dead, v, x, val, h, hr => by simp only [fillA, RepAV]
  | .stk, v, x, val, h, hr => by
    simp only [absA] at h
    split at h
    · cases h
      simp only [fillA, RepAV, RepSX, cx] at hr ⊢
      obtain ⟨cap, h1, h2, h3⟩ := hr
      exact ⟨cap, by simp [Mu.keep, h1], h2, h3⟩
    · cases h
  | .same, v, x, val, h, hr => by
    simp only [absA] at h
    split at h
    · simp only [fillA, RepAV, RepSX, cx] at hr ⊢; exact hr
    · cases h
  | .hole t, v, x, val, h, hr => by
    have hm := hs.mem
    simp only [absA] at h
    split at h
    · rename_i hc
      simp only [Bool.and_eq_true] at hc
      have hcommon : (∀ j, v ≠ .whole j) → RepAV (cx A0 w0 (fillR sh.recs z.2.1) (fillT sh.lsts z.2.2) w (μ.keep sh)) (fillA (.hole t) x) val := by
        intro hnw
        have h' : asTy [] t v = some x := by
          cases v <;> simp only [asTy] at h ⊢ <;> first | exact h | skip
          exact absurd rfl (hnw _)
        have := asTy_rep (c := cx A0 w0 st.recs st.lsts w μ) (A' := Imm A0 w0 (μ.keep sh) w) (lsts := []) (fun b hb => imm_keep hb) (fun t o v h => no_lists t o v h) h' hr
        simp only [fillA, RepAV]; exact this
      cases v with
      | whole j =>
        simp only [asTy] at h
        split at h
        · rename_i o ho
          split at h
          · rename_i e
            simp only [RepAV] at hr
            subst e
            simp only [Option.some.injEq] at h; subst h
            have hshut : getL sh.lsts j = none := by simpa [shut] using hc.2
            simp only [fillA, RepAV]
            exact whole_rep (hm.hlst j o ho) (hr.2.2 o ho) (fun b hb => imm_keep hb) fun b hb => by
              obtain ⟨h1, h2, _⟩ := hm.live _ _ hb
              refine ⟨hm.own_ok hb, h2, fun y hy => ?_⟩
              have := hm.inj _ _ _ (keep_some hy) hb
              subst this
              simp [Mu.keep, hshut] at hy
          · cases h
        · cases h
      | _ => exact hcommon (by simp)
    · cases h
  | .ptr r off, v, x, val, h, hr => by
    simp only [absA] at h
    split at h
    · split at h
      · rename_i hc
        obtain ⟨rfl, rfl, hlt⟩ := hc
        simp only [fillA, RepAV, cx] at hr ⊢
        refine ⟨by rw [fillR_length]; exact hlt, hr.2.1, fun hl => ?_⟩
        cases hsr : getL sh.recs r with
        | none => rw [(absR_get hR).2 r hsr] at hl; simp at hl
        | some sl =>
          obtain ⟨c, x, e1, _, _⟩ := (absR_get hR).1 r sl hsr
          obtain ⟨b, hb, hv⟩ := hr.2.2 (by rw [e1]; rfl)
          exact ⟨b, by simp [Mu.keep, hsr, hb], hv⟩
      · cases h
    · cases h
  | .bld r, v, x, val, h, hr => by
    simp only [absA] at h
    split at h
    · split at h
      · rename_i hc
        obtain ⟨rfl, hlt⟩ := hc
        simp only [fillA, RepAV, cx] at hr ⊢
        refine ⟨by rw [fillR_length]; exact hlt, hr.2.1, fun hl => ?_⟩
        cases hsr : getL sh.recs r with
        | none => rw [(absR_get hR).2 r hsr] at hl; simp at hl
        | some sl =>
          obtain ⟨c, x, e1, _, _⟩ := (absR_get hR).1 r sl hsr
          obtain ⟨b, hb, hv⟩ := hr.2.2 (by rw [e1]; rfl)
          exact ⟨b, by simp [Mu.keep, hsr, hb], hv⟩
      · cases h
    · cases h
  | .whole t, v, x, val, h, hr => by
    have hm := hs.mem
    simp only [absA] at h
    split at h
    · split at h
      · rename_i hc
        obtain ⟨rfl, hlive, hkeep⟩ := hc
        obtain ⟨e, he⟩ := Option.isSome_iff_exists.1 hkeep
        obtain ⟨xs, g1, g2⟩ := (absT_get hT).1 t e he
        simp only [fillA, RepAV, cx] at hr ⊢
        refine ⟨by rw [fillT_length]; exact getL_lt he, hr.2.1, fun o ho => ?_⟩
        rw [g1] at ho; cases ho
        rcases g2 with g2 | ⟨g2, _⟩
        · have := hr.2.2 _ g2
          unfold WholeAt at this ⊢
          simpa [Mu.keep, he] using this
        · rw [g2] at hlive; simp at hlive
      · cases h
    · split at h
      · rename_i hc
        obtain ⟨hdead, hkeep⟩ := hc
        obtain ⟨e, he⟩ := Option.isSome_iff_exists.1 hkeep
        obtain ⟨xs, g1, g2⟩ := (absT_get hT).1 t e he
        simp only [fillA, RepAV, cx] at hr ⊢
        subst hr
        refine ⟨by rw [fillT_length]; exact getL_lt he, rfl, fun o ho => ?_⟩
        refine .inl ⟨?_, rfl⟩
        simp only [Mu.keep, he, Option.isSome_some, if_true]
        cases hat : μ.at_ (.l t) with
        | none => rfl
        | some b =>
          have := (hm.live _ _ hat).2.2
          simp only at this
          rw [Option.isNone_iff_eq_none] at hdead
          rw [hdead] at this; simp at this
      · cases h
    · cases h
  | .eptr t off, v, x, val, h, hr => by
    simp only [absA] at h
    split at h
    · split at h
      · rename_i hc
        obtain ⟨rfl, rfl, hlive, hkeep⟩ := hc
        cases h
        obtain ⟨e, he⟩ := Option.isSome_iff_exists.1 hkeep
        obtain ⟨xs, g1, g2⟩ := (absT_get hT).1 t e he
        simp only [fillA, RepAV, cx] at hr ⊢
        refine ⟨by rw [fillT_length]; exact getL_lt he, hr.2.1, fun o ho => ?_⟩
        rw [g1] at ho; cases ho
        rcases g2 with g2 | ⟨g2, _⟩
        · obtain ⟨b, hb, hv⟩ := hr.2.2 _ g2
          exact ⟨b, by simp [Mu.keep, he, hb], hv⟩
        · rw [g2] at hlive; simp at hlive
      · cases h
    · cases h
  | .nilP, v, x, val, h, hr => by
    simp only [absA] at h
    split at h
    · simpa only [fillA, RepAV] using hr
    · cases h
  | .nilS, v, x, val, h, hr => by
    simp only [absA] at h
    split at h
    · simpa only [fillA, RepAV] using hr
    · cases h
  | .agg l, v, x, val, h, hr => by
    simp only [absA] at h
    split at h
    · simp only [fillA, RepAV] at hr ⊢
      obtain ⟨us, e, hu⟩ := hr
      exact ⟨us, e, absL_rep hs hR hT h hu⟩
    · cases h
  | .ifc q l, v, x, val, h, hr => by
    simp only [absA] at h
    split at h
    · split at h
      · rename_i hq
        obtain rfl := Nat.eq_of_beq_eq_true hq
        simp only [fillA, RepAV] at hr ⊢
        obtain ⟨us, e, hu⟩ := hr
        exact ⟨us, e, absL_rep hs hR hT h hu⟩
      · cases h
    · cases h
  | .fn f a b, v, x, val, h, hr => by
    simp only [absA] at h
    split at h
    · split at h
      · rename_i hf
        have hf := fnEq_eq hf
        subst hf
        simp only [Option.bind_eq_some_iff, Option.some.injEq] at h
        obtain ⟨x1, h1, x2, h2, rfl⟩ := h
        simp only [fillA, RepAV] at hr ⊢
        obtain ⟨a', b', e, g1, g2⟩ := hr
        exact ⟨a', b', e, absL_rep hs hR hT h1 g1, absL_rep hs hR hT h2 g2⟩
      · cases h
    · cases h
theorem absL_rep (hs : Sim A0 w0 st tmps w μ) {sh : Shape} {z : sh.den} (hR : absR st.lsts sh.lsts sh.recs.length sh.recs st.recs = some z.2.1) (hT : absT sh.lsts st.lsts = some z.2.2) : ∀ {l : List SAV} {vs : List AV} {x : SAVs.den l} {vals : List Value}, absL st.lsts sh.lsts sh.recs.length l vs = some x → RepAVs (cx A0 w0 st.recs st.lsts w μ) vs vals →
    RepAVs (cx A0 w0 (fillR sh.recs z.2.1) (fillT sh.lsts z.2.2) w (μ.keep sh)) (fillL l x) vals
  | [], [], _, _, _, hr => by simpa only [fillL, RepAVs] using hr
  | [], _ :: _, _, _, h, _ => by simp [absL] at h
  | _ :: _, [], _, _, h, _ => by simp [absL] at h
  | s :: l, v :: vs, x, vals, h, hr => by
    simp only [absL, Option.bind_eq_some_iff, Option.some.injEq] at h
    obtain ⟨y, hy, ys, hys, rfl⟩ := h
    obtain ⟨val, rest, rfl, h1, h2⟩ := hr.cons'
    simp only [fillL]
    exact RepAVs.cons (absA_rep hs hR hT hy h1) (absL_rep hs hR hT hys h2)
end
end

theorem fillA_bld {s : SAV} {z : s.den} {r : Nat} (h : fillA s z = .bld r) : s = .bld r := by
  cases s <;> simp only [fillA] at h <;> first | (cases h; done) | (cases h; rfl)
theorem absL_bld {lsts keep nr} {s : List SAV} {c : List AV} {x} (h : absL lsts keep nr s c = some x) (hb : isBld (fillL s x) = true) : isBld c = true := by
  obtain ⟨r, l', e⟩ := isBld_some hb
  cases s with
  | nil => simp [fillL] at e
  | cons s0 s =>
    cases c with
    | nil => simp [absL] at h
    | cons v vs =>
      simp only [absL, Option.bind_eq_some_iff, Option.some.injEq] at h
      obtain ⟨y, hy, ys, hys, rfl⟩ := h
      simp only [fillL, List.cons.injEq] at e
      have h1 := fillA_bld e.1
      subst h1
      simp only [absA] at hy
      split at hy
      · rfl
      · cases hy

theorem fillL_nomark : ∀ (l : List SAV) (z : SAVs.den l) (c : List AV), fillL l z ≠ .sx .mark :: c
  | [], _, _ => by simp [fillL]
  | s :: l, z, c => by
    simp only [fillL]
    intro e
    simp only [List.cons.injEq] at e
    have := e.1
    cases s <;> simp [fillA] at this
theorem abs_sound {A0 w0 w st} {tmps : Array Value} {μ} (hs : Sim A0 w0 st tmps w μ) {sh : Shape} {z : sh.den} (hnp : A0.np ≤ sh.recs.length) (h : abs sh st = some z) : Sim A0 w0 (fill sh z) tmps w (μ.keep sh) := by
  unfold abs at h
  simp only [Option.bind_eq_some_iff, Option.some.injEq] at h
  obtain ⟨x, hx, y, hR, t, hT, rfl⟩ := h
  have hm := hs.mem
  have hR' : absR st.lsts sh.lsts sh.recs.length sh.recs st.recs = some ((x, y, t) : sh.den).2.1 := hR
  have hT' : absT sh.lsts st.lsts = some ((x, y, t) : sh.den).2.2 := hT
  refine ⟨absL_rep hs hR' hT' hx hs.slots, ?_⟩
  have hlist : ∀ t0 o, getL (fillT sh.lsts t) t0 = some o → ∃ e, getL sh.lsts t0 = some e ∧ (getL st.lsts t0 = some o ∨ (getL st.lsts t0 = none ∧ o.xs = [])) := by
    intro t0 o ho
    cases he : getL sh.lsts t0 with
    | none => rw [(absT_get hT).2 t0 he] at ho; cases ho
    | some e =>
      obtain ⟨xs, g1, g2⟩ := (absT_get hT).1 t0 e he
      rw [g1] at ho; cases ho
      exact ⟨e, rfl, g2⟩
  constructor
  · intro r cells hr _
    simp only [fill] at hr
    cases hsr : getL sh.recs r with
    | none => rw [(absR_get hR).2 r hsr] at hr; cases hr
    | some sl =>
      obtain ⟨c, x', e1, e2, e3, emk⟩ := (absR_get hR).1 r sl hsr
      rw [e3] at hr; cases hr
      obtain ⟨b, vs, hb, ho, hv⟩ := hm.hrec r c e1 emk
      exact ⟨b, vs, by simp [Mu.keep, hsr, hb], ho, absL_rep hs hR' hT' e2 hv⟩
  · intro t0 o ho
    simp only [fill] at ho
    obtain ⟨e, he, g⟩ := hlist t0 o ho
    have hdead : getL st.lsts t0 = none → (μ.keep sh).at_ (.l t0) = none := by
      intro g2
      cases hat : (μ.keep sh).at_ (.l t0) with
      | none => rfl
      | some b =>
        have := (hm.live _ _ (keep_some hat)).2.2
        simp only at this
        rw [g2] at this; simp at this
    rcases g with g | ⟨g1, g2⟩
    · rcases hm.hlst t0 o g with ⟨h1, h2⟩ | ⟨b, vs, hb, ho', hsz, hcap, us, rest, e1, hr⟩
      · exact .inl ⟨by simp only [cx, Mu.keep, he, Option.isSome_some, if_true]; exact h1, h2⟩
      · exact .inr ⟨b, vs, by simp only [cx, Mu.keep, he, Option.isSome_some, if_true]; exact hb, ho', hsz, hcap, us, rest, e1, hr.imp fun x u hx => hx.mono (fun b hb => imm_keep hb) fun _ _ => rfl⟩
    · exact .inl ⟨hdead g1, g2⟩
  · intro l b hb
    obtain ⟨h1, h2, h3⟩ := hm.live l b (keep_some hb)
    refine ⟨h1, h2, ?_⟩
    cases l with
    | r r =>
      simp only [fill]
      cases hsr : getL sh.recs r with
      | none => simp [Mu.keep, hsr] at hb
      | some sl => obtain ⟨c, x', e1, e2, e3, emk⟩ := (absR_get hR).1 r sl hsr; rw [e3]; rfl
    | n k => simp only [Mu.keep]; simpa using h3
    | l t0 =>
      simp only [fill]
      cases hst : getL sh.lsts t0 with
      | none => simp [Mu.keep, hst] at hb
      | some e => obtain ⟨xs, g1, g2⟩ := (absT_get hT).1 t0 e hst; rw [g1]; rfl
  · intro l l' b h1 h2; exact hm.inj _ _ _ (keep_some h1) (keep_some h2)
  · exact hm.below
  · intro b hb
    obtain ⟨h1, h2, h3⟩ := hm.fr b hb
    exact ⟨h1, h2, fun x hx => h3 x (keep_some hx)⟩
  · intro b hb
    obtain ⟨h1, h3⟩ := hm.xo b hb
    exact ⟨h1, fun x hx => h3 x (keep_some hx)⟩
  · simp only [fill]; rw [fillR_length]; exact hnp
  · intro r b hb
    obtain ⟨h1, h2⟩ := hm.pins r b hb
    refine ⟨h1, fun hsome => ?_⟩
    simp only [fill] at hsome
    cases hsr : getL sh.recs r with
    | none => rw [(absR_get hR).2 r hsr] at hsome; simp at hsome
    | some sl =>
      obtain ⟨c, x', e1, _, _⟩ := (absR_get hR).1 r sl hsr
      simp only [Mu.keep, hsr, Option.isSome_some, if_true]
      exact h2 (by rw [e1]; rfl)
  · exact hm.gi
  · constructor
    · intro r cells hr hbl b hb
      simp only [fill] at hr
      cases hsr : getL sh.recs r with
      | none => rw [(absR_get hR).2 r hsr] at hr; cases hr
      | some sl =>
        obtain ⟨c, x', e1, e2, e3, emk⟩ := (absR_get hR).1 r sl hsr
        rw [e3] at hr; cases hr
        exact hm.bty.r r c e1 (absL_bld e2 hbl) b (keep_some hb)
    · intro t0 o ho he8 b hb
      simp only [fill] at ho
      obtain ⟨e, he, g⟩ := hlist t0 o ho
      rcases g with g | ⟨g1, _⟩
      · exact hm.bty.l t0 o g he8 b (keep_some hb)
      · have := (hm.live _ _ (keep_some hb)).2.2
        simp only at this
        rw [g1] at this; simp at this
  · intro r cells hr
    simp only [fill] at hr
    cases hsr : getL sh.recs r with
    | none => rw [(absR_get hR).2 r hsr] at hr; cases hr
    | some sl =>
      obtain ⟨c, x', e1, e2, e3, emk⟩ := (absR_get hR).1 r sl hsr
      rw [e3] at hr
      exact absurd (Option.some.inj hr) (fillL_nomark _ _ _)
  · intro d hd
    simp only [Mu.keep, Option.map_eq_some_iff] at hd
    obtain ⟨d0, hd0, rfl⟩ := hd
    have hdeep := hm.deep d0 hd0
    have h1 : (cx A0 w0 st.recs st.lsts w μ).Deep1 (cx A0 w0 (fill sh (x, y, t)).recs (fill sh (x, y, t)).lsts w (μ.keep sh)) := ⟨fun b hb => imm_keep hb, fun _ _ => rfl, fun _ _ => rfl, fun _ _ _ _ => rfl⟩
    refine ⟨fun r hr => (by cases hr), hdeep.lim, ?_⟩
    rcases hdeep.row with ⟨h2, h3, h4⟩ | ⟨b, vs, pre, rest, h2, h3, h4, h5, h6, h7⟩
    · exact .inl ⟨h2, h3, rfl⟩
    · exact .inr ⟨b, vs, pre, rest, h2, h3, h4, by simp; omega, h6, h7.mono h1⟩
end Go.Pe
