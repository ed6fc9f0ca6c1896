/- Own memory, handed on to a function and back: what is told of it. -/
import Derived.Test.YtgghmllnhaahgaaDoorPeAbs
namespace Go.Pe
open Go.RowKit
set_option linter.unusedSectionVars false
variable [GI]
set_option linter.unusedSimpArgs false
set_option linter.unusedVariables false

theorem idx_some {n : Nat} : ∀ {l : List Nat} {i : Nat}, idx n l = some i → l[i]? = some n
  | [], _, h => by simp [idx] at h
  | m :: l, i, h => by
    simp only [idx] at h
    split at h
    · rename_i e; cases h; simp [Nat.eq_of_beq_eq_true e]
    · rw [Option.map_eq_some_iff] at h
      obtain ⟨j, hj, rfl⟩ := h
      simpa using idx_some hj
theorem idx_of {n : Nat} : ∀ {l : List Nat} {i : Nat}, nodupB l = true → l[i]? = some n → idx n l = some i
  | [], i, _, h => by simp at h
  | m :: l, 0, hn, h => by
    simp only [List.getElem?_cons_zero, Option.some.injEq] at h
    subst h; simp [idx]
  | m :: l, i + 1, hn, h => by
    simp only [List.getElem?_cons_succ] at h
    simp only [nodupB, Bool.and_eq_true] at hn
    have ih := idx_of hn.2 h
    simp only [idx]
    split
    · rename_i e
      have e := Nat.eq_of_beq_eq_true e
      subst e
      rw [ih] at hn; simp at hn
    · rw [ih]; rfl
theorem getL_some {α : Type} {l : List (Option α)} {i : Nat} {x : α} : getL l i = some x ↔ l[i]? = some (some x) := by
  unfold getL
  split
  · rename_i y h; simp [h]
  · rename_i h
    constructor
    · intro e; cases e
    · intro e; exact absurd e (h x)
theorem getL_mapN {α β : Type} {f : α → Option β} (l : List α) (i : Nat) : getL (l.map f) i = (l[i]?).bind f := by
  unfold getL
  rw [List.getElem?_map]
  cases h : l[i]? with
  | none => rfl
  | some a =>
    simp only [Option.map_some, Option.bind_some]
    cases h2 : f a <;> rfl
theorem getL_range {β : Type} {f : Nat → Option β} (n i : Nat) : getL ((List.range n).map f) i = if i < n then f i else none := by
  rw [getL_mapN]
  split
  · rename_i h; simp [h]
  · rename_i h; simp [h]
theorem allSome_get {α : Type} {l : List (Option α)} : ∀ {ρ : List Nat} {i r : Nat}, allSome l ρ = true → ρ[i]? = some r → (getL l r).isSome = true
  | [], _, _, _, h => by simp at h
  | m :: ρ, 0, r, ha, h => by
    simp only [List.getElem?_cons_zero, Option.some.injEq] at h
    simp only [allSome, Bool.and_eq_true] at ha
    subst h; exact ha.1
  | m :: ρ, i + 1, r, ha, h => by
    simp only [allSome, Bool.and_eq_true] at ha
    exact allSome_get ha.2 (by simpa using h)
theorem allLt_get {n : Nat} : ∀ {ρ : List Nat} {i r : Nat}, allLt n ρ = true → ρ[i]? = some r → r < n
  | [], _, _, _, h => by simp at h
  | m :: ρ, 0, r, ha, h => by
    simp only [List.getElem?_cons_zero, Option.some.injEq] at h
    simp only [allLt, Bool.and_eq_true] at ha
    subst h; simpa [Nat.blt_eq] using ha.1
  | m :: ρ, i + 1, r, ha, h => by
    simp only [allLt, Bool.and_eq_true] at ha
    exact allLt_get ha.2 (by simpa using h)

theorem src_back {ρ : List Nat} {n i : Nat} (hd : nodupB ρ = true) (hlt : ∀ j r : Nat, ρ[j]? = some r → r < n) : srcN ρ n (backN ρ n i) = some i := by
  unfold backN
  split
  · rename_i r h
    unfold srcN; rw [idx_of hd h]
  · rename_i h
    have hi : ρ.length ≤ i := by simpa using h
    unfold srcN
    split
    · rename_i j hj
      have := hlt j _ (idx_some hj)
      omega
    · split
      · rename_i hb
        have : n + (i - ρ.length) < n := by simpa [Nat.blt_eq] using hb
        omega
      · congr 1; omega
theorem back_src {ρ : List Nat} {n i j : Nat} (h : srcN ρ n j = some i) : backN ρ n i = j := by
  unfold srcN at h
  split at h
  · rename_i i' hi; cases h
    unfold backN; rw [idx_some hi]
  · split at h
    · cases h
    · rename_i hi hb
      cases h
      have hb : ¬ j < n := by intro e; rw [show Nat.blt j n = true by simpa [Nat.blt_eq] using e] at hb; cases hb
      unfold backN
      rw [List.getElem?_eq_none (by omega)]
      dsimp only; omega
theorem src_none {ρ : List Nat} {n j : Nat} (h : srcN ρ n j = none) : j < n ∧ idx j ρ = none := by
  unfold srcN at h
  split at h
  · cases h
  · rename_i hi
    split at h
    · rename_i hb; exact ⟨by simpa [Nat.blt_eq] using hb, hi⟩
    · cases h
theorem src_old {ρ : List Nat} {n j : Nat} (h1 : j < n) (h2 : idx j ρ = none) : srcN ρ n j = none := by
  unfold srcN; rw [h2]; dsimp only
  rw [show Nat.blt j n = true by simpa [Nat.blt_eq] using h1]
theorem back_lt {ρ : List Nat} {n i k : Nat} (hlt : ∀ j r : Nat, ρ[j]? = some r → r < n) (hi : i < k) : backN ρ n i < n + (k - ρ.length) := by
  unfold backN
  split
  · rename_i r h; have := hlt _ _ h; omega
  · rename_i h
    have : ρ.length ≤ i := by simpa using h
    omega

section
variable {P : Program} {A0 : Dom} {w0 w : World} {st : St} {μ : Mu}

/-- What is not handed on. -/
def old (ρ lm : List Nat) : Loc → Prop
  | .r r => idx r ρ = none
  | .l t => idx t lm = none
def Dom.hand (A0 : Dom) (w0 : World) (μ : Mu) (w : World) (ρ lm : List Nat) : Dom where
  A := A0.A
  F b := A0.F b ∨ Imm A0 w0 μ w b ∨ ∃ x, old ρ lm x ∧ μ.at_ x = some b
  X b := A0.X b ∨ ∃ x, old ρ lm x ∧ μ.at_ x = some b
  wF := w
  pin i := (ρ[i]?).bind fun r => μ.at_ (.r r)
  np := ρ.length
def Mu.hand (μ : Mu) (ρ lm : List Nat) : Mu where
  at_ := fun x => match x with
    | .r i => (ρ[i]?).bind fun r => μ.at_ (.r r)
    | .l i => (lm[i]?).bind fun t => μ.at_ (.l t)
  cap i := match lm[i]? with | some t => μ.cap t | none => 0

def PairN (ρ lm : List Nat) : Loc → Loc → Prop
  | .r i, .r r => ρ[i]? = some r
  | .l i, .l t => lm[i]? = some t
  | _, _ => False
theorem hand_src {ρ lm : List Nat} (h1 : nodupB ρ = true) (h2 : nodupB lm = true) {x : Loc} {b : Nat} (h : (μ.hand ρ lm).at_ x = some b) : ∃ y, μ.at_ y = some b ∧ ¬ old ρ lm y ∧ PairN ρ lm x y := by
  cases x with
  | r i =>
    simp only [Mu.hand, Option.bind_eq_some_iff] at h
    obtain ⟨r, h3, h4⟩ := h
    exact ⟨.r r, h4, by simp [old, idx_of h1 h3], h3⟩
  | l i =>
    simp only [Mu.hand, Option.bind_eq_some_iff] at h
    obtain ⟨r, h3, h4⟩ := h
    exact ⟨.l r, h4, by simp [old, idx_of h2 h3], h3⟩

theorem ren_bld {fr fl : Nat → Option Nat} {x : AV} {r : Nat} (h : x.ren fr fl = .bld r) : ∃ r', x = .bld r' := by
  cases x <;> simp only [AV.ren] at h <;> first | exact ⟨_, rfl⟩ | (cases h; done) | (split at h <;> cases h)
theorem renL_bld {fr fl : Nat → Option Nat} : ∀ {l : List AV}, isBld (renL fr fl l) = true → isBld l = true
  | [], h => by simp [renL, isBld] at h
  | x :: l, h => by
    obtain ⟨r, l', e⟩ := isBld_some h
    simp only [renL, List.cons.injEq] at e
    obtain ⟨r', rfl⟩ := ren_bld e.1
    rfl

theorem view_sim {tmps : Array Value} (hs : Sim A0 w0 st tmps w μ) {args : List AV} {vs : List Value} (hargs : RepAVs (cx A0 w0 st.recs st.lsts w μ) args vs) {ρ lm : List Nat} (hρ : nodupB ρ = true) (hlm : nodupB lm = true) :
    Sim (A0.hand w0 μ w ρ lm) w0 (view st ρ lm args) vs.toArray w (μ.hand ρ lm) := by
  have hm := hs.mem
  have hsrc : ∀ {x b}, (μ.hand ρ lm).at_ x = some b → ∃ y, μ.at_ y = some b ∧ ¬ old ρ lm y ∧ PairN ρ lm x y := hand_src hρ hlm
  have hA : ∀ b, Imm A0 w0 μ w b → Imm (A0.hand w0 μ w ρ lm) w0 (μ.hand ρ lm) w b := fun b hb =>
    ⟨⟨hb.1.1, fun hx => hx.elim hb.1.2 fun ⟨x, _, hx⟩ => hb.2.2 x hx⟩, hb.2.1, fun x hx => by obtain ⟨y, hy, _⟩ := hsrc hx; exact hb.2.2 y hy⟩
  have hrec : ∀ {i c}, getL (view st ρ lm args).recs i = some c → ∃ r c0, ρ[i]? = some r ∧ getL st.recs r = some c0 ∧ c = viewR ρ lm c0 := by
    intro i c h
    simp only [view] at h
    rw [getL_mapN, Option.bind_eq_some_iff] at h
    obtain ⟨r, h1, h2⟩ := h
    rw [Option.map_eq_some_iff] at h2
    obtain ⟨c0, h2, h3⟩ := h2
    exact ⟨r, c0, h1, h2, h3.symm⟩
  have hlst : ∀ {i o}, getL (view st ρ lm args).lsts i = some o → ∃ t, lm[i]? = some t ∧ getL st.lsts t = some o := by
    intro i o h
    simp only [view] at h
    rw [getL_mapN, Option.bind_eq_some_iff] at h
    exact h
  have hren : (cx A0 w0 st.recs st.lsts w μ).Ren (cx (A0.hand w0 μ w ρ lm) w0 (view st ρ lm args).recs (view st ρ lm args).lsts w (μ.hand ρ lm)) (fun r => idx r ρ) (fun t => idx t lm) := by
    refine ⟨hA, fun _ _ => rfl, fun r i hr hi => ?_, fun t i ht hi => ?_⟩
    · have hi' := idx_some hi
      refine ⟨by simp only [cx, view, List.length_map]; exact (List.getElem?_eq_some_iff.1 hi').1, fun hsome => ?_⟩
      obtain ⟨c, hc⟩ := Option.isSome_iff_exists.1 hsome
      obtain ⟨r', c0, h1, h2, _⟩ := hrec hc
      rw [hi'] at h1; cases h1
      exact ⟨by show (getL st.recs r).isSome = true; rw [h2]; rfl, by simp only [cx, Mu.hand, hi', Option.bind_some]⟩
    · have hi' := idx_some hi
      refine ⟨by simp only [cx, view, List.length_map]; exact (List.getElem?_eq_some_iff.1 hi').1, fun o' ho => ?_⟩
      obtain ⟨t', h1, h2⟩ := hlst ho
      rw [hi'] at h1; cases h1
      exact ⟨o', h2, rfl, rfl, by simp only [cx, Mu.hand, hi', Option.bind_some], by simp only [cx, Mu.hand, hi']⟩
  refine ⟨by simpa [view, viewR] using hargs.ren hren, ?_, ?_, ?_, ?_, hm.below, ?_, ?_, by simp [view, Dom.hand], ?_, hm.gi, ?_⟩
  · intro i cells h
    obtain ⟨r, c0, h1, h2, rfl⟩ := hrec h
    obtain ⟨b, vs', hb, ho, hv⟩ := hm.hrec r c0 h2
    exact ⟨b, vs', by simp only [Mu.hand, h1, Option.bind_some]; exact hb, ho, hv.ren hren⟩
  · intro i o h
    obtain ⟨t, h1, h2⟩ := hlst h
    rcases hm.hlst t o h2 with ⟨h3, h4⟩ | ⟨b, vs', hb, ho, hsz, hc, us, rest, e, hr⟩
    · exact .inl ⟨by simp only [cx, Mu.hand, h1, Option.bind_some]; exact h3, h4⟩
    · refine .inr ⟨b, vs', by simp only [cx, Mu.hand, h1, Option.bind_some]; exact hb, ho, by simp only [cx, Mu.hand, h1]; exact hsz, by simp only [cx, Mu.hand, h1]; exact hc, us, rest, e, hr.imp fun x u hx => hx.mono hA fun _ _ => rfl⟩
  · intro x b hx
    obtain ⟨y, hy, _, hxy⟩ := hsrc hx
    obtain ⟨h1, h2, h3⟩ := hm.live y b hy
    refine ⟨h1, h2, ?_⟩
    cases x <;> cases y <;> simp only [PairN] at hxy h3 ⊢
    · simp only [view]; rw [getL_mapN, hxy, Option.bind_some]; simpa using h3
    · simp only [view]; rw [getL_mapN, hxy, Option.bind_some]; exact h3
  · intro x y b hx hy
    obtain ⟨x', hx', _, hxx⟩ := hsrc hx
    obtain ⟨y', hy', _, hyy⟩ := hsrc hy
    have e := hm.inj _ _ _ hx' hy'
    subst e
    cases x <;> cases y <;> cases x' <;> simp only [PairN] at hxx hyy
    · have h1 := idx_of hρ hxx; have h2 := idx_of hρ hyy; rw [h1] at h2; cases h2; rfl
    · have h1 := idx_of hlm hxx; have h2 := idx_of hlm hyy; rw [h1] at h2; cases h2; rfl
  · intro b hb
    rcases hb with hb | hb | ⟨x, hx, hb⟩
    · obtain ⟨h1, h2, h3⟩ := hm.fr b hb
      exact ⟨h1, rfl, fun x hx => by obtain ⟨y, hy, _⟩ := hsrc hx; exact h3 y hy⟩
    · exact ⟨hb.2.1, rfl, fun x hx => by obtain ⟨y, hy, _⟩ := hsrc hx; exact hb.2.2 y hy⟩
    · refine ⟨(hm.live x b hb).2.1, rfl, fun y hy => ?_⟩
      obtain ⟨y', hy', hold, _⟩ := hsrc hy
      have := hm.inj _ _ _ hb hy'
      subst this; exact hold hx
  · intro b hb
    rcases hb with hb | ⟨x, hx, hb⟩
    · obtain ⟨h1, h3⟩ := hm.xo b hb
      exact ⟨h1, fun x hx => by obtain ⟨y, hy, _⟩ := hsrc hx; exact h3 y hy⟩
    · refine ⟨(hm.live x b hb).2.1, fun y hy => ?_⟩
      obtain ⟨y', hy', hold, _⟩ := hsrc hy
      have := hm.inj _ _ _ hb hy'
      subst this; exact hold hx
  · intro i b hb
    refine ⟨?_, fun _ => hb⟩
    simp only [Dom.hand, Option.bind_eq_some_iff] at hb
    obtain ⟨r, h1, _⟩ := hb
    exact (List.getElem?_eq_some_iff.1 h1).1
  · constructor
    · intro i cells h hbl b hb
      obtain ⟨r, c0, h1, h2, rfl⟩ := hrec h
      exact hm.bty.r r c0 h2 (renL_bld hbl) b (by simpa only [Mu.hand, h1, Option.bind_some] using hb)
    · intro i o h he8 b hb
      obtain ⟨t, h1, h2⟩ := hlst h
      exact hm.bty.l t o h2 he8 b (by simpa only [Mu.hand, h1, Option.bind_some] using hb)

/-- Where own memory lies behind the call. -/
def Mu.back (μ μ2 : Mu) (ρ lm : List Nat) (n nl : Nat) : Mu where
  at_ := fun x => match x with
    | .r j => (match srcN ρ n j with | some i => μ2.at_ (.r i) | none => μ.at_ (.r j))
    | .l j => (match srcN lm nl j with | some i => μ2.at_ (.l i) | none => μ.at_ (.l j))
  cap j := match srcN lm nl j with | some i => μ2.cap i | none => μ.cap j

theorem unview_sim {tmps us : Array Value} {w' : World} {S : St} {μ2 : Mu} {ρ lm : List Nat} (hs : Sim A0 w0 st tmps w μ) (hρ : nodupB ρ = true) (hlm : nodupB lm = true) (hall : allSome st.recs ρ = true) (hlt : allLt st.lsts.length lm = true)
    (h2 : Sim (A0.hand w0 μ w ρ lm) w0 S us w' μ2) :
    ∃ μ3, Sim A0 w0 (unview st ρ lm S) tmps w' μ3 ∧ RepAVs (cx A0 w0 (unview st ρ lm S).recs (unview st ρ lm S).lsts w' μ3) (unvals st ρ lm S) us.toList := by
  have hm := hs.mem
  have hm2 := h2.mem
  have hltr : ∀ j r, ρ[j]? = some r → r < st.recs.length := fun j r h => by
    obtain ⟨c, hc⟩ := Option.isSome_iff_exists.1 (allSome_get hall h); exact getL_lt hc
  have hltl : ∀ j t, lm[j]? = some t → t < st.lsts.length := fun j t h => allLt_get hlt h
  let μ3 := μ.back μ2 ρ lm st.recs.length st.lsts.length
  -- a place behind the call comes from the function's or from what was not handed on
  have hsrc : ∀ {x b}, μ3.at_ x = some b → (∃ i, μ2.at_ i = some b ∧ (match x, i with | .r j, .r i => srcN ρ st.recs.length j = some i | .l j, .l i => srcN lm st.lsts.length j = some i | _, _ => False)) ∨
      (μ.at_ x = some b ∧ old ρ lm x ∧ (match x with | .r j => srcN ρ st.recs.length j = none | .l j => srcN lm st.lsts.length j = none)) := by
    intro x b h
    cases x with
    | r j =>
      simp only [μ3, Mu.back] at h
      split at h
      · rename_i i hi; exact .inl ⟨.r i, h, hi⟩
      · rename_i hi; exact .inr ⟨h, (src_none hi).2, hi⟩
    | l j =>
      simp only [μ3, Mu.back] at h
      split at h
      · rename_i i hi; exact .inl ⟨.l i, h, hi⟩
      · rename_i hi; exact .inr ⟨h, (src_none hi).2, hi⟩
  have hF : ∀ b, (A0.hand w0 μ w ρ lm).F b → b < w'.heap.size ∧ w'.heap[b]? = w.heap[b]? ∧ ∀ x, μ2.at_ x ≠ some b := fun b hb => hm2.fr b hb
  have hFold : ∀ {x b}, old ρ lm x → μ.at_ x = some b → (A0.hand w0 μ w ρ lm).F b := fun hx hb => .inr (.inr ⟨_, hx, hb⟩)
  have hA : ∀ b, Imm A0 w0 μ w b → Imm A0 w0 μ3 w' b := fun b hb => by
    have hf := hF b (.inr (.inl hb))
    refine ⟨hb.1, hf.1, fun x hx => ?_⟩
    rcases hsrc hx with ⟨i, hi, _⟩ | ⟨hx, _⟩
    · exact hf.2.2 i hi
    · exact hb.2.2 x hx
  have hA2 : ∀ b, Imm (A0.hand w0 μ w ρ lm) w0 μ2 w' b → Imm A0 w0 μ3 w' b := fun b hb => by
    refine ⟨⟨hb.1.1, fun hx => hb.1.2 (.inl hx)⟩, hb.2.1, fun x hx => ?_⟩
    rcases hsrc hx with ⟨i, hi, _⟩ | ⟨hx, hold, _⟩
    · exact hb.2.2 i hi
    · exact hb.1.2 (.inr ⟨x, hold, hx⟩)
  have hgr : ∀ j, getL (unview st ρ lm S).recs j = if j < st.recs.length + (S.recs.length - ρ.length) then newRecs st ρ lm S j else none := fun j => by simp only [unview]; rw [getL_range]
  have hgl : ∀ j, getL (unview st ρ lm S).lsts j = if j < st.lsts.length + (S.lsts.length - lm.length) then newLsts st lm S j else none := fun j => by simp only [unview]; rw [getL_range]
  have hren : (cx A0 w0 st.recs st.lsts w μ).Ren (cx A0 w0 (unview st ρ lm S).recs (unview st ρ lm S).lsts w' μ3) some (unL lm) := by
    refine ⟨hA, fun b hb => (hF b (.inr (.inl hb))).2.1, fun r r' hr hi => ?_, fun t t' ht hi => ?_⟩
    · cases hi
      have hr' : r < st.recs.length := hr
      refine ⟨by simp only [cx, unview, List.length_map, List.length_range]; omega, fun hsome => ?_⟩
      simp only [cx] at hsome ⊢
      rw [hgr, if_pos (by omega)] at hsome
      unfold newRecs at hsome
      cases hsr : srcN ρ st.recs.length r with
      | some i =>
        rw [hsr] at hsome
        have hρi : ρ[i]? = some r := by
          unfold srcN at hsr
          split at hsr
          · rename_i i' hi'; cases hsr; exact idx_some hi'
          · split at hsr
            · cases hsr
            · rename_i hb; rw [show Nat.blt r st.recs.length = true by simpa [Nat.blt_eq] using hr'] at hb; cases hb
        have hlive := allSome_get hall hρi
        obtain ⟨c, hc⟩ := Option.isSome_iff_exists.1 hlive
        obtain ⟨b, _, hb, _⟩ := hm.hrec r c hc
        refine ⟨hlive, ?_⟩
        simp only [μ3, Mu.back, hsr]
        have := (hm2.pins i b (by simp only [Dom.hand, hρi, Option.bind_some]; exact hb)).2 (by
          dsimp only at hsome
          cases hg : getL S.recs i with
          | none => rw [hg] at hsome; simp at hsome
          | some c => rfl)
        rw [this, hb]
      | none =>
        rw [hsr] at hsome
        refine ⟨by dsimp only at hsome; cases hg : getL st.recs r with | none => rw [hg] at hsome; simp at hsome | some c => rfl, by simp only [μ3, Mu.back, hsr]⟩
    · unfold unL at hi
      split at hi
      · cases hi
      · rename_i hidx; cases hi
        have ht' : t < st.lsts.length := ht
        have hsr := src_old (ρ := lm) ht' hidx
        refine ⟨by simp only [cx, unview, List.length_map, List.length_range]; omega, fun o' ho => ?_⟩
        simp only [cx] at ho ⊢
        rw [hgl, if_pos (by omega)] at ho
        unfold newLsts at ho
        rw [hsr] at ho
        exact ⟨o', ho, rfl, rfl, by simp only [μ3, Mu.back, hsr], by simp only [μ3, Mu.back, hsr]⟩
  have hren2 : (cx (A0.hand w0 μ w ρ lm) w0 S.recs S.lsts w' μ2).Ren (cx A0 w0 (unview st ρ lm S).recs (unview st ρ lm S).lsts w' μ3) (fun i => some (backN ρ st.recs.length i)) (fun i => some (backN lm st.lsts.length i)) := by
    refine ⟨hA2, fun _ _ => rfl, fun i r' hi he => ?_, fun i t' hi he => ?_⟩
    · cases he
      have hsr := src_back (i := i) hρ hltr
      have hb : backN ρ st.recs.length i < st.recs.length + (S.recs.length - ρ.length) := back_lt hltr hi
      refine ⟨by simp only [cx, unview, List.length_map, List.length_range]; exact hb, fun hsome => ?_⟩
      simp only [cx] at hsome ⊢
      rw [hgr, if_pos hb] at hsome
      unfold newRecs at hsome
      rw [hsr] at hsome
      refine ⟨by dsimp only at hsome; cases hg : getL S.recs i with | none => rw [hg] at hsome; simp at hsome | some c => rfl, by simp only [μ3, Mu.back, hsr]⟩
    · cases he
      have hsr := src_back (i := i) hlm hltl
      have hb : backN lm st.lsts.length i < st.lsts.length + (S.lsts.length - lm.length) := back_lt hltl hi
      refine ⟨by simp only [cx, unview, List.length_map, List.length_range]; exact hb, fun o' ho => ?_⟩
      simp only [cx] at ho ⊢
      rw [hgl, if_pos hb] at ho
      unfold newLsts at ho
      rw [hsr] at ho
      exact ⟨o', ho, rfl, rfl, by simp only [μ3, Mu.back, hsr], by simp only [μ3, Mu.back, hsr]⟩
  refine ⟨μ3, ⟨hs.slots.ren hren, ?_, ?_, ?_, ?_, hm2.below, ?_, ?_, ?_, ?_, hm.gi, ?_⟩, h2.slots.ren hren2⟩
  · intro j cells h
    rw [hgr] at h
    split at h
    · unfold newRecs at h
      cases hsr : srcN ρ st.recs.length j with
      | some i =>
        rw [hsr] at h
        dsimp only at h
        rw [Option.map_eq_some_iff] at h
        obtain ⟨c0, h1, rfl⟩ := h
        obtain ⟨b, vs', hb, ho, hv⟩ := hm2.hrec i c0 h1
        exact ⟨b, vs', by simp only [μ3, Mu.back, hsr]; exact hb, ho, hv.ren hren2⟩
      | none =>
        rw [hsr] at h
        dsimp only at h
        rw [Option.map_eq_some_iff] at h
        obtain ⟨c0, h1, rfl⟩ := h
        obtain ⟨b, vs', hb, ho, hv⟩ := hm.hrec j c0 h1
        exact ⟨b, vs', by simp only [μ3, Mu.back, hsr]; exact hb, ho.ext (hF b (hFold (x := .r j) (src_none hsr).2 hb)).2.1, hv.ren hren⟩
    · cases h
  · intro j o h
    rw [hgl] at h
    split at h
    · unfold newLsts at h
      cases hsr : srcN lm st.lsts.length j with
      | some i =>
        rw [hsr] at h
        rcases hm2.hlst i o h with ⟨h3, h4⟩ | ⟨b, vs', hb, ho, hsz, hc, us, rest, e, hr⟩
        · exact .inl ⟨by simp only [cx, μ3, Mu.back, hsr]; exact h3, h4⟩
        · exact .inr ⟨b, vs', by simp only [cx, μ3, Mu.back, hsr]; exact hb, ho, by simp only [cx, μ3, Mu.back, hsr]; exact hsz, by simp only [cx, μ3, Mu.back, hsr]; exact hc, us, rest, e, hr.imp fun x u hx => hx.mono hA2 fun _ _ => rfl⟩
      | none =>
        rw [hsr] at h
        rcases hm.hlst j o h with ⟨h3, h4⟩ | ⟨b, vs', hb, ho, hsz, hc, us, rest, e, hr⟩
        · exact .inl ⟨by simp only [cx, μ3, Mu.back, hsr]; exact h3, h4⟩
        · exact .inr ⟨b, vs', by simp only [cx, μ3, Mu.back, hsr]; exact hb, ho.ext (hF b (hFold (x := .l j) (src_none hsr).2 hb)).2.1, by simp only [cx, μ3, Mu.back, hsr]; exact hsz, by simp only [cx, μ3, Mu.back, hsr]; exact hc, us, rest, e,
            hr.imp fun x u hx => hx.mono hA fun b hb => (hF b (.inr (.inl hb))).2.1⟩
    · cases h
  · intro x b hx
    rcases hsrc hx with ⟨i, hi, hxi⟩ | ⟨hx, hold, hsr⟩
    · obtain ⟨g1, g2, g3⟩ := hm2.live i b hi
      refine ⟨g1, g2, ?_⟩
      cases x <;> cases i <;> simp only at hxi g3 ⊢
      · rename_i j i
        obtain ⟨c, hc⟩ := Option.isSome_iff_exists.1 g3
        have hb := back_lt (ρ := ρ) hltr (getL_lt hc)
        rw [back_src hxi] at hb
        rw [hgr, if_pos hb]
        unfold newRecs; rw [hxi]; dsimp only; rw [hc]; rfl
      · rename_i j i
        obtain ⟨c, hc⟩ := Option.isSome_iff_exists.1 g3
        have hb := back_lt (ρ := lm) hltl (getL_lt hc)
        rw [back_src hxi] at hb
        rw [hgl, if_pos hb]
        unfold newLsts; rw [hxi]; dsimp only; rw [hc]; rfl
    · obtain ⟨g1, g2, g3⟩ := hm.live x b hx
      refine ⟨g1, (hF b (hFold hold hx)).1, ?_⟩
      cases x <;> simp only at hsr g3 ⊢
      · have := (src_none hsr).1
        rw [hgr, if_pos (by omega)]
        unfold newRecs; rw [hsr]; dsimp only
        obtain ⟨c, hc⟩ := Option.isSome_iff_exists.1 g3
        rw [hc]; rfl
      · have := (src_none hsr).1
        rw [hgl, if_pos (by omega)]
        unfold newLsts; rw [hsr]; exact g3
  · intro x y b hx hy
    rcases hsrc hx with ⟨i, hi, hxi⟩ | ⟨hx, hold, hsr⟩ <;> rcases hsrc hy with ⟨i', hi', hyi⟩ | ⟨hy, hold', hsr'⟩
    · have e := hm2.inj _ _ _ hi hi'
      subst e
      cases x <;> cases y <;> cases i <;> simp only at hxi hyi
      · have := back_src hxi; have := back_src hyi; simp_all
      · have := back_src hxi; have := back_src hyi; simp_all
    · exact absurd hi ((hF b (hFold hold' hy)).2.2 i)
    · exact absurd hi' ((hF b (hFold hold hx)).2.2 i')
    · exact hm.inj _ _ _ hx hy
  · intro b hb
    obtain ⟨g1, g2, g3⟩ := hm.fr b hb
    have hf := hF b (.inl hb)
    refine ⟨hf.1, by rw [hf.2.1]; exact g2, fun x hx => ?_⟩
    rcases hsrc hx with ⟨i, hi, _⟩ | ⟨hx, _⟩
    · exact hf.2.2 i hi
    · exact g3 x hx
  · intro b hb
    obtain ⟨g1, g3⟩ := hm.xo b hb
    obtain ⟨k1, k3⟩ := hm2.xo b (.inl hb)
    refine ⟨k1, fun x hx => ?_⟩
    rcases hsrc hx with ⟨i, hi, _⟩ | ⟨hx, _⟩
    · exact k3 i hi
    · exact g3 x hx
  · have := hm.np; simp only [unview, List.length_map, List.length_range]; omega
  · intro r b hb
    obtain ⟨g1, g2⟩ := hm.pins r b hb
    refine ⟨g1, fun hsome => ?_⟩
    obtain ⟨g3, g4⟩ := (hren.r r r (Nat.lt_of_lt_of_le g1 hm.np) rfl).2 hsome
    exact g4.trans (g2 g3)
  · constructor
    · intro j cells h hbl b hb
      rw [hgr] at h
      split at h
      · unfold newRecs at h
        cases hsr : srcN ρ st.recs.length j with
        | some i =>
          rw [hsr] at h
          dsimp only at h
          rw [Option.map_eq_some_iff] at h
          obtain ⟨c0, h1, rfl⟩ := h
          exact hm2.bty.r i c0 h1 (renL_bld hbl) b (by simpa only [μ3, Mu.back, hsr] using hb)
        | none =>
          rw [hsr] at h
          dsimp only at h
          rw [Option.map_eq_some_iff] at h
          obtain ⟨c0, h1, rfl⟩ := h
          have hb' : μ.at_ (.r j) = some b := by simpa only [μ3, Mu.back, hsr] using hb
          obtain ⟨vs', hv⟩ := hm.bty.r j c0 h1 (renL_bld hbl) b hb'
          exact ⟨vs', (hF b (hFold (x := .r j) (src_none hsr).2 hb')).2.1.trans hv⟩
      · cases h
    · intro j o h he8 b hb
      rw [hgl] at h
      split at h
      · unfold newLsts at h
        cases hsr : srcN lm st.lsts.length j with
        | some i =>
          rw [hsr] at h
          exact hm2.bty.l i o h he8 b (by simpa only [μ3, Mu.back, hsr] using hb)
        | none =>
          rw [hsr] at h
          have hb' : μ.at_ (.l j) = some b := by simpa only [μ3, Mu.back, hsr] using hb
          obtain ⟨vs', hv⟩ := hm.bty.l j o h he8 b hb'
          exact ⟨vs', (hF b (hFold (x := .l j) (src_none hsr).2 hb')).2.1.trans hv⟩
      · cases h

theorem retVal_rep {c : Cx} {l : List AV} {us : List Value} (h : RepAVs c l us) : RepAV c (resVal l) (retVal us) := by
  have hl := h.length
  unfold resVal retVal
  split
  · obtain ⟨v, rfl, hv⟩ := h.one'
    simpa using hv
  · rename_i hne
    have : ¬ us.toArray.size = 1 := by
      intro e
      simp at e
      rw [hl] at e
      match l, e with
      | [v], _ => exact hne v rfl
    rw [dif_neg this]
    simp only [RepAV]
    exact ⟨_, rfl, by simpa using h⟩

variable {a : Act} {S : Type} {ε : Env}
theorem hand_run (hε : EnvOk P ε) (hs : Sim A0 w0 st a.tmps w μ) {f : Nat} {g : Operand} {args : List Operand} {pre post : Array Value} (hg : a.eval g = .func (.func f) pre post) (K : AV → St → Option S) (r : S) :
    ∀ l : List HF, (∀ h ∈ l, SoundH P f h) → evHands st (callArgs g args) K l = some r →
    ∃ av st', K av st' = some r ∧ (∃ fn, P.funcs[f]? = some fn ∧ (fn.name == "runtime.NumGoroutine") = false ∧ fn.body.isSome = true) ∧
      Calls P f (pre.toList ++ args.map a.eval ++ post.toList).toArray w fun e w' => ∃ v, e = .returned v ∧ Post A0 w0 a.tmps av st' v w'
  | [], _, h => by simp [evHands] at h
  | hf :: l, hl, h => by
    unfold evHands at h
    split at h
    · rename_i m hm
      rw [Option.bind_eq_some_iff] at h
      obtain ⟨as, has, h⟩ := h
      obtain ⟨μ1, hs1, _⟩ := Sim.freeze m.fz hs
      generalize st.freeze m.fz = st1 at h has hs1
      unfold evHand at h
      split at h
      · cases h
      · rename_i hchk
        simp only [Bool.and_eq_true] at hchk
        obtain ⟨⟨⟨⟨c1, c2⟩, c3⟩, c4⟩, c5⟩ := hchk
        simp only [Option.bind_eq_some_iff] at h
        obtain ⟨y, hy, o, ho, h⟩ := h
        have hargs : RepAVs (cx A0 w0 st1.recs st1.lsts w μ1) as (pre.toList ++ args.map a.eval ++ post.toList) := by
          unfold callArgs at has
          split at has
          · rename_i f' x y hev
            cases has
            have := ev_rep hs1.slots g
            rw [hev, hg] at this
            simp only [RepAV] at this
            obtain ⟨a', b', e, h1, h2⟩ := this
            cases e
            exact (h1.append (evs_rep hs1.slots args)).append h2
          · cases has
        obtain ⟨hfn, hS⟩ := hl hf (by simp)
        have hv := abs_sound (view_sim hs1 hargs (ρ := m.ρ) (lm := m.lm) c1 c2) (Nat.le_of_ble_eq_true c5) hy
        refine ⟨_, _, h, hfn, (hS y o ho _ w0 w _ _ hv).mono fun e w' ⟨us, μ', he, h2⟩ => ?_⟩
        obtain ⟨μ3, h3, h4⟩ := unview_sim (tmps := a.tmps) hs1 c1 c2 c3 c4 h2
        exact ⟨_, he, μ3, retVal_rep (by simpa using h4), h3⟩
    · exact hand_run hε hs hg K r l (fun h hh => hl h (by simp [hh])) h
theorem handP_run (hε : EnvOk P ε) (hs : Sim A0 w0 st a.tmps w μ) {f : Nat} {g : Operand} {args : List Operand} {pre post : Array Value} (hg : a.eval g = .func (.func f) pre post) (K Z : AV → St → Option S) (r : S) :
    ∀ l : List PF, (∀ h ∈ l, SoundP P f h) → evHandsP st (callArgs g args) K Z l = some r →
    ∃ av st', (∃ fn, P.funcs[f]? = some fn ∧ (fn.name == "runtime.NumGoroutine") = false ∧ fn.body.isSome = true) ∧
      ((K av st' = some r ∧ Calls P f (pre.toList ++ args.map a.eval ++ post.toList).toArray w fun e w' => ∃ v, e = .returned v ∧ Post A0 w0 a.tmps av st' v w') ∨
        (Z av st' = some r ∧ Calls P f (pre.toList ++ args.map a.eval ++ post.toList).toArray w fun e w' => ∃ v, e = .panicked [{ v := v, recovered := false }] ∧ Post A0 w0 a.tmps av st' v w'))
  | [], _, h => by simp [evHandsP] at h
  | hf :: l, hl, h => by
    unfold evHandsP at h
    split at h
    · rename_i m hm
      rw [Option.bind_eq_some_iff] at h
      obtain ⟨as, has, h⟩ := h
      obtain ⟨μ1, hs1, _⟩ := Sim.freeze m.fz hs
      generalize st.freeze m.fz = st1 at h has hs1
      unfold evHandP at h
      split at h
      · cases h
      · rename_i hchk
        simp only [Bool.and_eq_true] at hchk
        obtain ⟨⟨⟨⟨c1, c2⟩, c3⟩, c4⟩, c5⟩ := hchk
        simp only [Option.bind_eq_some_iff] at h
        obtain ⟨y, hy, o, ho, h⟩ := h
        have hargs : RepAVs (cx A0 w0 st1.recs st1.lsts w μ1) as (pre.toList ++ args.map a.eval ++ post.toList) := by
          unfold callArgs at has
          split at has
          · rename_i f' x y hev
            cases has
            have := ev_rep hs1.slots g
            rw [hev, hg] at this
            simp only [RepAV] at this
            obtain ⟨a', b', e, h1, h2⟩ := this
            cases e
            exact (h1.append (evs_rep hs1.slots args)).append h2
          · cases has
        obtain ⟨hfn, hS⟩ := hl hf (by simp)
        have hv := abs_sound (view_sim hs1 hargs (ρ := m.ρ) (lm := m.lm) c1 c2) (Nat.le_of_ble_eq_true c5) hy
        have hc := hS y o ho _ w0 w _ _ hv
        cases o with
        | inl o =>
          refine ⟨_, _, hfn, .inl ⟨h, hc.mono fun e w' ⟨us, μ', he, h2⟩ => ?_⟩⟩
          obtain ⟨μ3, h3, h4⟩ := unview_sim (tmps := a.tmps) hs1 c1 c2 c3 c4 h2
          exact ⟨_, he, μ3, retVal_rep (by simpa using h4), h3⟩
        | inr z =>
          refine ⟨_, _, hfn, .inr ⟨h, hc.mono fun e w' ⟨v, μ', he, h2⟩ => ?_⟩⟩
          obtain ⟨μ3, h3, h4⟩ := unview_sim (tmps := a.tmps) hs1 c1 c2 c3 c4 h2
          have h5 := retVal_rep (us := [v]) (by simpa using h4)
          exact ⟨v, he, μ3, h5, h3⟩
    · exact handP_run hε hs hg K Z r l (fun h hh => hl h (by simp [hh])) h
end
end Go.Pe
