/- Own memory, handed on to a function and back: what is told of it. -/
import Derived.Test.YtgghmllnhaahgaaPeAbs
namespace Go.Pe
open Go.RowKit
set_option linter.unusedSectionVars false
variable [GI]
set_option linter.unusedSimpArgs false
set_option linter.unusedVariables false

theorem idx_some {n : Nat} : ∀ {l : List Nat} {i : Nat}, idx n l = some i → l[i]? = some n
  | [], _, h => by simp [idx] at h
  | m :: l, i, h => by
    simp only [idx] at h
    split at h
    · rename_i e; cases h; simp [Nat.eq_of_beq_eq_true e]
    · rw [Option.map_eq_some_iff] at h
      obtain ⟨j, hj, rfl⟩ := h
      simpa using idx_some hj
theorem idx_of {n : Nat} : ∀ {l : List Nat} {i : Nat}, nodupB l = true → l[i]? = some n → idx n l = some i
  | [], i, _, h => by simp at h
  | m :: l, 0, hn, h => by
    simp only [List.getElem?_cons_zero, Option.some.injEq] at h
    subst h; simp [idx]
  | m :: l, i + 1, hn, h => by
    simp only [List.getElem?_cons_succ] at h
    simp only [nodupB, Bool.and_eq_true] at hn
    have ih := idx_of hn.2 h
    simp only [idx]
    split
    · rename_i e
      have e := Nat.eq_of_beq_eq_true e
      subst e
      rw [ih] at hn; simp at hn
    · rw [ih]; rfl
theorem getL_some {α : Type} {l : List (Option α)} {i : Nat} {x : α} : getL l i = some x ↔ l[i]? = some (some x) := by
  unfold getL
  split
  · rename_i y h; simp [h]
  · rename_i h
    constructor
    · intro e; cases e
    · intro e; exact absurd e (h x)
theorem getL_mapN {α β : Type} {f : α → Option β} (l : List α) (i : Nat) : getL (l.map f) i = (l[i]?).bind f := by
  unfold getL
  rw [List.getElem?_map]
  cases h : l[i]? with
  | none => rfl
  | some a =>
    simp only [Option.map_some, Option.bind_some]
    cases h2 : f a <;> rfl
theorem getL_range {β : Type} {f : Nat → Option β} (n i : Nat) : getL ((List.range n).map f) i = if i < n then f i else none := by
  rw [getL_mapN]
  split
  · rename_i h; simp [h]
  · rename_i h; simp [h]
theorem allSome_get {l : List (Option (List AV))} : ∀ {ρ : List Nat} {i r : Nat}, allSome l ρ = true → ρ[i]? = some r → (getL l r).isSome = true ∧ ∀ c, getL l r = some c → isMark c = false
  | [], _, _, _, h => by simp at h
  | m :: ρ, 0, r, ha, h => by
    simp only [List.getElem?_cons_zero, Option.some.injEq] at h
    simp only [allSome, Bool.and_eq_true] at ha
    subst h
    have := ha.1
    split at this
    · rename_i c hc
      exact ⟨by rw [hc]; rfl, fun c' hc' => by rw [hc] at hc'; cases hc'; simpa using this⟩
    · cases this
  | m :: ρ, i + 1, r, ha, h => by
    simp only [allSome, Bool.and_eq_true] at ha
    exact allSome_get ha.2 (by simpa using h)
theorem allLt_get {n : Nat} : ∀ {ρ : List Nat} {i r : Nat}, allLt n ρ = true → ρ[i]? = some r → r < n
  | [], _, _, _, h => by simp at h
  | m :: ρ, 0, r, ha, h => by
    simp only [List.getElem?_cons_zero, Option.some.injEq] at h
    simp only [allLt, Bool.and_eq_true] at ha
    subst h; simpa [Nat.blt_eq] using ha.1
  | m :: ρ, i + 1, r, ha, h => by
    simp only [allLt, Bool.and_eq_true] at ha
    exact allLt_get ha.2 (by simpa using h)

theorem src_back {ρ : List Nat} {n i : Nat} (hd : nodupB ρ = true) (hlt : ∀ j r : Nat, ρ[j]? = some r → r < n) : srcN ρ n (backN ρ n i) = some i := by
  unfold backN
  split
  · rename_i r h
    unfold srcN; rw [idx_of hd h]
  · rename_i h
    have hi : ρ.length ≤ i := by simpa using h
    unfold srcN
    split
    · rename_i j hj
      have := hlt j _ (idx_some hj)
      omega
    · split
      · rename_i hb
        have : n + (i - ρ.length) < n := by simpa [Nat.blt_eq] using hb
        omega
      · congr 1; omega
theorem back_src {ρ : List Nat} {n i j : Nat} (h : srcN ρ n j = some i) : backN ρ n i = j := by
  unfold srcN at h
  split at h
  · rename_i i' hi; cases h
    unfold backN; rw [idx_some hi]
  · split at h
    · cases h
    · rename_i hi hb
      cases h
      have hb : ¬ j < n := by intro e; rw [show Nat.blt j n = true by simpa [Nat.blt_eq] using e] at hb; cases hb
      unfold backN
      rw [List.getElem?_eq_none (by omega)]
      dsimp only; omega
theorem src_none {ρ : List Nat} {n j : Nat} (h : srcN ρ n j = none) : j < n ∧ idx j ρ = none := by
  unfold srcN at h
  split at h
  · cases h
  · rename_i hi
    split at h
    · rename_i hb; exact ⟨by simpa [Nat.blt_eq] using hb, hi⟩
    · cases h
theorem src_old {ρ : List Nat} {n j : Nat} (h1 : j < n) (h2 : idx j ρ = none) : srcN ρ n j = none := by
  unfold srcN; rw [h2]; dsimp only
  rw [show Nat.blt j n = true by simpa [Nat.blt_eq] using h1]
theorem back_lt {ρ : List Nat} {n i k : Nat} (hlt : ∀ j r : Nat, ρ[j]? = some r → r < n) (hi : i < k) : backN ρ n i < n + (k - ρ.length) := by
  unfold backN
  split
  · rename_i r h; have := hlt _ _ h; omega
  · rename_i h
    have : ρ.length ≤ i := by simpa using h
    omega

section
variable {P : Program} {A0 : Dom} {w0 w : World} {st : St} {μ : Mu}

/-- What is not handed on. -/
def old (ρ lm : List Nat) (sm : SM) : Loc → Prop
  | .r r => idx r ρ = none
  | .l t => idx t lm = none
  | .n _ => sm.isHand = false
/-- What stands in the place of such a row's name. -/
def keepV (A0 : Dom) (μ : Mu) : SM → Value
  | .keep (.stk _) => (match μ.dp with | some d => hdrV μ d.fs.length d.cap | none => .bool false)
  | .keep (.foc _ _) => (match μ.dp with | some d => hdrV μ (d.fs.length + 1) d.cap | none => .bool false)
  | .keep .same => A0.keep
  | _ => .bool false
theorem keepV_eq {A0 : Dom} {μ : Mu} {x : SX} {v : Value} (h : RepSX μ A0.keep x v) (hx : (SM.keep x).back .same = .sx x) : v = keepV A0 μ (.keep x) := by
  cases x <;> simp only [SM.back] at hx <;> try (cases hx; done)
  · simp only [RepSX] at h; obtain ⟨cap, h1, rfl, _⟩ := h; simp only [keepV, h1]
  · simp only [RepSX] at h; obtain ⟨cap, b, h1, h2, rfl, _⟩ := h; simp only [keepV, h1, hdrV, h2]
  · exact h.1
/-- What stays is told of the state. -/
def SmOk (A0 : Dom) (μ : Mu) (sm : SM) : Prop := ∀ x, sm = .keep x → RepSX μ A0.keep x (keepV A0 μ sm)
def Dom.hand (A0 : Dom) (w0 : World) (μ : Mu) (w : World) (ρ lm : List Nat) (sm : SM) : Dom where
  A := A0.A
  F b := A0.F b ∨ Imm A0 w0 μ w b ∨ ∃ x, old ρ lm sm x ∧ μ.at_ x = some b
  X b := A0.X b ∨ ∃ x, old ρ lm sm x ∧ μ.at_ x = some b
  wF := w
  pin i := (ρ[i]?).bind fun r => μ.at_ (.r r)
  np := ρ.length
  keep := keepV A0 μ sm
def Mu.hand (μ : Mu) (ρ lm : List Nat) (sm : SM) : Mu where
  at_ := fun x => match x with
    | .r i => (ρ[i]?).bind fun r => μ.at_ (.r r)
    | .l i => (lm[i]?).bind fun t => μ.at_ (.l t)
    | .n k => if sm.isHand = true then μ.at_ (.n k) else none
  cap i := match lm[i]? with | some t => μ.cap t | none => 0
  dp := if sm.isHand = true then μ.dp.map (fun d => ⟨none, d.cap, d.fs⟩) else none

def PairN (ρ lm : List Nat) : Loc → Loc → Prop
  | .r i, .r r => ρ[i]? = some r
  | .l i, .l t => lm[i]? = some t
  | .n i, .n k => i = k
  | _, _ => False
theorem hand_src {ρ lm : List Nat} {sm : SM} (h1 : nodupB ρ = true) (h2 : nodupB lm = true) {x : Loc} {b : Nat} (h : (μ.hand ρ lm sm).at_ x = some b) : ∃ y, μ.at_ y = some b ∧ ¬ old ρ lm sm y ∧ PairN ρ lm x y := by
  cases x with
  | n k =>
    simp only [Mu.hand] at h
    split at h
    · rename_i hs
      exact ⟨.n k, h, by simp [old, hs], rfl⟩
    · cases h
  | r i =>
    simp only [Mu.hand, Option.bind_eq_some_iff] at h
    obtain ⟨r, h3, h4⟩ := h
    exact ⟨.r r, h4, by simp [old, idx_of h1 h3], h3⟩
  | l i =>
    simp only [Mu.hand, Option.bind_eq_some_iff] at h
    obtain ⟨r, h3, h4⟩ := h
    exact ⟨.l r, h4, by simp [old, idx_of h2 h3], h3⟩

theorem ren_bld {fr fl : Nat → Option Nat} {fx : SX → AV} (hf : ∀ x r, fx x ≠ .bld r) {x : AV} {r : Nat} (h : x.ren fr fl fx = .bld r) : ∃ r', x = .bld r' := by
  cases x <;> simp only [AV.ren] at h <;> first | exact ⟨_, rfl⟩ | (exact absurd h (hf _ _)) | (cases h; done) | (split at h <;> cases h)
theorem renL_bld {fr fl : Nat → Option Nat} {fx : SX → AV} (hf : ∀ x r, fx x ≠ .bld r) : ∀ {l : List AV}, isBld (renL fr fl fx l) = true → isBld l = true
  | [], h => by simp [renL, isBld] at h
  | x :: l, h => by
    obtain ⟨r, l', e⟩ := isBld_some h
    simp only [renL, List.cons.injEq] at e
    obtain ⟨r', rfl⟩ := ren_bld hf e.1
    rfl
theorem ren_mark {fr fl : Nat → Option Nat} {fx : SX → AV} {x : AV} (h : x.ren fr fl fx = .sx .mark) : ∃ y, x = .sx y ∧ fx y = .sx .mark := by
  cases x <;> simp only [AV.ren] at h <;> first | exact ⟨_, rfl, h⟩ | (cases h; done) | (split at h <;> cases h)
theorem renL_mark {fr fl : Nat → Option Nat} {fx : SX → AV} : ∀ {l : List AV} {c : List AV}, renL fr fl fx l = .sx .mark :: c → ∃ y l', l = .sx y :: l' ∧ fx y = .sx .mark ∧ c = renL fr fl fx l'
  | [], _, h => by simp [renL] at h
  | x :: l, c, h => by
    simp only [renL, List.cons.injEq] at h
    obtain ⟨y, rfl, hy⟩ := ren_mark h.1
    exact ⟨y, l, rfl, hy, h.2.symm⟩
theorem view_nobld (sm : SM) (x : SX) (r : Nat) : sm.view x ≠ .bld r := by
  unfold SM.view; split <;> simp
theorem back_nobld (sm : SM) (x : SX) (r : Nat) : sm.back x ≠ .bld r := by
  unfold SM.back; split <;> simp
theorem old_nobld (sm : SM) (x : SX) (r : Nat) : sm.old x ≠ .bld r := by
  unfold SM.old; split <;> simp
theorem view_nomark (sm : SM) (x : SX) : sm.view x ≠ .sx .mark := by
  unfold SM.view; split <;> simp
theorem back_nomark (sm : SM) (x : SX) : sm.back x ≠ .sx .mark := by
  unfold SM.back; split <;> simp
theorem old_mark (sm : SM) (x : SX) (h : sm.old x = .sx .mark) : x = .mark ∧ sm.isHand = false := by
  unfold SM.old at h; split at h
  · cases h
  · rename_i hn; cases h; exact ⟨rfl, by cases sm <;> first | rfl | exact absurd rfl hn⟩

theorem hand_dp {ρ lm : List Nat} {sm : SM} (h : sm.isHand = true) : (μ.hand ρ lm sm).dp = μ.dp.map fun d => ⟨none, d.cap, d.fs⟩ := by simp [Mu.hand, h]
theorem hand_n {ρ lm : List Nat} {sm : SM} (h : sm.isHand = true) (k : Nat) : (μ.hand ρ lm sm).at_ (.n k) = μ.at_ (.n k) := by simp [Mu.hand, h]
theorem view_sx {ρ lm : List Nat} {sm : SM} {recs' : List (Option (List AV))} {lsts' : List (Option LObj)} {x : SX} {v : Value} (h : RepSX μ A0.keep x v) : RepAV (cx (A0.hand w0 μ w ρ lm sm) w0 recs' lsts' w (μ.hand ρ lm sm)) (sm.view x) v := by
  have h1 := h.one
  unfold SM.view
  split
  · simp only [RepAV, RepSX, cx] at h ⊢
    obtain ⟨cap, h1, h2, h3⟩ := h
    refine ⟨cap, by rw [hand_dp rfl, h1]; rfl, ?_, by rw [hand_n rfl]; exact h3⟩
    rw [h2]; unfold hdrV; rw [hand_n rfl]
  · simp only [RepAV, RepSX, cx] at h ⊢
    obtain ⟨cap, g1, g2, g3⟩ := h
    refine ⟨?_, h1⟩
    simp only [Dom.hand, keepV, g1]; exact g2
  · simp only [RepAV, RepSX, cx] at h ⊢
    obtain ⟨cap, b, g1, g2, g3, _⟩ := h
    refine ⟨?_, h1⟩
    simp only [Dom.hand, keepV, g1, hdrV, g2]; exact g3
  · simp only [RepAV, RepSX, cx] at h ⊢
    exact ⟨h.1, h1⟩
  · simp only [RepAV]
theorem view_sim {tmps : Array Value} (hs : Sim A0 w0 st tmps w μ) {args : List AV} {vs : List Value} (hargs : RepAVs (cx A0 w0 st.recs st.lsts w μ) args vs) {ρ lm : List Nat} (sm : SM) (hρ : nodupB ρ = true) (hlm : nodupB lm = true) (hmk : ∀ (i r : Nat) c, ρ[i]? = some r → getL st.recs r = some c → isMark c = false) :
    Sim (A0.hand w0 μ w ρ lm sm) w0 (view st ρ lm sm args) vs.toArray w (μ.hand ρ lm sm) := by
  have hm := hs.mem
  have hsrc : ∀ {x b}, (μ.hand ρ lm sm).at_ x = some b → ∃ y, μ.at_ y = some b ∧ ¬ old ρ lm sm y ∧ PairN ρ lm x y := hand_src hρ hlm
  have hA : ∀ b, Imm A0 w0 μ w b → Imm (A0.hand w0 μ w ρ lm sm) w0 (μ.hand ρ lm sm) w b := fun b hb =>
    ⟨⟨hb.1.1, fun hx => hx.elim hb.1.2 fun ⟨x, _, hx⟩ => hb.2.2 x hx⟩, hb.2.1, fun x hx => by obtain ⟨y, hy, _⟩ := hsrc hx; exact hb.2.2 y hy⟩
  have hrec : ∀ {i c}, getL (view st ρ lm sm args).recs i = some c → ∃ r c0, ρ[i]? = some r ∧ getL st.recs r = some c0 ∧ c = viewR ρ lm sm c0 := by
    intro i c h
    simp only [view] at h
    rw [getL_mapN, Option.bind_eq_some_iff] at h
    obtain ⟨r, h1, h2⟩ := h
    rw [Option.map_eq_some_iff] at h2
    obtain ⟨c0, h2, h3⟩ := h2
    exact ⟨r, c0, h1, h2, h3.symm⟩
  have hlst : ∀ {i o}, getL (view st ρ lm sm args).lsts i = some o → ∃ t, lm[i]? = some t ∧ getL st.lsts t = some o := by
    intro i o h
    simp only [view] at h
    rw [getL_mapN, Option.bind_eq_some_iff] at h
    exact h
  have hren : (cx A0 w0 st.recs st.lsts w μ).Ren (cx (A0.hand w0 μ w ρ lm sm) w0 (view st ρ lm sm args).recs (view st ρ lm sm args).lsts w (μ.hand ρ lm sm)) (fun r => idx r ρ) (fun t => idx t lm) sm.view := by
    refine ⟨hA, fun _ _ => rfl, fun r i hr hi => ?_, fun t i ht hi => ?_, fun x v h => view_sx h⟩
    · have hi' := idx_some hi
      refine ⟨by simp only [cx, view, List.length_map]; exact (List.getElem?_eq_some_iff.1 hi').1, fun hsome => ?_⟩
      obtain ⟨c, hc⟩ := Option.isSome_iff_exists.1 hsome
      obtain ⟨r', c0, h1, h2, _⟩ := hrec hc
      rw [hi'] at h1; cases h1
      exact ⟨by show (getL st.recs r).isSome = true; rw [h2]; rfl, by simp only [cx, Mu.hand, hi', Option.bind_some]⟩
    · have hi' := idx_some hi
      refine ⟨by simp only [cx, view, List.length_map]; exact (List.getElem?_eq_some_iff.1 hi').1, fun o' ho => ?_⟩
      obtain ⟨t', h1, h2⟩ := hlst ho
      rw [hi'] at h1; cases h1
      exact ⟨o', h2, rfl, rfl, by simp only [cx, Mu.hand, hi', Option.bind_some], by simp only [cx, Mu.hand, hi']⟩
  refine ⟨by simpa [view, viewR] using hargs.ren hren, ?_, ?_, ?_, ?_, hm.below, ?_, ?_, by simp [view, Dom.hand], ?_, hm.gi, ?_, ?_, ?_⟩
  · intro i cells h _
    obtain ⟨r, c0, h1, h2, rfl⟩ := hrec h
    obtain ⟨b, vs', hb, ho, hv⟩ := hm.hrec r c0 h2 (hmk i r c0 h1 h2)
    exact ⟨b, vs', by simp only [Mu.hand, h1, Option.bind_some]; exact hb, ho, hv.ren hren⟩
  · intro i o h
    obtain ⟨t, h1, h2⟩ := hlst h
    rcases hm.hlst t o h2 with ⟨h3, h4⟩ | ⟨b, vs', hb, ho, hsz, hc, us, rest, e, hr⟩
    · exact .inl ⟨by simp only [cx, Mu.hand, h1, Option.bind_some]; exact h3, h4⟩
    · refine .inr ⟨b, vs', by simp only [cx, Mu.hand, h1, Option.bind_some]; exact hb, ho, by simp only [cx, Mu.hand, h1]; exact hsz, by simp only [cx, Mu.hand, h1]; exact hc, us, rest, e, hr.imp fun x u hx => hx.mono hA fun _ _ => rfl⟩
  · intro x b hx
    obtain ⟨y, hy, _, hxy⟩ := hsrc hx
    obtain ⟨h1, h2, h3⟩ := hm.live y b hy
    refine ⟨h1, h2, ?_⟩
    cases x <;> cases y <;> simp only [PairN] at hxy h3 ⊢
    · simp only [view]; rw [getL_mapN, hxy, Option.bind_some]; simpa using h3
    · simp only [view]; rw [getL_mapN, hxy, Option.bind_some]; exact h3
    · simp only [Mu.hand] at hx ⊢
      split at hx
      · rename_i hh; simp [hh]; simpa using h3
      · cases hx
  · intro x y b hx hy
    obtain ⟨x', hx', _, hxx⟩ := hsrc hx
    obtain ⟨y', hy', _, hyy⟩ := hsrc hy
    have e := hm.inj _ _ _ hx' hy'
    subst e
    cases x <;> cases y <;> cases x' <;> simp only [PairN] at hxx hyy
    · have h1 := idx_of hρ hxx; have h2 := idx_of hρ hyy; rw [h1] at h2; cases h2; rfl
    · have h1 := idx_of hlm hxx; have h2 := idx_of hlm hyy; rw [h1] at h2; cases h2; rfl
    · rw [hxx, hyy]
  · intro b hb
    rcases hb with hb | hb | ⟨x, hx, hb⟩
    · obtain ⟨h1, h2, h3⟩ := hm.fr b hb
      exact ⟨h1, rfl, fun x hx => by obtain ⟨y, hy, _⟩ := hsrc hx; exact h3 y hy⟩
    · exact ⟨hb.2.1, rfl, fun x hx => by obtain ⟨y, hy, _⟩ := hsrc hx; exact hb.2.2 y hy⟩
    · refine ⟨(hm.live x b hb).2.1, rfl, fun y hy => ?_⟩
      obtain ⟨y', hy', hold, _⟩ := hsrc hy
      have := hm.inj _ _ _ hb hy'
      subst this; exact hold hx
  · intro b hb
    rcases hb with hb | ⟨x, hx, hb⟩
    · obtain ⟨h1, h3⟩ := hm.xo b hb
      exact ⟨h1, fun x hx => by obtain ⟨y, hy, _⟩ := hsrc hx; exact h3 y hy⟩
    · refine ⟨(hm.live x b hb).2.1, fun y hy => ?_⟩
      obtain ⟨y', hy', hold, _⟩ := hsrc hy
      have := hm.inj _ _ _ hb hy'
      subst this; exact hold hx
  · intro i b hb
    refine ⟨?_, fun _ => hb⟩
    simp only [Dom.hand, Option.bind_eq_some_iff] at hb
    obtain ⟨r, h1, _⟩ := hb
    exact (List.getElem?_eq_some_iff.1 h1).1
  · constructor
    · intro i cells h hbl b hb
      obtain ⟨r, c0, h1, h2, rfl⟩ := hrec h
      exact hm.bty.r r c0 h2 (renL_bld (view_nobld sm) hbl) b (by simpa only [Mu.hand, h1, Option.bind_some] using hb)
    · intro i o h he8 b hb
      obtain ⟨t, h1, h2⟩ := hlst h
      exact hm.bty.l t o h2 he8 b (by simpa only [Mu.hand, h1, Option.bind_some] using hb)
  · intro i c h
    obtain ⟨r, c0, h1, h2, e⟩ := hrec h
    obtain ⟨y, l', _, hy, _⟩ := renL_mark e.symm
    exact absurd hy (view_nomark sm y)
  · intro d hd
    cases hh : sm.isHand with
    | false => simp [Mu.hand, hh] at hd
    | true =>
      rw [hand_dp hh, Option.map_eq_some_iff] at hd
      obtain ⟨d0, hd0, rfl⟩ := hd
      have hdeep := hm.deep d0 hd0
      have h1 : (cx A0 w0 st.recs st.lsts w μ).Deep1 (cx (A0.hand w0 μ w ρ lm sm) w0 (view st ρ lm sm args).recs (view st ρ lm sm args).lsts w (μ.hand ρ lm sm)) := ⟨hA, fun _ _ => rfl, fun k _ => hand_n hh k, fun _ _ _ _ => rfl⟩
      refine ⟨fun r hr => (by cases hr), fun k b hk => hdeep.lim k b (by rw [← hk]; exact (hand_n hh k).symm), ?_⟩
      rcases hdeep.row with ⟨h2, h3, h4⟩ | ⟨b, vs, pre, rest, h2, h3, h4, h5, h6, h7⟩
      · exact .inl ⟨(hand_n hh 0).trans h2, h3, rfl⟩
      · exact .inr ⟨b, vs, pre, rest, (hand_n hh 0).trans h2, h3, h4, by simp; omega, h6, h7.mono h1⟩

/-- Where own memory lies behind the call. -/
def Mu.back (μ μ2 : Mu) (ρ lm : List Nat) (sm : SM) (n nl : Nat) : Mu where
  at_ := fun x => match x with
    | .r j => (match srcN ρ n j with | some i => μ2.at_ (.r i) | none => μ.at_ (.r j))
    | .l j => (match srcN lm nl j with | some i => μ2.at_ (.l i) | none => μ.at_ (.l j))
    | .n k => if sm.isHand = true then μ2.at_ (.n k) else μ.at_ (.n k)
  cap j := match srcN lm nl j with | some i => μ2.cap i | none => μ.cap j
  dp := if sm.isHand = true then μ2.dp.map (fun d => ⟨none, d.cap, d.fs⟩) else μ.dp
theorem newRecs_some {st : St} {ρ lm : List Nat} {sm : SM} {s : St} {j : Nat} {c' : List AV} (h : newRecs st ρ lm sm s j = some c') :
    (∃ i c, srcN ρ st.recs.length j = some i ∧ getL s.recs i = some c ∧ isMark c = false ∧ c' = backL ρ lm sm st.recs.length st.lsts.length c) ∨
    (srcN ρ st.recs.length j = none ∧ ∃ c, getL st.recs j = some c ∧ (isMark c = true → sm.isHand = false) ∧ c' = renL some (unL lm) sm.old c) := by
  unfold newRecs at h
  split at h
  · rename_i i hi
    split at h
    · rename_i c hc
      split at h
      · cases h
      · rename_i hk; cases h; exact .inl ⟨i, c, hi, hc, hk, rfl⟩
    · cases h
  · rename_i hi
    split at h
    · rename_i c hc
      split at h
      · cases h
      · rename_i hn
        cases h
        refine .inr ⟨hi, c, hc, fun hk => ?_, rfl⟩
        rw [hk] at hn; simpa using hn
    · cases h
theorem newRecs_src {st : St} {ρ lm : List Nat} {sm : SM} {s : St} {i j : Nat} {c : List AV} (h1 : srcN ρ st.recs.length j = some i) (h2 : getL s.recs i = some c) (h3 : isMark c = false) : (newRecs st ρ lm sm s j).isSome = true := by
  unfold newRecs; rw [h1]; dsimp only; rw [h2]; dsimp only; rw [h3]; rfl
theorem newRecs_old {st : St} {ρ lm : List Nat} {sm : SM} {s : St} {j : Nat} {c : List AV} (h1 : srcN ρ st.recs.length j = none) (h2 : getL st.recs j = some c) (h3 : isMark c = false) : (newRecs st ρ lm sm s j).isSome = true := by
  unfold newRecs; rw [h1]; dsimp only; rw [h2]; dsimp only; rw [h3]; rfl

theorem unview_sim {tmps us : Array Value} {w' : World} {S : St} {μ2 : Mu} {ρ lm : List Nat} {sm : SM} (hs : Sim A0 w0 st tmps w μ) (hsm : SmOk A0 μ sm) (hρ : nodupB ρ = true) (hlm : nodupB lm = true) (hall : allSome st.recs ρ = true) (hlt : allLt st.lsts.length lm = true)
    (h2 : Sim (A0.hand w0 μ w ρ lm sm) w0 S us w' μ2) :
    ∃ μ3, Sim A0 w0 (unview st ρ lm sm S) tmps w' μ3 ∧ RepAVs (cx A0 w0 (unview st ρ lm sm S).recs (unview st ρ lm sm S).lsts w' μ3) (unvals st ρ lm sm S) us.toList := by
  have hm := hs.mem
  have hm2 := h2.mem
  have hltr : ∀ j r, ρ[j]? = some r → r < st.recs.length := fun j r h => by
    obtain ⟨c, hc⟩ := Option.isSome_iff_exists.1 (allSome_get hall h).1; exact getL_lt hc
  have hltl : ∀ j t, lm[j]? = some t → t < st.lsts.length := fun j t h => allLt_get hlt h
  let μ3 := μ.back μ2 ρ lm sm st.recs.length st.lsts.length
  -- a place behind the call comes from the function's or from what was not handed on
  have hsrc : ∀ {x b}, μ3.at_ x = some b → (∃ i, μ2.at_ i = some b ∧ (match x, i with | .r j, .r i => srcN ρ st.recs.length j = some i | .l j, .l i => srcN lm st.lsts.length j = some i | .n j, .n i => j = i ∧ sm.isHand = true | _, _ => False)) ∨
      (μ.at_ x = some b ∧ old ρ lm sm x ∧ (match x with | .r j => srcN ρ st.recs.length j = none | .l j => srcN lm st.lsts.length j = none | .n _ => sm.isHand = false)) := by
    intro x b h
    cases x with
    | n k =>
      simp only [μ3, Mu.back] at h
      split at h
      · rename_i hh; exact .inl ⟨.n k, h, rfl, hh⟩
      · rename_i hh
        have hh : sm.isHand = false := by simpa using hh
        exact .inr ⟨h, hh, hh⟩
    | r j =>
      simp only [μ3, Mu.back] at h
      split at h
      · rename_i i hi; exact .inl ⟨.r i, h, hi⟩
      · rename_i hi; exact .inr ⟨h, (src_none hi).2, hi⟩
    | l j =>
      simp only [μ3, Mu.back] at h
      split at h
      · rename_i i hi; exact .inl ⟨.l i, h, hi⟩
      · rename_i hi; exact .inr ⟨h, (src_none hi).2, hi⟩
  have hF : ∀ b, (A0.hand w0 μ w ρ lm sm).F b → b < w'.heap.size ∧ w'.heap[b]? = w.heap[b]? ∧ ∀ x, μ2.at_ x ≠ some b := fun b hb => hm2.fr b hb
  have hFold : ∀ {x b}, old ρ lm sm x → μ.at_ x = some b → (A0.hand w0 μ w ρ lm sm).F b := fun hx hb => .inr (.inr ⟨_, hx, hb⟩)
  have hA : ∀ b, Imm A0 w0 μ w b → Imm A0 w0 μ3 w' b := fun b hb => by
    have hf := hF b (.inr (.inl hb))
    refine ⟨hb.1, hf.1, fun x hx => ?_⟩
    rcases hsrc hx with ⟨i, hi, _⟩ | ⟨hx, _⟩
    · exact hf.2.2 i hi
    · exact hb.2.2 x hx
  have hA2 : ∀ b, Imm (A0.hand w0 μ w ρ lm sm) w0 μ2 w' b → Imm A0 w0 μ3 w' b := fun b hb => by
    refine ⟨⟨hb.1.1, fun hx => hb.1.2 (.inl hx)⟩, hb.2.1, fun x hx => ?_⟩
    rcases hsrc hx with ⟨i, hi, _⟩ | ⟨hx, hold, _⟩
    · exact hb.2.2 i hi
    · exact hb.1.2 (.inr ⟨x, hold, hx⟩)
  have hgr : ∀ j, getL (unview st ρ lm sm S).recs j = if j < st.recs.length + (S.recs.length - ρ.length) then newRecs st ρ lm sm S j else none := fun j => by simp only [unview]; rw [getL_range]
  have hgl : ∀ j, getL (unview st ρ lm sm S).lsts j = if j < st.lsts.length + (S.lsts.length - lm.length) then newLsts st lm S j else none := fun j => by simp only [unview]; rw [getL_range]
  have hren : (cx A0 w0 st.recs st.lsts w μ).Ren (cx A0 w0 (unview st ρ lm sm S).recs (unview st ρ lm sm S).lsts w' μ3) some (unL lm) sm.old := by
    refine ⟨hA, fun b hb => (hF b (.inr (.inl hb))).2.1, fun r r' hr hi => ?_, fun t t' ht hi => ?_, fun x v h => ?_⟩
    · cases hi
      have hr' : r < st.recs.length := hr
      refine ⟨by simp only [cx, unview, List.length_map, List.length_range]; omega, fun hsome => ?_⟩
      simp only [cx] at hsome ⊢
      rw [hgr, if_pos (by omega)] at hsome
      obtain ⟨c', hsome⟩ := Option.isSome_iff_exists.1 hsome
      cases hsr : srcN ρ st.recs.length r with
      | some i =>
        have g : ∃ c2, getL S.recs i = some c2 := by
          rcases newRecs_some hsome with ⟨i', c2, g1, g2, _⟩ | ⟨g1, _⟩
          · rw [hsr] at g1; cases g1; exact ⟨c2, g2⟩
          · rw [hsr] at g1; cases g1
        obtain ⟨c2, g2⟩ := g
        have hρi : ρ[i]? = some r := by
          unfold srcN at hsr
          split at hsr
          · rename_i i' hi'; cases hsr; exact idx_some hi'
          · split at hsr
            · cases hsr
            · rename_i hb; rw [show Nat.blt r st.recs.length = true by simpa [Nat.blt_eq] using hr'] at hb; cases hb
        obtain ⟨hlive, hunm⟩ := allSome_get hall hρi
        obtain ⟨c, hc⟩ := Option.isSome_iff_exists.1 hlive
        obtain ⟨b, _, hb, _⟩ := hm.hrec r c hc (hunm c hc)
        refine ⟨hlive, ?_⟩
        simp only [μ3, Mu.back, hsr]
        have := (hm2.pins i b (by simp only [Dom.hand, hρi, Option.bind_some]; exact hb)).2 (by rw [g2]; rfl)
        rw [this, hb]
      | none =>
        rcases newRecs_some hsome with ⟨i', c2, g1, g2, g3, _⟩ | ⟨g1, c2, g2, _⟩
        · rw [hsr] at g1; cases g1
        · exact ⟨by rw [g2]; rfl, by simp only [μ3, Mu.back, hsr]⟩
    · unfold unL at hi
      split at hi
      · cases hi
      · rename_i hidx; cases hi
        have ht' : t < st.lsts.length := ht
        have hsr := src_old (ρ := lm) ht' hidx
        refine ⟨by simp only [cx, unview, List.length_map, List.length_range]; omega, fun o' ho => ?_⟩
        simp only [cx] at ho ⊢
        rw [hgl, if_pos (by omega)] at ho
        unfold newLsts at ho
        rw [hsr] at ho
        exact ⟨o', ho, rfl, rfl, by simp only [μ3, Mu.back, hsr], by simp only [μ3, Mu.back, hsr]⟩
    · unfold SM.old
      split
      · simp only [RepAV]
      · rename_i hn
        have hh : sm.isHand = false := by cases sm <;> first | rfl | exact absurd rfl hn
        simp only [RepAV, cx]
        exact RepSX.congr (μ := μ) (by simp only [μ3, Mu.back, hh]; rfl) (by simp only [μ3, Mu.back, hh]; rfl) h
  have hback0 : ∀ x v, RepSX μ2 (A0.hand w0 μ w ρ lm sm).keep x v → RepAV (cx A0 w0 (unview st ρ lm sm S).recs (unview st ρ lm sm S).lsts w' μ3) (sm.back x) v := by
    intro x v h
    have kp : ∀ y : SX, sm = .keep y → v = (A0.hand w0 μ w ρ lm sm).keep → RepAV (cx A0 w0 (unview st ρ lm sm S).recs (unview st ρ lm sm S).lsts w' μ3) (.sx y) v := by
      intro y hy hv
      have h3 := hsm y hy
      simp only [Dom.hand] at hv
      rw [← hv] at h3
      simp only [RepAV, cx]
      subst hy
      exact RepSX.congr (μ := μ) (by simp [μ3, Mu.back, SM.isHand]) (by simp [μ3, Mu.back, SM.isHand]) h3
    unfold SM.back
    split
    · simp only [RepAV, RepSX, cx] at h ⊢
      obtain ⟨cap, g1, g2, g3⟩ := h
      refine ⟨cap, by simp [μ3, Mu.back, SM.isHand, g1], ?_, by simpa [μ3, Mu.back, SM.isHand] using g3⟩
      rw [g2]; unfold hdrV; simp [μ3, Mu.back, SM.isHand]
    · exact kp _ rfl h.1
    · exact kp _ rfl h.1
    · exact kp _ rfl h.1
    · simp only [RepAV]
  have hren2 : (cx (A0.hand w0 μ w ρ lm sm) w0 S.recs S.lsts w' μ2).Ren (cx A0 w0 (unview st ρ lm sm S).recs (unview st ρ lm sm S).lsts w' μ3) (fun i => some (backN ρ st.recs.length i)) (fun i => some (backN lm st.lsts.length i)) sm.back := by
    refine ⟨hA2, fun _ _ => rfl, fun i r' hi he => ?_, fun i t' hi he => ?_, hback0⟩
    · cases he
      have hsr := src_back (i := i) hρ hltr
      have hb : backN ρ st.recs.length i < st.recs.length + (S.recs.length - ρ.length) := back_lt hltr hi
      refine ⟨by simp only [cx, unview, List.length_map, List.length_range]; exact hb, fun hsome => ?_⟩
      simp only [cx] at hsome ⊢
      rw [hgr, if_pos hb] at hsome
      obtain ⟨c', hsome⟩ := Option.isSome_iff_exists.1 hsome
      have g : ∃ c2, getL S.recs i = some c2 := by
        rcases newRecs_some hsome with ⟨i', c2, g1, g2, _⟩ | ⟨g1, _⟩
        · rw [hsr] at g1; cases g1; exact ⟨c2, g2⟩
        · rw [hsr] at g1; cases g1
      obtain ⟨c2, g2⟩ := g
      exact ⟨by rw [g2]; rfl, by simp only [μ3, Mu.back, hsr]⟩
    · cases he
      have hsr := src_back (i := i) hlm hltl
      have hb : backN lm st.lsts.length i < st.lsts.length + (S.lsts.length - lm.length) := back_lt hltl hi
      refine ⟨by simp only [cx, unview, List.length_map, List.length_range]; exact hb, fun o' ho => ?_⟩
      simp only [cx] at ho ⊢
      rw [hgl, if_pos hb] at ho
      unfold newLsts at ho
      rw [hsr] at ho
      exact ⟨o', ho, rfl, rfl, by simp only [μ3, Mu.back, hsr], by simp only [μ3, Mu.back, hsr]⟩
  refine ⟨μ3, ⟨hs.slots.ren hren, ?_, ?_, ?_, ?_, hm2.below, ?_, ?_, ?_, ?_, hm.gi, ?_, ?_, ?_⟩, h2.slots.ren hren2⟩
  · intro j cells h hk
    rw [hgr] at h
    split at h
    · rcases newRecs_some h with ⟨i, c0, hsr, h1, hk1, rfl⟩ | ⟨hsr, c0, h1, hk1, rfl⟩
      · obtain ⟨b, vs', hb, ho, hv⟩ := hm2.hrec i c0 h1 hk1
        exact ⟨b, vs', by simp only [μ3, Mu.back, hsr]; exact hb, ho, hv.ren hren2⟩
      · obtain ⟨b, vs', hb, ho, hv⟩ := hm.hrec j c0 h1 (by
          cases hk2 : isMark c0 with
          | false => rfl
          | true =>
            obtain ⟨l, rfl⟩ := isMark_some hk2
            have := hk1 hk2
            cases sm <;> simp [SM.isHand] at this <;> simp [renL, AV.ren, SM.old, isMark] at hk)
        exact ⟨b, vs', by simp only [μ3, Mu.back, hsr]; exact hb, ho.ext (hF b (hFold (x := .r j) (src_none hsr).2 hb)).2.1, hv.ren hren⟩
    · cases h
  · intro j o h
    rw [hgl] at h
    split at h
    · unfold newLsts at h
      cases hsr : srcN lm st.lsts.length j with
      | some i =>
        rw [hsr] at h
        rcases hm2.hlst i o h with ⟨h3, h4⟩ | ⟨b, vs', hb, ho, hsz, hc, us, rest, e, hr⟩
        · exact .inl ⟨by simp only [cx, μ3, Mu.back, hsr]; exact h3, h4⟩
        · exact .inr ⟨b, vs', by simp only [cx, μ3, Mu.back, hsr]; exact hb, ho, by simp only [cx, μ3, Mu.back, hsr]; exact hsz, by simp only [cx, μ3, Mu.back, hsr]; exact hc, us, rest, e, hr.imp fun x u hx => hx.mono hA2 fun _ _ => rfl⟩
      | none =>
        rw [hsr] at h
        rcases hm.hlst j o h with ⟨h3, h4⟩ | ⟨b, vs', hb, ho, hsz, hc, us, rest, e, hr⟩
        · exact .inl ⟨by simp only [cx, μ3, Mu.back, hsr]; exact h3, h4⟩
        · exact .inr ⟨b, vs', by simp only [cx, μ3, Mu.back, hsr]; exact hb, ho.ext (hF b (hFold (x := .l j) (src_none hsr).2 hb)).2.1, by simp only [cx, μ3, Mu.back, hsr]; exact hsz, by simp only [cx, μ3, Mu.back, hsr]; exact hc, us, rest, e,
            hr.imp fun x u hx => hx.mono hA fun b hb => (hF b (.inr (.inl hb))).2.1⟩
    · cases h
  · intro x b hx
    rcases hsrc hx with ⟨i, hi, hxi⟩ | ⟨hx, hold, hsr⟩
    · obtain ⟨g1, g2, g3⟩ := hm2.live i b hi
      refine ⟨g1, g2, ?_⟩
      cases x <;> cases i <;> simp only at hxi g3 ⊢
      · rename_i j i
        obtain ⟨c, hc⟩ := Option.isSome_iff_exists.1 g3
        have hb := back_lt (ρ := ρ) hltr (getL_lt hc)
        rw [back_src hxi] at hb
        rw [hgr, if_pos hb]
        exact newRecs_src hxi hc (hm2.plain hc hi)
      · rename_i j i
        obtain ⟨c, hc⟩ := Option.isSome_iff_exists.1 g3
        have hb := back_lt (ρ := lm) hltl (getL_lt hc)
        rw [back_src hxi] at hb
        rw [hgl, if_pos hb]
        unfold newLsts; rw [hxi]; dsimp only; rw [hc]; rfl
      · simp only [μ3, Mu.back, hxi.2, if_true]; simpa using g3
    · obtain ⟨g1, g2, g3⟩ := hm.live x b hx
      refine ⟨g1, (hF b (hFold hold hx)).1, ?_⟩
      cases x <;> simp only at hsr g3 ⊢
      · have := (src_none hsr).1
        rw [hgr, if_pos (by omega)]
        obtain ⟨c, hc⟩ := Option.isSome_iff_exists.1 g3
        exact newRecs_old hsr hc (hm.plain hc hx)
      · have := (src_none hsr).1
        rw [hgl, if_pos (by omega)]
        unfold newLsts; rw [hsr]; exact g3
      · simp only [μ3, Mu.back, hsr]; exact g3
  · intro x y b hx hy
    rcases hsrc hx with ⟨i, hi, hxi⟩ | ⟨hx, hold, hsr⟩ <;> rcases hsrc hy with ⟨i', hi', hyi⟩ | ⟨hy, hold', hsr'⟩
    · have e := hm2.inj _ _ _ hi hi'
      subst e
      cases x <;> cases y <;> cases i <;> simp only at hxi hyi
      · have := back_src hxi; have := back_src hyi; simp_all
      · have := back_src hxi; have := back_src hyi; simp_all
      · rw [hxi.1, hyi.1]
    · exact absurd hi ((hF b (hFold hold' hy)).2.2 i)
    · exact absurd hi' ((hF b (hFold hold hx)).2.2 i')
    · exact hm.inj _ _ _ hx hy
  · intro b hb
    obtain ⟨g1, g2, g3⟩ := hm.fr b hb
    have hf := hF b (.inl hb)
    refine ⟨hf.1, by rw [hf.2.1]; exact g2, fun x hx => ?_⟩
    rcases hsrc hx with ⟨i, hi, _⟩ | ⟨hx, _⟩
    · exact hf.2.2 i hi
    · exact g3 x hx
  · intro b hb
    obtain ⟨g1, g3⟩ := hm.xo b hb
    obtain ⟨k1, k3⟩ := hm2.xo b (.inl hb)
    refine ⟨k1, fun x hx => ?_⟩
    rcases hsrc hx with ⟨i, hi, _⟩ | ⟨hx, _⟩
    · exact k3 i hi
    · exact g3 x hx
  · have := hm.np; simp only [unview, List.length_map, List.length_range]; omega
  · intro r b hb
    obtain ⟨g1, g2⟩ := hm.pins r b hb
    refine ⟨g1, fun hsome => ?_⟩
    obtain ⟨g3, g4⟩ := (hren.r r r (Nat.lt_of_lt_of_le g1 hm.np) rfl).2 hsome
    exact g4.trans (g2 g3)
  · constructor
    · intro j cells h hbl b hb
      rw [hgr] at h
      split at h
      · rcases newRecs_some h with ⟨i, c0, hsr, h1, hk1, rfl⟩ | ⟨hsr, c0, h1, hk1, rfl⟩
        · exact hm2.bty.r i c0 h1 (renL_bld (back_nobld sm) hbl) b (by simpa only [μ3, Mu.back, hsr] using hb)
        · have hb' : μ.at_ (.r j) = some b := by simpa only [μ3, Mu.back, hsr] using hb
          obtain ⟨vs', hv⟩ := hm.bty.r j c0 h1 (renL_bld (old_nobld sm) hbl) b hb'
          exact ⟨vs', (hF b (hFold (x := .r j) (src_none hsr).2 hb')).2.1.trans hv⟩
      · cases h
    · intro j o h he8 b hb
      rw [hgl] at h
      split at h
      · unfold newLsts at h
        cases hsr : srcN lm st.lsts.length j with
        | some i =>
          rw [hsr] at h
          exact hm2.bty.l i o h he8 b (by simpa only [μ3, Mu.back, hsr] using hb)
        | none =>
          rw [hsr] at h
          have hb' : μ.at_ (.l j) = some b := by simpa only [μ3, Mu.back, hsr] using hb
          obtain ⟨vs', hv⟩ := hm.bty.l j o h he8 b hb'
          exact ⟨vs', (hF b (hFold (x := .l j) (src_none hsr).2 hb')).2.1.trans hv⟩
      · cases h
  · intro j cells h
    rw [hgr] at h
    split at h
    · rcases newRecs_some h with ⟨i, c0, hsr, h1, hk1, e⟩ | ⟨hsr, c0, h1, hk1, e⟩
      · obtain ⟨y, l', _, hy, _⟩ := renL_mark e.symm
        exact absurd hy (back_nomark sm y)
      · obtain ⟨y, l', rfl, hy, rfl⟩ := renL_mark e.symm
        obtain ⟨rfl, hh⟩ := old_mark sm y hy
        exact (hm.htop j l' h1).imp (c := cx A0 w0 st.recs st.lsts w μ) (by simp [cx, μ3, Mu.back, hh]) (by simp [cx, μ3, Mu.back, hh]) (fun b hb => (hF b (hFold (x := .n 0) hh hb)).2.1) fun us hu => hu.ren hren
    · cases h
  · intro d hd
    cases hh : sm.isHand with
    | true =>
      simp only [μ3, Mu.back, hh, if_true, Option.map_eq_some_iff] at hd
      obtain ⟨d0, hd0, rfl⟩ := hd
      have hdeep := hm2.deep d0 hd0
      have hn : ∀ k, μ3.at_ (.n k) = μ2.at_ (.n k) := fun k => by simp [μ3, Mu.back, hh]
      have h1 : (cx (A0.hand w0 μ w ρ lm sm) w0 S.recs S.lsts w' μ2).Deep1 (cx A0 w0 (unview st ρ lm sm S).recs (unview st ρ lm sm S).lsts w' μ3) := ⟨hA2, fun _ _ => rfl, fun k _ => hn k, fun _ _ _ _ => rfl⟩
      refine ⟨fun r hr => (by cases hr), fun k b hk => hdeep.lim k b (by rw [← hk]; exact (hn k).symm), ?_⟩
      rcases hdeep.row with ⟨g2, g3, g4⟩ | ⟨b, vs, pre, rest, g2, g3, g4, g5, g6, g7⟩
      · exact .inl ⟨(hn 0).trans g2, g3, rfl⟩
      · exact .inr ⟨b, vs, pre, rest, (hn 0).trans g2, g3, g4, by simp; omega, g6, g7.mono h1⟩
    | false =>
      have hn : ∀ k, μ3.at_ (.n k) = μ.at_ (.n k) := fun k => by simp [μ3, Mu.back, hh]
      have hdp : μ3.dp = μ.dp := by simp [μ3, Mu.back, hh]
      rw [hdp] at hd
      refine (hm.deep d hd).mono (c := cx A0 w0 st.recs st.lsts w μ) (c' := cx A0 w0 (unview st ρ lm sm S).recs (unview st ρ lm sm S).lsts w' μ3) ⟨hA, fun b hb => (hF b (.inr (.inl hb))).2.1, hn, fun k b hb => (hF b (hFold (x := .n k) hh hb)).2.1, by simp only [cx, unview, List.length_map, List.length_range]; omega, fun r hr h => ?_⟩
      cases hsr : srcN ρ st.recs.length r with
      | none => simp only [cx, μ3, Mu.back, hsr]; exact h
      | some i =>
        exfalso
        have hρi : ρ[i]? = some r := by
          unfold srcN at hsr
          split at hsr
          · rename_i i' hi'; cases hsr; exact idx_some hi'
          · split at hsr
            · cases hsr
            · rename_i hb
              have hr' : r < st.recs.length := hr
              rw [show Nat.blt r st.recs.length = true by simpa [Nat.blt_eq] using hr'] at hb; cases hb
        obtain ⟨hlive, hunm⟩ := allSome_get hall hρi
        obtain ⟨c, hc⟩ := Option.isSome_iff_exists.1 hlive
        obtain ⟨b, _, hb, _⟩ := hm.hrec r c hc (hunm c hc)
        have h : μ.at_ (.r r) = none := h
        rw [h] at hb; cases hb

theorem findC_some : ∀ {c : List AV} {x : SX}, findC c = some x → AV.sx x ∈ c ∧ (SM.keep x).back .same = .sx x
  | [], _, h => by simp [findC] at h
  | v :: l, x, h => by
    unfold findC at h
    split at h
    · rename_i e; cases e
    · rename_i e; cases e; cases h; exact ⟨by simp, rfl⟩
    · rename_i e; cases e; cases h; exact ⟨by simp, rfl⟩
    · rename_i e; cases e; cases h; exact ⟨by simp, rfl⟩
    · rename_i e; cases e
      obtain ⟨h1, h2⟩ := findC_some h
      exact ⟨by simp [h1], h2⟩
theorem findR_some {recs : List (Option (List AV))} : ∀ {ρ : List Nat} {x : SX}, findR recs ρ = some x → ∃ (i r : Nat) (c : List AV), ρ[i]? = some r ∧ getL recs r = some c ∧ AV.sx x ∈ c ∧ (SM.keep x).back .same = .sx x
  | [], _, h => by simp [findR] at h
  | r :: ρ, x, h => by
    have tl : findR recs ρ = some x → ∃ (i r' : Nat) (c : List AV), (r :: ρ)[i]? = some r' ∧ getL recs r' = some c ∧ AV.sx x ∈ c ∧ (SM.keep x).back .same = .sx x := fun h => by
      obtain ⟨i, r', c, h1, h2, h3, h4⟩ := findR_some h
      exact ⟨i + 1, r', c, by simpa using h1, h2, h3, h4⟩
    unfold findR at h
    split at h
    · rename_i c hc
      split at h
      · rename_i y hy
        cases h
        obtain ⟨h1, h2⟩ := findC_some hy
        exact ⟨0, r, c, rfl, hc, h1, h2⟩
      · exact tl h
    · exact tl h
theorem RepAVs.mem {c : Cx} : ∀ {l : List AV} {us : List Value} {v : AV}, RepAVs c l us → v ∈ l → ∃ u, RepAV c v u
  | [], _, _, _, h => by simp at h
  | x :: l, us, v, hr, h => by
    obtain ⟨u, us', rfl, h1, h2⟩ := hr.cons'
    rcases List.mem_cons.1 h with rfl | h
    · exact ⟨u, h1⟩
    · exact h2.mem h
theorem fixSM_ok {tmps : Array Value} (hs : Sim A0 w0 st tmps w μ) {ρ : List Nat} {sm : SM} (hall : allSome st.recs ρ = true) : SmOk A0 μ (fixSM st.recs ρ sm) := by
  intro x h
  rw [h]
  unfold fixSM at h
  split at h
  · split at h
    · rename_i y hy
      cases h
      obtain ⟨i, r, c, h1, h2, h3, h4⟩ := findR_some hy
      obtain ⟨b, vs, _, _, hv⟩ := hs.mem.hrec r c h2 ((allSome_get hall h1).2 c h2)
      obtain ⟨u, hu⟩ := hv.mem h3
      simp only [RepAV, cx] at hu
      rw [← keepV_eq hu h4]; exact hu
    · cases h
  · rename_i hn; exact absurd h (hn x)
theorem retVal_rep {c : Cx} {l : List AV} {us : List Value} (h : RepAVs c l us) : RepAV c (resVal l) (retVal us) := by
  have hl := h.length
  unfold resVal retVal
  split
  · obtain ⟨v, rfl, hv⟩ := h.one'
    simpa using hv
  · rename_i hne
    have : ¬ us.toArray.size = 1 := by
      intro e
      simp at e
      rw [hl] at e
      match l, e with
      | [v], _ => exact hne v rfl
    rw [dif_neg this]
    simp only [RepAV]
    exact ⟨_, rfl, by simpa using h⟩

variable {a : Act} {S : Type} {ε : Env}
theorem hand_run (hε : EnvOk P ε) (hs : Sim A0 w0 st a.tmps w μ) {f : Nat} {g : Operand} {args : List Operand} {pre post : Array Value} (hg : a.eval g = .func (.func f) pre post) (K : AV → St → Option S) (r : S) :
    ∀ l : List HF, (∀ h ∈ l, SoundH P f h) → evHands st (callArgs g args) K l = some r →
    ∃ av st', K av st' = some r ∧ (∃ fn, P.funcs[f]? = some fn ∧ (fn.name == "runtime.NumGoroutine") = false ∧ fn.body.isSome = true) ∧
      Calls P f (pre.toList ++ args.map a.eval ++ post.toList).toArray w fun e w' => ∃ v, e = .returned v ∧ Post A0 w0 a.tmps av st' v w'
  | [], _, h => by simp [evHands] at h
  | hf :: l, hl, h => by
    unfold evHands at h
    split at h
    · rename_i m hm
      rw [Option.bind_eq_some_iff] at h
      obtain ⟨as, has, h⟩ := h
      obtain ⟨μ1, hs1, _⟩ := Sim.freeze m.fz hs
      generalize st.freeze m.fz = st1 at h has hs1
      unfold evHand at h
      split at h
      · cases h
      · rename_i hchk
        simp only [Bool.and_eq_true] at hchk
        obtain ⟨⟨⟨⟨c1, c2⟩, c3⟩, c4⟩, c5⟩ := hchk
        simp only [Option.bind_eq_some_iff] at h
        obtain ⟨y, hy, o, ho, h⟩ := h
        have hargs : RepAVs (cx A0 w0 st1.recs st1.lsts w μ1) as (pre.toList ++ args.map a.eval ++ post.toList) := by
          unfold callArgs at has
          split at has
          · rename_i f' x y hev
            cases has
            have := ev_rep hs1.slots g
            rw [hev, hg] at this
            simp only [RepAV] at this
            obtain ⟨a', b', e, h1, h2⟩ := this
            cases e
            exact (h1.append (evs_rep hs1.slots args)).append h2
          · cases has
        obtain ⟨hfn, hS⟩ := hl hf (by simp)
        have hv := abs_sound (view_sim hs1 hargs (ρ := m.ρ) (lm := m.lm) (fixSM st1.recs m.ρ m.sm) c1 c2 fun i r c h1 h2 => (allSome_get c3 h1).2 c h2) (Nat.le_of_ble_eq_true c5) hy
        refine ⟨_, _, h, hfn, (hS y o ho _ w0 w _ _ hv).mono fun e w' ⟨us, μ', he, h2⟩ => ?_⟩
        obtain ⟨μ3, h3, h4⟩ := unview_sim (tmps := a.tmps) hs1 (fixSM_ok hs1 c3) c1 c2 c3 c4 h2
        exact ⟨_, he, μ3, retVal_rep (by simpa using h4), h3⟩
    · exact hand_run hε hs hg K r l (fun h hh => hl h (by simp [hh])) h
theorem handP_run (hε : EnvOk P ε) (hs : Sim A0 w0 st a.tmps w μ) {f : Nat} {g : Operand} {args : List Operand} {pre post : Array Value} (hg : a.eval g = .func (.func f) pre post) (K Z : AV → St → Option S) (r : S) :
    ∀ l : List PF, (∀ h ∈ l, SoundP P f h) → evHandsP st (callArgs g args) K Z l = some r →
    ∃ av st', (∃ fn, P.funcs[f]? = some fn ∧ (fn.name == "runtime.NumGoroutine") = false ∧ fn.body.isSome = true) ∧
      ((K av st' = some r ∧ Calls P f (pre.toList ++ args.map a.eval ++ post.toList).toArray w fun e w' => ∃ v, e = .returned v ∧ Post A0 w0 a.tmps av st' v w') ∨
        (Z av st' = some r ∧ Calls P f (pre.toList ++ args.map a.eval ++ post.toList).toArray w fun e w' => ∃ v, e = .panicked [{ v := v, recovered := false }] ∧ Post A0 w0 a.tmps av st' v w'))
  | [], _, h => by simp [evHandsP] at h
  | hf :: l, hl, h => by
    unfold evHandsP at h
    split at h
    · rename_i m hm
      rw [Option.bind_eq_some_iff] at h
      obtain ⟨as, has, h⟩ := h
      obtain ⟨μ1, hs1, _⟩ := Sim.freeze m.fz hs
      generalize st.freeze m.fz = st1 at h has hs1
      unfold evHandP at h
      split at h
      · cases h
      · rename_i hchk
        simp only [Bool.and_eq_true] at hchk
        obtain ⟨⟨⟨⟨c1, c2⟩, c3⟩, c4⟩, c5⟩ := hchk
        simp only [Option.bind_eq_some_iff] at h
        obtain ⟨y, hy, o, ho, h⟩ := h
        have hargs : RepAVs (cx A0 w0 st1.recs st1.lsts w μ1) as (pre.toList ++ args.map a.eval ++ post.toList) := by
          unfold callArgs at has
          split at has
          · rename_i f' x y hev
            cases has
            have := ev_rep hs1.slots g
            rw [hev, hg] at this
            simp only [RepAV] at this
            obtain ⟨a', b', e, h1, h2⟩ := this
            cases e
            exact (h1.append (evs_rep hs1.slots args)).append h2
          · cases has
        obtain ⟨hfn, hS⟩ := hl hf (by simp)
        have hv := abs_sound (view_sim hs1 hargs (ρ := m.ρ) (lm := m.lm) (fixSM st1.recs m.ρ m.sm) c1 c2 fun i r c h1 h2 => (allSome_get c3 h1).2 c h2) (Nat.le_of_ble_eq_true c5) hy
        have hc := hS y o ho _ w0 w _ _ hv
        cases o with
        | inl o =>
          refine ⟨_, _, hfn, .inl ⟨h, hc.mono fun e w' ⟨us, μ', he, h2⟩ => ?_⟩⟩
          obtain ⟨μ3, h3, h4⟩ := unview_sim (tmps := a.tmps) hs1 (fixSM_ok hs1 c3) c1 c2 c3 c4 h2
          exact ⟨_, he, μ3, retVal_rep (by simpa using h4), h3⟩
        | inr z =>
          refine ⟨_, _, hfn, .inr ⟨h, hc.mono fun e w' ⟨v, μ', he, h2⟩ => ?_⟩⟩
          obtain ⟨μ3, h3, h4⟩ := unview_sim (tmps := a.tmps) hs1 (fixSM_ok hs1 c3) c1 c2 c3 c4 h2
          have h5 := retVal_rep (us := [v]) (by simpa using h4)
          exact ⟨v, he, μ3, h5, h3⟩
    · exact handP_run hε hs hg K Z r l (fun h hh => hl h (by simp [hh])) h
end
end Go.Pe
