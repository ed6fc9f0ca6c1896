/- Texts of the proof, what is used of them: HandS, Ops7, Draw, Draw2, Draw3. -/
import Derived.OrdersIn
import Derived.Test.YtnbjnnnmoadpcaaGreatDoorPeZSReads2
section
namespace Go.Pe
open Go.RowKit
set_option linter.unusedSectionVars false
variable [GI]
set_option linter.unusedSimpArgs false
set_option linter.unusedVariables false

theorem idx_some {n : Nat} : ∀ {l : List Nat} {i : Nat}, idx n l = some i → l[i]? = some n
  | [], _, h => by simp [idx] at h
  | m :: l, i, h => by
    simp only [idx] at h
    split at h
    · rename_i e; cases h; simp [Nat.eq_of_beq_eq_true e]
    · rw [Option.map_eq_some_iff] at h
      obtain ⟨j, hj, rfl⟩ := h
      simpa using idx_some hj
theorem idx_of {n : Nat} : ∀ {l : List Nat} {i : Nat}, nodupB l = true → l[i]? = some n → idx n l = some i
  | [], i, _, h => by simp at h
  | m :: l, 0, hn, h => by
    simp only [List.getElem?_cons_zero, Option.some.injEq] at h
    subst h; simp [idx]
  | m :: l, i + 1, hn, h => by
    simp only [List.getElem?_cons_succ] at h
    simp only [nodupB, Bool.and_eq_true] at hn
    have ih := idx_of hn.2 h
    simp only [idx]
    split
    · rename_i e
      have e := Nat.eq_of_beq_eq_true e
      subst e
      rw [ih] at hn; simp at hn
    · rw [ih]; rfl
theorem getL_mapN {α β : Type} {f : α → Option β} (l : List α) (i : Nat) : getL (l.map f) i = (l[i]?).bind f := by
  unfold getL
  rw [List.getElem?_map]
  cases h : l[i]? with
  | none => rfl
  | some a =>
    simp only [Option.map_some, Option.bind_some]
    cases h2 : f a <;> rfl
theorem getL_range {β : Type} {f : Nat → Option β} (n i : Nat) : getL ((List.range n).map f) i = if i < n then f i else none := by
  rw [getL_mapN]
  split
  · rename_i h; simp [h]
  · rename_i h; simp [h]
theorem allSome_get {l : List (Option (List AV))} : ∀ {ρ : List Nat} {i r : Nat}, allSome l ρ = true → ρ[i]? = some r → (getL l r).isSome = true ∧ ∀ c, getL l r = some c → isMark c = false
  | [], _, _, _, h => by simp at h
  | m :: ρ, 0, r, ha, h => by
    simp only [List.getElem?_cons_zero, Option.some.injEq] at h
    simp only [allSome, Bool.and_eq_true] at ha
    subst h
    have := ha.1
    split at this
    · rename_i c hc
      exact ⟨by rw [hc]; rfl, fun c' hc' => by rw [hc] at hc'; cases hc'; simpa using this⟩
    · cases this
  | m :: ρ, i + 1, r, ha, h => by
    simp only [allSome, Bool.and_eq_true] at ha
    exact allSome_get ha.2 (by simpa using h)
theorem allLt_get {n : Nat} : ∀ {ρ : List Nat} {i r : Nat}, allLt n ρ = true → ρ[i]? = some r → r < n
  | [], _, _, _, h => by simp at h
  | m :: ρ, 0, r, ha, h => by
    simp only [List.getElem?_cons_zero, Option.some.injEq] at h
    simp only [allLt, Bool.and_eq_true] at ha
    subst h; simpa [Nat.blt_eq] using ha.1
  | m :: ρ, i + 1, r, ha, h => by
    simp only [allLt, Bool.and_eq_true] at ha
    exact allLt_get ha.2 (by simpa using h)

theorem src_back {ρ : List Nat} {n i : Nat} (hd : nodupB ρ = true) (hlt : ∀ j r : Nat, ρ[j]? = some r → r < n) : srcN ρ n (backN ρ n i) = some i := by
  unfold backN
  split
  · rename_i r h
    unfold srcN; rw [idx_of hd h]
  · rename_i h
    have hi : ρ.length ≤ i := by simpa using h
    unfold srcN
    split
    · rename_i j hj
      have := hlt j _ (idx_some hj)
      omega
    · split
      · rename_i hb
        have : n + (i - ρ.length) < n := by simpa [Nat.blt_eq] using hb
        omega
      · congr 1; omega
theorem back_src {ρ : List Nat} {n i j : Nat} (h : srcN ρ n j = some i) : backN ρ n i = j := by
  unfold srcN at h
  split at h
  · rename_i i' hi; cases h
    unfold backN; rw [idx_some hi]
  · split at h
    · cases h
    · rename_i hi hb
      cases h
      have hb : ¬ j < n := by intro e; rw [show Nat.blt j n = true by simpa [Nat.blt_eq] using e] at hb; cases hb
      unfold backN
      rw [List.getElem?_eq_none (by omega)]
      dsimp only; omega
theorem src_none {ρ : List Nat} {n j : Nat} (h : srcN ρ n j = none) : j < n ∧ idx j ρ = none := by
  unfold srcN at h
  split at h
  · cases h
  · rename_i hi
    split at h
    · rename_i hb; exact ⟨by simpa [Nat.blt_eq] using hb, hi⟩
    · cases h
theorem src_old {ρ : List Nat} {n j : Nat} (h1 : j < n) (h2 : idx j ρ = none) : srcN ρ n j = none := by
  unfold srcN; rw [h2]; dsimp only
  rw [show Nat.blt j n = true by simpa [Nat.blt_eq] using h1]
theorem back_lt {ρ : List Nat} {n i k : Nat} (hlt : ∀ j r : Nat, ρ[j]? = some r → r < n) (hi : i < k) : backN ρ n i < n + (k - ρ.length) := by
  unfold backN
  split
  · rename_i r h; have := hlt _ _ h; omega
  · rename_i h
    have : ρ.length ≤ i := by simpa using h
    omega

section
variable {P : Program} {A0 : Dom} {w0 w : World} {st : St} {μ : Mu}

def old (ρ lm : List Nat) (sm : SM) : Loc → Prop
  | .r r => idx r ρ = none
  | .l t => idx t lm = none
  | .n _ => sm.isHand = false
def keepV (A0 : Dom) (μ : Mu) : SM → Value
  | .keep (.stk _) => (match μ.dp with | some d => hdrV μ d.fs.length d.cap | none => .bool false)
  | .keep (.foc _ _) => (match μ.dp with | some d => hdrV μ (d.fs.length + 1) d.cap | none => .bool false)
  | .keep .same => A0.keep
  | _ => .bool false
theorem keepV_eq {A0 : Dom} {μ : Mu} {x : SX} {v : Value} (h : RepSX μ A0.keep x v) (hx : (SM.keep x).back .same = .sx x) : v = keepV A0 μ (.keep x) := by
  cases x <;> simp only [SM.back] at hx <;> try (cases hx; done)
  · simp only [RepSX] at h; obtain ⟨cap, h1, rfl, _⟩ := h; simp only [keepV, h1]
  · simp only [RepSX] at h; obtain ⟨cap, b, h1, h2, rfl, _⟩ := h; simp only [keepV, h1, hdrV, h2]
  · exact h.1
def SmOk (A0 : Dom) (μ : Mu) (sm : SM) : Prop := ∀ x, sm = .keep x → RepSX μ A0.keep x (keepV A0 μ sm)
def Dom.hand (A0 : Dom) (w0 : World) (μ : Mu) (w : World) (ρ lm : List Nat) (sm : SM) : Dom where
  A := A0.A
  F b := A0.F b ∨ Imm A0 w0 μ w b ∨ ∃ x, old ρ lm sm x ∧ μ.at_ x = some b
  X b := A0.X b ∨ ∃ x, old ρ lm sm x ∧ μ.at_ x = some b
  wF := w
  pin i := (ρ[i]?).bind fun r => μ.at_ (.r r)
  np := ρ.length
  keep := keepV A0 μ sm
  pinl i := (lm[i]?).bind fun t => μ.at_ (.l t)
  nl := lm.length
def Mu.hand (μ : Mu) (ρ lm : List Nat) (sm : SM) : Mu where
  at_ := fun x => match x with
    | .r i => (ρ[i]?).bind fun r => μ.at_ (.r r)
    | .l i => (lm[i]?).bind fun t => μ.at_ (.l t)
    | .n k => if sm.isHand = true then μ.at_ (.n k) else none
  cap i := match lm[i]? with | some t => μ.cap t | none => 0
  dp := if sm.isHand = true then μ.dp.map (fun d => ⟨none, d.cap, d.fs⟩) else none

def PairN (ρ lm : List Nat) : Loc → Loc → Prop
  | .r i, .r r => ρ[i]? = some r
  | .l i, .l t => lm[i]? = some t
  | .n i, .n k => i = k
  | _, _ => False
theorem hand_src {ρ lm : List Nat} {sm : SM} (h1 : nodupB ρ = true) (h2 : nodupB lm = true) {x : Loc} {b : Nat} (h : (μ.hand ρ lm sm).at_ x = some b) : ∃ y, μ.at_ y = some b ∧ ¬ old ρ lm sm y ∧ PairN ρ lm x y := by
  cases x with
  | n k =>
    simp only [Mu.hand] at h
    split at h
    · rename_i hs
      exact ⟨.n k, h, by simp [old, hs], rfl⟩
    · cases h
  | r i =>
    simp only [Mu.hand, Option.bind_eq_some_iff] at h
    obtain ⟨r, h3, h4⟩ := h
    exact ⟨.r r, h4, by simp [old, idx_of h1 h3], h3⟩
  | l i =>
    simp only [Mu.hand, Option.bind_eq_some_iff] at h
    obtain ⟨r, h3, h4⟩ := h
    exact ⟨.l r, h4, by simp [old, idx_of h2 h3], h3⟩

theorem ren_bld {fr fl : Nat → Option Nat} {fx : SX → AV} (hf : ∀ x r, fx x ≠ .bld r) {x : AV} {r : Nat} (h : x.ren fr fl fx = .bld r) : ∃ r', x = .bld r' := by
  cases x <;> simp only [AV.ren] at h <;> first | exact ⟨_, rfl⟩ | (exact absurd h (hf _ _)) | (cases h; done) | (split at h <;> cases h)
theorem renL_bld {fr fl : Nat → Option Nat} {fx : SX → AV} (hf : ∀ x r, fx x ≠ .bld r) : ∀ {l : List AV}, isBld (renL fr fl fx l) = true → isBld l = true
  | [], h => by simp [renL, isBld] at h
  | x :: l, h => by
    obtain ⟨r, l', e⟩ := isBld_some h
    simp only [renL, List.cons.injEq] at e
    obtain ⟨r', rfl⟩ := ren_bld hf e.1
    rfl
theorem ren_mark {fr fl : Nat → Option Nat} {fx : SX → AV} {x : AV} (h : x.ren fr fl fx = .sx .mark) : ∃ y, x = .sx y ∧ fx y = .sx .mark := by
  cases x <;> simp only [AV.ren] at h <;> first | exact ⟨_, rfl, h⟩ | (cases h; done) | (split at h <;> cases h)
theorem renL_mark {fr fl : Nat → Option Nat} {fx : SX → AV} : ∀ {l : List AV} {c : List AV}, renL fr fl fx l = .sx .mark :: c → ∃ y l', l = .sx y :: l' ∧ fx y = .sx .mark ∧ c = renL fr fl fx l'
  | [], _, h => by simp [renL] at h
  | x :: l, c, h => by
    simp only [renL, List.cons.injEq] at h
    obtain ⟨y, rfl, hy⟩ := ren_mark h.1
    exact ⟨y, l, rfl, hy, h.2.symm⟩
theorem view_nobld (sm : SM) (x : SX) (r : Nat) : sm.view x ≠ .bld r := by
  unfold SM.view; split <;> simp
theorem back_nobld (sm : SM) (x : SX) (r : Nat) : sm.back x ≠ .bld r := by
  unfold SM.back; split <;> simp
theorem old_nobld (sm : SM) (x : SX) (r : Nat) : sm.old x ≠ .bld r := by
  unfold SM.old; split <;> simp
theorem view_nomark (sm : SM) (x : SX) : sm.view x ≠ .sx .mark := by
  unfold SM.view; split <;> simp
theorem back_nomark (sm : SM) (x : SX) : sm.back x ≠ .sx .mark := by
  unfold SM.back; split <;> simp
theorem old_mark (sm : SM) (x : SX) (h : sm.old x = .sx .mark) : x = .mark ∧ sm.isHand = false := by
  unfold SM.old at h; split at h
  · cases h
  · rename_i hn; cases h; exact ⟨rfl, by cases sm <;> first | rfl | exact absurd rfl hn⟩

theorem hand_dp {ρ lm : List Nat} {sm : SM} (h : sm.isHand = true) : (μ.hand ρ lm sm).dp = μ.dp.map fun d => ⟨none, d.cap, d.fs⟩ := by simp [Mu.hand, h]
theorem hand_n {ρ lm : List Nat} {sm : SM} (h : sm.isHand = true) (k : Nat) : (μ.hand ρ lm sm).at_ (.n k) = μ.at_ (.n k) := by simp [Mu.hand, h]
theorem view_sx {ρ lm : List Nat} {sm : SM} {recs' : List (Option (List AV))} {lsts' : List (Option LObj)} {x : SX} {v : Value} (h : RepSX μ A0.keep x v) : RepAV (cx (A0.hand w0 μ w ρ lm sm) w0 recs' lsts' w (μ.hand ρ lm sm)) (sm.view x) v := by
  have h1 := h.one
  unfold SM.view
  split
  · simp only [RepAV, RepSX, cx] at h ⊢
    obtain ⟨cap, h1, h2, h3⟩ := h
    refine ⟨cap, by rw [hand_dp rfl, h1]; rfl, ?_, by rw [hand_n rfl]; exact h3⟩
    rw [h2]; unfold hdrV; rw [hand_n rfl]
  · simp only [RepAV, RepSX, cx] at h ⊢
    obtain ⟨cap, g1, g2, g3⟩ := h
    refine ⟨?_, h1⟩
    simp only [Dom.hand, keepV, g1]; exact g2
  · simp only [RepAV, RepSX, cx] at h ⊢
    obtain ⟨cap, b, g1, g2, g3, _⟩ := h
    refine ⟨?_, h1⟩
    simp only [Dom.hand, keepV, g1, hdrV, g2]; exact g3
  · simp only [RepAV, RepSX, cx] at h ⊢
    exact ⟨h.1, h1⟩
  · simp only [RepAV]
theorem view_sim {tmps : Array Value} (hs : Sim A0 w0 st tmps w μ) {args : List AV} {vs : List Value} (hargs : RepAVs (cx A0 w0 st.recs st.lsts w μ) args vs) {ρ lm : List Nat} (sm : SM) (hρ : nodupB ρ = true) (hlm : nodupB lm = true) (hmk : ∀ (i r : Nat) c, ρ[i]? = some r → getL st.recs r = some c → isMark c = false) :
    Sim (A0.hand w0 μ w ρ lm sm) w0 (view st ρ lm sm args) vs.toArray w (μ.hand ρ lm sm) := by
  have hm := hs.mem
  have hsrc : ∀ {x b}, (μ.hand ρ lm sm).at_ x = some b → ∃ y, μ.at_ y = some b ∧ ¬ old ρ lm sm y ∧ PairN ρ lm x y := hand_src hρ hlm
  have hA : ∀ b, Imm A0 w0 μ w b → Imm (A0.hand w0 μ w ρ lm sm) w0 (μ.hand ρ lm sm) w b := fun b hb =>
    ⟨⟨hb.1.1, fun hx => hx.elim hb.1.2 fun ⟨x, _, hx⟩ => hb.2.2 x hx⟩, hb.2.1, fun x hx => by obtain ⟨y, hy, _⟩ := hsrc hx; exact hb.2.2 y hy⟩
  have hrec : ∀ {i c}, getL (view st ρ lm sm args).recs i = some c → ∃ r c0, ρ[i]? = some r ∧ getL st.recs r = some c0 ∧ c = viewR ρ lm sm c0 := by
    intro i c h
    simp only [view] at h
    rw [getL_mapN, Option.bind_eq_some_iff] at h
    obtain ⟨r, h1, h2⟩ := h
    rw [Option.map_eq_some_iff] at h2
    obtain ⟨c0, h2, h3⟩ := h2
    exact ⟨r, c0, h1, h2, h3.symm⟩
  have hlst : ∀ {i o}, getL (view st ρ lm sm args).lsts i = some o → ∃ t, lm[i]? = some t ∧ getL st.lsts t = some o := by
    intro i o h
    simp only [view] at h
    rw [getL_mapN, Option.bind_eq_some_iff] at h
    exact h
  have hren : (cx A0 w0 st.recs st.lsts w μ).Ren (cx (A0.hand w0 μ w ρ lm sm) w0 (view st ρ lm sm args).recs (view st ρ lm sm args).lsts w (μ.hand ρ lm sm)) (fun r => idx r ρ) (fun t => idx t lm) sm.view := by
    refine ⟨hA, fun _ _ => rfl, fun r i hr hi => ?_, fun t i ht hi => ?_, fun x v h => view_sx h⟩
    · have hi' := idx_some hi
      refine ⟨by simp only [cx, view, List.length_map]; exact (List.getElem?_eq_some_iff.1 hi').1, fun hsome => ?_⟩
      obtain ⟨c, hc⟩ := Option.isSome_iff_exists.1 hsome
      obtain ⟨r', c0, h1, h2, _⟩ := hrec hc
      rw [hi'] at h1; cases h1
      exact ⟨by show (getL st.recs r).isSome = true; rw [h2]; rfl, by simp only [cx, Mu.hand, hi', Option.bind_some]⟩
    · have hi' := idx_some hi
      refine ⟨by simp only [cx, view, List.length_map]; exact (List.getElem?_eq_some_iff.1 hi').1, fun o' ho => ?_⟩
      obtain ⟨t', h1, h2⟩ := hlst ho
      rw [hi'] at h1; cases h1
      exact ⟨o', h2, rfl, rfl, by simp only [cx, Mu.hand, hi', Option.bind_some], Mu.capOf_eq (by simp only [cx, Mu.hand, hi']) _⟩
  refine ⟨by simpa [view, viewR] using hargs.ren hren, ?_, ?_, ?_, ?_, hm.below, ?_, ?_, by simp [view, Dom.hand], ?_, hm.gi, ?_, ?_, ?_, ⟨by simp [view, Dom.hand], fun i b hb => ⟨by simp only [Dom.hand, Option.bind_eq_some_iff] at hb ⊢; obtain ⟨t, h1, _⟩ := hb; exact (List.getElem?_eq_some_iff.1 h1).1, fun o ho _ => hb⟩⟩⟩
  · intro i cells h _
    obtain ⟨r, c0, h1, h2, rfl⟩ := hrec h
    obtain ⟨b, vs', hb, ho, hv⟩ := hm.hrec r c0 h2 (hmk i r c0 h1 h2)
    exact ⟨b, vs', by simp only [Mu.hand, h1, Option.bind_some]; exact hb, ho, hv.ren hren⟩
  · intro i o h
    obtain ⟨t, h1, h2⟩ := hlst h
    rcases hm.hlst t o h2 with ⟨h3, h4⟩ | ⟨b, vs', hb, ho, hsz, hc, us, rest, e, hr⟩
    · exact .inl ⟨by simp only [cx, Mu.hand, h1, Option.bind_some]; exact h3, h4⟩
    · refine .inr ⟨b, vs', by simp only [cx, Mu.hand, h1, Option.bind_some]; exact hb, ho, by simp only [cx, Mu.hand, h1]; exact hsz, by simp only [cx, Mu.hand, h1]; exact hc, us, rest, e, hr.imp fun x u hx => hx.mono hA fun _ _ => rfl⟩
  · intro x b hx
    obtain ⟨y, hy, _, hxy⟩ := hsrc hx
    obtain ⟨h1, h2, h3⟩ := hm.live y b hy
    refine ⟨h1, h2, ?_⟩
    cases x <;> cases y <;> simp only [PairN] at hxy h3 ⊢
    · simp only [view]; rw [getL_mapN, hxy, Option.bind_some]; simpa using h3
    · simp only [view]; rw [getL_mapN, hxy, Option.bind_some]; exact h3
    · simp only [Mu.hand] at hx ⊢
      split at hx
      · rename_i hh; simp [hh]; simpa using h3
      · cases hx
  · intro x y b hx hy
    obtain ⟨x', hx', _, hxx⟩ := hsrc hx
    obtain ⟨y', hy', _, hyy⟩ := hsrc hy
    have e := hm.inj _ _ _ hx' hy'
    subst e
    cases x <;> cases y <;> cases x' <;> simp only [PairN] at hxx hyy
    · have h1 := idx_of hρ hxx; have h2 := idx_of hρ hyy; rw [h1] at h2; cases h2; rfl
    · have h1 := idx_of hlm hxx; have h2 := idx_of hlm hyy; rw [h1] at h2; cases h2; rfl
    · rw [hxx, hyy]
  · intro b hb
    rcases hb with hb | hb | ⟨x, hx, hb⟩
    · obtain ⟨h1, h2, h3⟩ := hm.fr b hb
      exact ⟨h1, rfl, fun x hx => by obtain ⟨y, hy, _⟩ := hsrc hx; exact h3 y hy⟩
    · exact ⟨hb.2.1, rfl, fun x hx => by obtain ⟨y, hy, _⟩ := hsrc hx; exact hb.2.2 y hy⟩
    · refine ⟨(hm.live x b hb).2.1, rfl, fun y hy => ?_⟩
      obtain ⟨y', hy', hold, _⟩ := hsrc hy
      have := hm.inj _ _ _ hb hy'
      subst this; exact hold hx
  · intro b hb
    rcases hb with hb | ⟨x, hx, hb⟩
    · obtain ⟨h1, h3⟩ := hm.xo b hb
      exact ⟨h1, fun x hx => by obtain ⟨y, hy, _⟩ := hsrc hx; exact h3 y hy⟩
    · refine ⟨(hm.live x b hb).2.1, fun y hy => ?_⟩
      obtain ⟨y', hy', hold, _⟩ := hsrc hy
      have := hm.inj _ _ _ hb hy'
      subst this; exact hold hx
  · intro i b hb
    refine ⟨?_, fun _ => hb⟩
    simp only [Dom.hand, Option.bind_eq_some_iff] at hb
    obtain ⟨r, h1, _⟩ := hb
    exact (List.getElem?_eq_some_iff.1 h1).1
  · constructor
    · intro i cells h hbl b hb
      obtain ⟨r, c0, h1, h2, rfl⟩ := hrec h
      exact hm.bty.r r c0 h2 (renL_bld (view_nobld sm) hbl) b (by simpa only [Mu.hand, h1, Option.bind_some] using hb)
    · intro i o h he8 b hb
      obtain ⟨t, h1, h2⟩ := hlst h
      exact hm.bty.l t o h2 he8 b (by simpa only [Mu.hand, h1, Option.bind_some] using hb)
  · intro i c h
    obtain ⟨r, c0, h1, h2, e⟩ := hrec h
    obtain ⟨y, l', _, hy, _⟩ := renL_mark e.symm
    exact absurd hy (view_nomark sm y)
  · intro d hd
    cases hh : sm.isHand with
    | false => simp [Mu.hand, hh] at hd
    | true =>
      rw [hand_dp hh, Option.map_eq_some_iff] at hd
      obtain ⟨d0, hd0, rfl⟩ := hd
      have hdeep := hm.deep d0 hd0
      have h1 : (cx A0 w0 st.recs st.lsts w μ).Deep1 (cx (A0.hand w0 μ w ρ lm sm) w0 (view st ρ lm sm args).recs (view st ρ lm sm args).lsts w (μ.hand ρ lm sm)) := ⟨hA, fun _ _ => rfl, fun k _ => hand_n hh k, fun _ _ _ _ => rfl⟩
      refine ⟨fun r hr => (by cases hr), fun k b hk => hdeep.lim k b (by rw [← hk]; exact (hand_n hh k).symm), ?_⟩
      rcases hdeep.row with ⟨h2, h3, h4⟩ | ⟨b, vs, pre, rest, h2, h3, h4, h5, h6, h7⟩
      · exact .inl ⟨(hand_n hh 0).trans h2, h3, rfl⟩
      · exact .inr ⟨b, vs, pre, rest, (hand_n hh 0).trans h2, h3, h4, by simp; omega, h6, h7.mono h1⟩

def Mu.back (μ μ2 : Mu) (ρ lm : List Nat) (sm : SM) (n nl : Nat) : Mu where
  at_ := fun x => match x with
    | .r j => (match srcN ρ n j with | some i => μ2.at_ (.r i) | none => μ.at_ (.r j))
    | .l j => (match srcN lm nl j with | some i => μ2.at_ (.l i) | none => μ.at_ (.l j))
    | .n k => if sm.isHand = true then μ2.at_ (.n k) else μ.at_ (.n k)
  cap j := match srcN lm nl j with | some i => μ2.cap i | none => μ.cap j
  dp := if sm.isHand = true then μ2.dp.map (fun d => ⟨none, d.cap, d.fs⟩) else μ.dp
theorem newRecs_some {st : St} {ρ lm : List Nat} {sm : SM} {s : St} {j : Nat} {c' : List AV} (h : newRecs st ρ lm sm s j = some c') :
    (∃ i c, srcN ρ st.recs.length j = some i ∧ getL s.recs i = some c ∧ isMark c = false ∧ c' = backL ρ lm sm st.recs.length st.lsts.length c) ∨
    (srcN ρ st.recs.length j = none ∧ ∃ c, getL st.recs j = some c ∧ (isMark c = true → sm.isHand = false) ∧ c' = renL some (unL lm st s) sm.old c) := by
  unfold newRecs at h
  split at h
  · rename_i i hi
    split at h
    · rename_i c hc
      split at h
      · cases h
      · rename_i hk; cases h; exact .inl ⟨i, c, hi, hc, hk, rfl⟩
    · cases h
  · rename_i hi
    split at h
    · rename_i c hc
      split at h
      · cases h
      · rename_i hn
        cases h
        refine .inr ⟨hi, c, hc, fun hk => ?_, rfl⟩
        rw [hk] at hn; simpa using hn
    · cases h
theorem newRecs_src {st : St} {ρ lm : List Nat} {sm : SM} {s : St} {i j : Nat} {c : List AV} (h1 : srcN ρ st.recs.length j = some i) (h2 : getL s.recs i = some c) (h3 : isMark c = false) : (newRecs st ρ lm sm s j).isSome = true := by
  unfold newRecs; rw [h1]; dsimp only; rw [h2]; dsimp only; rw [h3]; rfl
theorem newRecs_old {st : St} {ρ lm : List Nat} {sm : SM} {s : St} {j : Nat} {c : List AV} (h1 : srcN ρ st.recs.length j = none) (h2 : getL st.recs j = some c) (h3 : isMark c = false) : (newRecs st ρ lm sm s j).isSome = true := by
  unfold newRecs; rw [h1]; dsimp only; rw [h2]; dsimp only; rw [h3]; rfl

theorem keptMaps_get {st s : St} : ∀ {lm : List Nat} {k i t : Nat} {o' : LObj}, keptMaps st s lm k = true → lm[i]? = some t → getL s.lsts (k + i) = some o' → o'.e.isMap = true → mapAt st s t (k + i) = true
  | [], _, _, _, _, _, h, _, _ => by simp at h
  | t0 :: lm, k, 0, t, o', h, h1, h2, h3 => by
    simp only [List.getElem?_cons_zero, Option.some.injEq] at h1; subst h1
    simp only [keptMaps, Bool.and_eq_true, Nat.add_zero] at h h2 ⊢
    have := h.1
    rw [h2] at this
    simp only [h3] at this
    exact this
  | t0 :: lm, k, i + 1, t, o', h, h1, h2, h3 => by
    simp only [keptMaps, Bool.and_eq_true] at h
    have := keptMaps_get (i := i) h.2 (by simpa using h1) (by rw [Nat.add_assoc, Nat.add_comm 1]; exact h2) h3
    rwa [Nat.add_assoc, Nat.add_comm 1] at this
theorem mapAt_get {st s : St} {t i : Nat} (h : mapAt st s t i = true) : ∃ o o', getL st.lsts t = some o ∧ getL s.lsts i = some o' ∧ o.e.isMap = true ∧ o'.e = o.e := by
  unfold mapAt at h
  split at h
  · rename_i o o' h1 h2
    rw [Bool.and_eq_true, decide_eq_true_eq] at h
    exact ⟨o, o', h1, h2, h.1, h.2⟩
  · cases h
theorem unview_sim {tmps us : Array Value} {w' : World} {S : St} {μ2 : Mu} {ρ lm : List Nat} {sm : SM} (hs : Sim A0 w0 st tmps w μ) (hsm : SmOk A0 μ sm) (hρ : nodupB ρ = true) (hlm : nodupB lm = true) (hall : allSome st.recs ρ = true) (hlt : allLt st.lsts.length lm = true)
    (h2 : Sim (A0.hand w0 μ w ρ lm sm) w0 S us w' μ2) (hkm : keptMaps st S lm 0 = true) :
    ∃ μ3, Sim A0 w0 (unview st ρ lm sm S) tmps w' μ3 ∧ RepAVs (cx A0 w0 (unview st ρ lm sm S).recs (unview st ρ lm sm S).lsts w' μ3) (unvals st ρ lm sm S) us.toList := by
  have hm := hs.mem
  have hm2 := h2.mem
  have hltr : ∀ j r, ρ[j]? = some r → r < st.recs.length := fun j r h => by
    obtain ⟨c, hc⟩ := Option.isSome_iff_exists.1 (allSome_get hall h).1; exact getL_lt hc
  have hltl : ∀ j t, lm[j]? = some t → t < st.lsts.length := fun j t h => allLt_get hlt h
  let μ3 := μ.back μ2 ρ lm sm st.recs.length st.lsts.length
  -- a place behind the call comes from the function's or from what was not handed on
  have hsrc : ∀ {x b}, μ3.at_ x = some b → (∃ i, μ2.at_ i = some b ∧ (match x, i with | .r j, .r i => srcN ρ st.recs.length j = some i | .l j, .l i => srcN lm st.lsts.length j = some i | .n j, .n i => j = i ∧ sm.isHand = true | _, _ => False)) ∨
      (μ.at_ x = some b ∧ old ρ lm sm x ∧ (match x with | .r j => srcN ρ st.recs.length j = none | .l j => srcN lm st.lsts.length j = none | .n _ => sm.isHand = false)) := by
    intro x b h
    cases x with
    | n k =>
      simp only [μ3, Mu.back] at h
      split at h
      · rename_i hh; exact .inl ⟨.n k, h, rfl, hh⟩
      · rename_i hh
        have hh : sm.isHand = false := by simpa using hh
        exact .inr ⟨h, hh, hh⟩
    | r j =>
      simp only [μ3, Mu.back] at h
      split at h
      · rename_i i hi; exact .inl ⟨.r i, h, hi⟩
      · rename_i hi; exact .inr ⟨h, (src_none hi).2, hi⟩
    | l j =>
      simp only [μ3, Mu.back] at h
      split at h
      · rename_i i hi; exact .inl ⟨.l i, h, hi⟩
      · rename_i hi; exact .inr ⟨h, (src_none hi).2, hi⟩
  have hF : ∀ b, (A0.hand w0 μ w ρ lm sm).F b → b < w'.heap.size ∧ w'.heap[b]? = w.heap[b]? ∧ ∀ x, μ2.at_ x ≠ some b := fun b hb => hm2.fr b hb
  have hFold : ∀ {x b}, old ρ lm sm x → μ.at_ x = some b → (A0.hand w0 μ w ρ lm sm).F b := fun hx hb => .inr (.inr ⟨_, hx, hb⟩)
  have hA : ∀ b, Imm A0 w0 μ w b → Imm A0 w0 μ3 w' b := fun b hb => by
    have hf := hF b (.inr (.inl hb))
    refine ⟨hb.1, hf.1, fun x hx => ?_⟩
    rcases hsrc hx with ⟨i, hi, _⟩ | ⟨hx, _⟩
    · exact hf.2.2 i hi
    · exact hb.2.2 x hx
  have hA2 : ∀ b, Imm (A0.hand w0 μ w ρ lm sm) w0 μ2 w' b → Imm A0 w0 μ3 w' b := fun b hb => by
    refine ⟨⟨hb.1.1, fun hx => hb.1.2 (.inl hx)⟩, hb.2.1, fun x hx => ?_⟩
    rcases hsrc hx with ⟨i, hi, _⟩ | ⟨hx, hold, _⟩
    · exact hb.2.2 i hi
    · exact hb.1.2 (.inr ⟨x, hold, hx⟩)
  have hgr : ∀ j, getL (unview st ρ lm sm S).recs j = if j < st.recs.length + (S.recs.length - ρ.length) then newRecs st ρ lm sm S j else none := fun j => by simp only [unview]; rw [getL_range]
  have hgl : ∀ j, getL (unview st ρ lm sm S).lsts j = if j < st.lsts.length + (S.lsts.length - lm.length) then newLsts st lm S j else none := fun j => by simp only [unview]; rw [getL_range]
  have hren : (cx A0 w0 st.recs st.lsts w μ).Ren (cx A0 w0 (unview st ρ lm sm S).recs (unview st ρ lm sm S).lsts w' μ3) some (unL lm st S) sm.old := by
    refine ⟨hA, fun b hb => (hF b (.inr (.inl hb))).2.1, fun r r' hr hi => ?_, fun t t' ht hi => ?_, fun x v h => ?_⟩
    · cases hi
      have hr' : r < st.recs.length := hr
      refine ⟨by simp only [cx, unview, List.length_map, List.length_range]; omega, fun hsome => ?_⟩
      simp only [cx] at hsome ⊢
      rw [hgr, if_pos (by omega)] at hsome
      obtain ⟨c', hsome⟩ := Option.isSome_iff_exists.1 hsome
      cases hsr : srcN ρ st.recs.length r with
      | some i =>
        have g : ∃ c2, getL S.recs i = some c2 := by
          rcases newRecs_some hsome with ⟨i', c2, g1, g2, _⟩ | ⟨g1, _⟩
          · rw [hsr] at g1; cases g1; exact ⟨c2, g2⟩
          · rw [hsr] at g1; cases g1
        obtain ⟨c2, g2⟩ := g
        have hρi : ρ[i]? = some r := by
          unfold srcN at hsr
          split at hsr
          · rename_i i' hi'; cases hsr; exact idx_some hi'
          · split at hsr
            · cases hsr
            · rename_i hb; rw [show Nat.blt r st.recs.length = true by simpa [Nat.blt_eq] using hr'] at hb; cases hb
        obtain ⟨hlive, hunm⟩ := allSome_get hall hρi
        obtain ⟨c, hc⟩ := Option.isSome_iff_exists.1 hlive
        obtain ⟨b, _, hb, _⟩ := hm.hrec r c hc (hunm c hc)
        refine ⟨hlive, ?_⟩
        simp only [μ3, Mu.back, hsr]
        have := (hm2.pins i b (by simp only [Dom.hand, hρi, Option.bind_some]; exact hb)).2 (by rw [g2]; rfl)
        rw [this, hb]
      | none =>
        rcases newRecs_some hsome with ⟨i', c2, g1, g2, g3, _⟩ | ⟨g1, c2, g2, _⟩
        · rw [hsr] at g1; cases g1
        · exact ⟨by rw [g2]; rfl, by simp only [μ3, Mu.back, hsr]⟩
    · unfold unL at hi
      split at hi
      · rename_i i hidx
        split at hi
        · rename_i hmap; cases hi
          have ht' : t < st.lsts.length := ht
          have hsr : srcN lm st.lsts.length t = some i := by unfold srcN; rw [hidx]
          obtain ⟨o, o', ho, ho', hpm, hee⟩ := mapAt_get hmap
          obtain ⟨b, _, hb, _⟩ := (hm.hlst t o ho).map hpm
          have hb : μ.at_ (.l t) = some b := hb
          have hli := idx_some hidx
          have hpin := (hm2.pinl.2 i b (by simp only [Dom.hand, hli, Option.bind_some]; exact hb)).2 o' ho' (by rw [hee]; exact hpm)
          refine ⟨by simp only [cx, unview, List.length_map, List.length_range]; omega, fun o2 ho2 => ?_⟩
          simp only [cx] at ho2 ⊢
          rw [hgl, if_pos (by omega)] at ho2
          unfold newLsts at ho2
          rw [hsr] at ho2
          dsimp only at ho2
          rw [ho'] at ho2; cases ho2
          refine ⟨o, ho, hee, by simp only [LObj.len, hee, hpm], by simp only [μ3, Mu.back, hsr]; rw [hpin, hb], by simp only [Mu.capOf, hee, hpm]⟩
        · cases hi
      · rename_i hidx; cases hi
        have ht' : t < st.lsts.length := ht
        have hsr := src_old (ρ := lm) ht' hidx
        refine ⟨by simp only [cx, unview, List.length_map, List.length_range]; omega, fun o' ho => ?_⟩
        simp only [cx] at ho ⊢
        rw [hgl, if_pos (by omega)] at ho
        unfold newLsts at ho
        rw [hsr] at ho
        exact ⟨o', ho, rfl, rfl, by simp only [μ3, Mu.back, hsr], Mu.capOf_eq (by simp only [μ3, Mu.back, hsr]) _⟩
    · unfold SM.old
      split
      · simp only [RepAV]
      · rename_i hn
        have hh : sm.isHand = false := by cases sm <;> first | rfl | exact absurd rfl hn
        simp only [RepAV, cx]
        exact RepSX.congr (μ := μ) (by simp only [μ3, Mu.back, hh]; rfl) (by simp only [μ3, Mu.back, hh]; rfl) h
  have hback0 : ∀ x v, RepSX μ2 (A0.hand w0 μ w ρ lm sm).keep x v → RepAV (cx A0 w0 (unview st ρ lm sm S).recs (unview st ρ lm sm S).lsts w' μ3) (sm.back x) v := by
    intro x v h
    have kp : ∀ y : SX, sm = .keep y → v = (A0.hand w0 μ w ρ lm sm).keep → RepAV (cx A0 w0 (unview st ρ lm sm S).recs (unview st ρ lm sm S).lsts w' μ3) (.sx y) v := by
      intro y hy hv
      have h3 := hsm y hy
      simp only [Dom.hand] at hv
      rw [← hv] at h3
      simp only [RepAV, cx]
      subst hy
      exact RepSX.congr (μ := μ) (by simp [μ3, Mu.back, SM.isHand]) (by simp [μ3, Mu.back, SM.isHand]) h3
    unfold SM.back
    split
    · simp only [RepAV, RepSX, cx] at h ⊢
      obtain ⟨cap, g1, g2, g3⟩ := h
      refine ⟨cap, by simp [μ3, Mu.back, SM.isHand, g1], ?_, by simpa [μ3, Mu.back, SM.isHand] using g3⟩
      rw [g2]; unfold hdrV; simp [μ3, Mu.back, SM.isHand]
    · exact kp _ rfl h.1
    · exact kp _ rfl h.1
    · exact kp _ rfl h.1
    · simp only [RepAV]
  have hren2 : (cx (A0.hand w0 μ w ρ lm sm) w0 S.recs S.lsts w' μ2).Ren (cx A0 w0 (unview st ρ lm sm S).recs (unview st ρ lm sm S).lsts w' μ3) (fun i => some (backN ρ st.recs.length i)) (fun i => some (backN lm st.lsts.length i)) sm.back := by
    refine ⟨hA2, fun _ _ => rfl, fun i r' hi he => ?_, fun i t' hi he => ?_, hback0⟩
    · cases he
      have hsr := src_back (i := i) hρ hltr
      have hb : backN ρ st.recs.length i < st.recs.length + (S.recs.length - ρ.length) := back_lt hltr hi
      refine ⟨by simp only [cx, unview, List.length_map, List.length_range]; exact hb, fun hsome => ?_⟩
      simp only [cx] at hsome ⊢
      rw [hgr, if_pos hb] at hsome
      obtain ⟨c', hsome⟩ := Option.isSome_iff_exists.1 hsome
      have g : ∃ c2, getL S.recs i = some c2 := by
        rcases newRecs_some hsome with ⟨i', c2, g1, g2, _⟩ | ⟨g1, _⟩
        · rw [hsr] at g1; cases g1; exact ⟨c2, g2⟩
        · rw [hsr] at g1; cases g1
      obtain ⟨c2, g2⟩ := g
      exact ⟨by rw [g2]; rfl, by simp only [μ3, Mu.back, hsr]⟩
    · cases he
      have hsr := src_back (i := i) hlm hltl
      have hb : backN lm st.lsts.length i < st.lsts.length + (S.lsts.length - lm.length) := back_lt hltl hi
      refine ⟨by simp only [cx, unview, List.length_map, List.length_range]; exact hb, fun o' ho => ?_⟩
      simp only [cx] at ho ⊢
      rw [hgl, if_pos hb] at ho
      unfold newLsts at ho
      rw [hsr] at ho
      exact ⟨o', ho, rfl, rfl, by simp only [μ3, Mu.back, hsr], Mu.capOf_eq (by simp only [μ3, Mu.back, hsr]) _⟩
  refine ⟨μ3, ⟨hs.slots.ren hren, ?_, ?_, ?_, ?_, hm2.below, ?_, ?_, ?_, ?_, hm.gi, ?_, ?_, ?_, ?_⟩, h2.slots.ren hren2⟩
  · intro j cells h hk
    rw [hgr] at h
    split at h
    · rcases newRecs_some h with ⟨i, c0, hsr, h1, hk1, rfl⟩ | ⟨hsr, c0, h1, hk1, rfl⟩
      · obtain ⟨b, vs', hb, ho, hv⟩ := hm2.hrec i c0 h1 hk1
        exact ⟨b, vs', by simp only [μ3, Mu.back, hsr]; exact hb, ho, hv.ren hren2⟩
      · obtain ⟨b, vs', hb, ho, hv⟩ := hm.hrec j c0 h1 (by
          cases hk2 : isMark c0 with
          | false => rfl
          | true =>
            obtain ⟨l, rfl⟩ := isMark_some hk2
            have := hk1 hk2
            cases sm <;> simp [SM.isHand] at this <;> simp [renL, AV.ren, SM.old, isMark] at hk)
        exact ⟨b, vs', by simp only [μ3, Mu.back, hsr]; exact hb, ho.ext (hF b (hFold (x := .r j) (src_none hsr).2 hb)).2.1, hv.ren hren⟩
    · cases h
  · intro j o h
    rw [hgl] at h
    split at h
    · unfold newLsts at h
      cases hsr : srcN lm st.lsts.length j with
      | some i =>
        rw [hsr] at h
        rcases hm2.hlst i o h with ⟨h3, h4⟩ | ⟨b, vs', hb, ho, hsz, hc, us, rest, e, hr⟩
        · exact .inl ⟨by simp only [cx, μ3, Mu.back, hsr]; exact h3, h4⟩
        · exact .inr ⟨b, vs', by simp only [cx, μ3, Mu.back, hsr]; exact hb, ho, by simp only [cx, μ3, Mu.back, hsr]; exact hsz, by simp only [cx, μ3, Mu.back, hsr]; exact hc, us, rest, e, hr.imp fun x u hx => hx.mono hA2 fun _ _ => rfl⟩
      | none =>
        rw [hsr] at h
        rcases hm.hlst j o h with ⟨h3, h4⟩ | ⟨b, vs', hb, ho, hsz, hc, us, rest, e, hr⟩
        · exact .inl ⟨by simp only [cx, μ3, Mu.back, hsr]; exact h3, h4⟩
        · exact .inr ⟨b, vs', by simp only [cx, μ3, Mu.back, hsr]; exact hb, ho.ext (hF b (hFold (x := .l j) (src_none hsr).2 hb)).2.1, by simp only [cx, μ3, Mu.back, hsr]; exact hsz, by simp only [cx, μ3, Mu.back, hsr]; exact hc, us, rest, e,
            hr.imp fun x u hx => hx.mono hA fun b hb => (hF b (.inr (.inl hb))).2.1⟩
    · cases h
  · intro x b hx
    rcases hsrc hx with ⟨i, hi, hxi⟩ | ⟨hx, hold, hsr⟩
    · obtain ⟨g1, g2, g3⟩ := hm2.live i b hi
      refine ⟨g1, g2, ?_⟩
      cases x <;> cases i <;> simp only at hxi g3 ⊢
      · rename_i j i
        obtain ⟨c, hc⟩ := Option.isSome_iff_exists.1 g3
        have hb := back_lt (ρ := ρ) hltr (getL_lt hc)
        rw [back_src hxi] at hb
        rw [hgr, if_pos hb]
        exact newRecs_src hxi hc (hm2.plain hc hi)
      · rename_i j i
        obtain ⟨c, hc⟩ := Option.isSome_iff_exists.1 g3
        have hb := back_lt (ρ := lm) hltl (getL_lt hc)
        rw [back_src hxi] at hb
        rw [hgl, if_pos hb]
        unfold newLsts; rw [hxi]; dsimp only; rw [hc]; rfl
      · simp only [μ3, Mu.back, hxi.2, if_true]; simpa using g3
    · obtain ⟨g1, g2, g3⟩ := hm.live x b hx
      refine ⟨g1, (hF b (hFold hold hx)).1, ?_⟩
      cases x <;> simp only at hsr g3 ⊢
      · have := (src_none hsr).1
        rw [hgr, if_pos (by omega)]
        obtain ⟨c, hc⟩ := Option.isSome_iff_exists.1 g3
        exact newRecs_old hsr hc (hm.plain hc hx)
      · have := (src_none hsr).1
        rw [hgl, if_pos (by omega)]
        unfold newLsts; rw [hsr]; exact g3
      · simp only [μ3, Mu.back, hsr]; exact g3
  · intro x y b hx hy
    rcases hsrc hx with ⟨i, hi, hxi⟩ | ⟨hx, hold, hsr⟩ <;> rcases hsrc hy with ⟨i', hi', hyi⟩ | ⟨hy, hold', hsr'⟩
    · have e := hm2.inj _ _ _ hi hi'
      subst e
      cases x <;> cases y <;> cases i <;> simp only at hxi hyi
      · have := back_src hxi; have := back_src hyi; simp_all
      · have := back_src hxi; have := back_src hyi; simp_all
      · rw [hxi.1, hyi.1]
    · exact absurd hi ((hF b (hFold hold' hy)).2.2 i)
    · exact absurd hi' ((hF b (hFold hold hx)).2.2 i')
    · exact hm.inj _ _ _ hx hy
  · intro b hb
    obtain ⟨g1, g2, g3⟩ := hm.fr b hb
    have hf := hF b (.inl hb)
    refine ⟨hf.1, by rw [hf.2.1]; exact g2, fun x hx => ?_⟩
    rcases hsrc hx with ⟨i, hi, _⟩ | ⟨hx, _⟩
    · exact hf.2.2 i hi
    · exact g3 x hx
  · intro b hb
    obtain ⟨g1, g3⟩ := hm.xo b hb
    obtain ⟨k1, k3⟩ := hm2.xo b (.inl hb)
    refine ⟨k1, fun x hx => ?_⟩
    rcases hsrc hx with ⟨i, hi, _⟩ | ⟨hx, _⟩
    · exact k3 i hi
    · exact g3 x hx
  · have := hm.np; simp only [unview, List.length_map, List.length_range]; omega
  · intro r b hb
    obtain ⟨g1, g2⟩ := hm.pins r b hb
    refine ⟨g1, fun hsome => ?_⟩
    obtain ⟨g3, g4⟩ := (hren.r r r (Nat.lt_of_lt_of_le g1 hm.np) rfl).2 hsome
    exact g4.trans (g2 g3)
  · constructor
    · intro j cells h hbl b hb
      rw [hgr] at h
      split at h
      · rcases newRecs_some h with ⟨i, c0, hsr, h1, hk1, rfl⟩ | ⟨hsr, c0, h1, hk1, rfl⟩
        · exact hm2.bty.r i c0 h1 (renL_bld (back_nobld sm) hbl) b (by simpa only [μ3, Mu.back, hsr] using hb)
        · have hb' : μ.at_ (.r j) = some b := by simpa only [μ3, Mu.back, hsr] using hb
          obtain ⟨vs', hv⟩ := hm.bty.r j c0 h1 (renL_bld (old_nobld sm) hbl) b hb'
          exact ⟨vs', (hF b (hFold (x := .r j) (src_none hsr).2 hb')).2.1.trans hv⟩
      · cases h
    · intro j o h he8 b hb
      rw [hgl] at h
      split at h
      · unfold newLsts at h
        cases hsr : srcN lm st.lsts.length j with
        | some i =>
          rw [hsr] at h
          exact hm2.bty.l i o h he8 b (by simpa only [μ3, Mu.back, hsr] using hb)
        | none =>
          rw [hsr] at h
          have hb' : μ.at_ (.l j) = some b := by simpa only [μ3, Mu.back, hsr] using hb
          obtain ⟨vs', hv⟩ := hm.bty.l j o h he8 b hb'
          exact ⟨vs', (hF b (hFold (x := .l j) (src_none hsr).2 hb')).2.1.trans hv⟩
      · cases h
  · intro j cells h
    rw [hgr] at h
    split at h
    · rcases newRecs_some h with ⟨i, c0, hsr, h1, hk1, e⟩ | ⟨hsr, c0, h1, hk1, e⟩
      · obtain ⟨y, l', _, hy, _⟩ := renL_mark e.symm
        exact absurd hy (back_nomark sm y)
      · obtain ⟨y, l', rfl, hy, rfl⟩ := renL_mark e.symm
        obtain ⟨rfl, hh⟩ := old_mark sm y hy
        exact (hm.htop j l' h1).imp (c := cx A0 w0 st.recs st.lsts w μ) (by simp [cx, μ3, Mu.back, hh]) (by simp [cx, μ3, Mu.back, hh]) (fun b hb => (hF b (hFold (x := .n 0) hh hb)).2.1) fun us hu => hu.ren hren
    · cases h
  · intro d hd
    cases hh : sm.isHand with
    | true =>
      simp only [μ3, Mu.back, hh, if_true, Option.map_eq_some_iff] at hd
      obtain ⟨d0, hd0, rfl⟩ := hd
      have hdeep := hm2.deep d0 hd0
      have hn : ∀ k, μ3.at_ (.n k) = μ2.at_ (.n k) := fun k => by simp [μ3, Mu.back, hh]
      have h1 : (cx (A0.hand w0 μ w ρ lm sm) w0 S.recs S.lsts w' μ2).Deep1 (cx A0 w0 (unview st ρ lm sm S).recs (unview st ρ lm sm S).lsts w' μ3) := ⟨hA2, fun _ _ => rfl, fun k _ => hn k, fun _ _ _ _ => rfl⟩
      refine ⟨fun r hr => (by cases hr), fun k b hk => hdeep.lim k b (by rw [← hk]; exact (hn k).symm), ?_⟩
      rcases hdeep.row with ⟨g2, g3, g4⟩ | ⟨b, vs, pre, rest, g2, g3, g4, g5, g6, g7⟩
      · exact .inl ⟨(hn 0).trans g2, g3, rfl⟩
      · exact .inr ⟨b, vs, pre, rest, (hn 0).trans g2, g3, g4, by simp; omega, g6, g7.mono h1⟩
    | false =>
      have hn : ∀ k, μ3.at_ (.n k) = μ.at_ (.n k) := fun k => by simp [μ3, Mu.back, hh]
      have hdp : μ3.dp = μ.dp := by simp [μ3, Mu.back, hh]
      rw [hdp] at hd
      refine (hm.deep d hd).mono (c := cx A0 w0 st.recs st.lsts w μ) (c' := cx A0 w0 (unview st ρ lm sm S).recs (unview st ρ lm sm S).lsts w' μ3) ⟨hA, fun b hb => (hF b (.inr (.inl hb))).2.1, hn, fun k b hb => (hF b (hFold (x := .n k) hh hb)).2.1, by simp only [cx, unview, List.length_map, List.length_range]; omega, fun r hr h => ?_⟩
      cases hsr : srcN ρ st.recs.length r with
      | none => simp only [cx, μ3, Mu.back, hsr]; exact h
      | some i =>
        exfalso
        have hρi : ρ[i]? = some r := by
          unfold srcN at hsr
          split at hsr
          · rename_i i' hi'; cases hsr; exact idx_some hi'
          · split at hsr
            · cases hsr
            · rename_i hb
              have hr' : r < st.recs.length := hr
              rw [show Nat.blt r st.recs.length = true by simpa [Nat.blt_eq] using hr'] at hb; cases hb
        obtain ⟨hlive, hunm⟩ := allSome_get hall hρi
        obtain ⟨c, hc⟩ := Option.isSome_iff_exists.1 hlive
        obtain ⟨b, _, hb, _⟩ := hm.hrec r c hc (hunm c hc)
        have h : μ.at_ (.r r) = none := h
        rw [h] at hb; cases hb
  · refine hm.pinl.of (by have := hm.pinl.1; simp only [unview, List.length_map, List.length_range]; omega) fun t o' ht ho' hmp => ?_
    have hu : unL lm st S t = some t := by
      unfold unL
      split
      · rename_i i hi
        have hsr : srcN lm st.lsts.length t = some i := by unfold srcN; rw [hi]
        have hg := ho'
        rw [hgl, if_pos (by omega)] at hg
        unfold newLsts at hg
        rw [hsr] at hg
        have := keptMaps_get (k := 0) (i := i) hkm (idx_some hi) (by simpa using hg) hmp
        rw [Nat.zero_add] at this
        rw [this]
      · rfl
    obtain ⟨o, g1, g2, _, g3, _⟩ := (hren.l t t ht hu).2 o' ho'
    exact ⟨o, g1, by rw [← g2]; exact hmp, g3⟩

theorem findC_some : ∀ {c : List AV} {x : SX}, findC c = some x → AV.sx x ∈ c ∧ (SM.keep x).back .same = .sx x
  | [], _, h => by simp [findC] at h
  | v :: l, x, h => by
    unfold findC at h
    split at h
    · rename_i e; cases e
    · rename_i e; cases e; cases h; exact ⟨by simp, rfl⟩
    · rename_i e; cases e; cases h; exact ⟨by simp, rfl⟩
    · rename_i e; cases e; cases h; exact ⟨by simp, rfl⟩
    · rename_i e; cases e
      obtain ⟨h1, h2⟩ := findC_some h
      exact ⟨by simp [h1], h2⟩
theorem findR_some {recs : List (Option (List AV))} : ∀ {ρ : List Nat} {x : SX}, findR recs ρ = some x → ∃ (i r : Nat) (c : List AV), ρ[i]? = some r ∧ getL recs r = some c ∧ AV.sx x ∈ c ∧ (SM.keep x).back .same = .sx x
  | [], _, h => by simp [findR] at h
  | r :: ρ, x, h => by
    have tl : findR recs ρ = some x → ∃ (i r' : Nat) (c : List AV), (r :: ρ)[i]? = some r' ∧ getL recs r' = some c ∧ AV.sx x ∈ c ∧ (SM.keep x).back .same = .sx x := fun h => by
      obtain ⟨i, r', c, h1, h2, h3, h4⟩ := findR_some h
      exact ⟨i + 1, r', c, by simpa using h1, h2, h3, h4⟩
    unfold findR at h
    split at h
    · rename_i c hc
      split at h
      · rename_i y hy
        cases h
        obtain ⟨h1, h2⟩ := findC_some hy
        exact ⟨0, r, c, rfl, hc, h1, h2⟩
      · exact tl h
    · exact tl h
theorem RepAVs.mem {c : Cx} : ∀ {l : List AV} {us : List Value} {v : AV}, RepAVs c l us → v ∈ l → ∃ u, RepAV c v u
  | [], _, _, _, h => by simp at h
  | x :: l, us, v, hr, h => by
    obtain ⟨u, us', rfl, h1, h2⟩ := hr.cons'
    rcases List.mem_cons.1 h with rfl | h
    · exact ⟨u, h1⟩
    · exact h2.mem h
theorem fixSM_ok {tmps : Array Value} (hs : Sim A0 w0 st tmps w μ) {ρ : List Nat} {sm : SM} (hall : allSome st.recs ρ = true) : SmOk A0 μ (fixSM st.recs ρ sm) := by
  intro x h
  rw [h]
  unfold fixSM at h
  split at h
  · split at h
    · rename_i y hy
      cases h
      obtain ⟨i, r, c, h1, h2, h3, h4⟩ := findR_some hy
      obtain ⟨b, vs, _, _, hv⟩ := hs.mem.hrec r c h2 ((allSome_get hall h1).2 c h2)
      obtain ⟨u, hu⟩ := hv.mem h3
      simp only [RepAV, cx] at hu
      rw [← keepV_eq hu h4]; exact hu
    · cases h
  · rename_i hn; exact absurd h (hn x)
theorem retVal_rep {c : Cx} {l : List AV} {us : List Value} (h : RepAVs c l us) : RepAV c (resVal l) (retVal us) := by
  have hl := h.length
  unfold resVal retVal
  split
  · obtain ⟨v, rfl, hv⟩ := h.one'
    simpa using hv
  · rename_i hne
    have : ¬ us.toArray.size = 1 := by
      intro e
      simp at e
      rw [hl] at e
      match l, e with
      | [v], _ => exact hne v rfl
    rw [dif_neg this]
    simp only [RepAV]
    exact ⟨_, rfl, by simpa using h⟩

variable {a : Act} {S : Type} {ε : Env}
theorem hand_run (hε : EnvOk P ε) (hs : Sim A0 w0 st a.tmps w μ) {f : Nat} {g : Operand} {args : List Operand} {pre post : Array Value} (hg : a.eval g = .func (.func f) pre post) (K : AV → St → Option S) (r : S) :
    ∀ l : List HF, (∀ h ∈ l, SoundH P f h) → evHands st (callArgs g args) K l = some r →
    ∃ av st', K av st' = some r ∧ (∃ fn, P.funcs[f]? = some fn ∧ (fn.name == "runtime.NumGoroutine") = false ∧ fn.body.isSome = true) ∧
      Calls P f (pre.toList ++ args.map a.eval ++ post.toList).toArray w fun e w' => ∃ v, e = .returned v ∧ Post A0 w0 a.tmps av st' v w'
  | [], _, h => by simp [evHands] at h
  | hf :: l, hl, h => by
    unfold evHands at h
    split at h
    · rename_i m hm
      rw [Option.bind_eq_some_iff] at h
      obtain ⟨as, has, h⟩ := h
      obtain ⟨μ1, hs1, _⟩ := Sim.freeze m.fz hs
      generalize st.freeze m.fz = st1 at h has hs1
      unfold evHand at h
      split at h
      · cases h
      · rename_i hchk
        simp only [Bool.and_eq_true] at hchk
        obtain ⟨⟨⟨⟨⟨c1, c2⟩, c3⟩, c4⟩, c5⟩, c6⟩ := hchk
        simp only [Option.bind_eq_some_iff] at h
        obtain ⟨y, hy, o, ho, h⟩ := h
        have hargs : RepAVs (cx A0 w0 st1.recs st1.lsts w μ1) as (pre.toList ++ args.map a.eval ++ post.toList) := by
          unfold callArgs at has
          split at has
          · rename_i f' x y hev
            cases has
            have := ev_rep hs1.slots g
            rw [hev, hg] at this
            simp only [RepAV] at this
            obtain ⟨a', b', e, h1, h2⟩ := this
            cases e
            exact (h1.append (evs_rep hs1.slots args)).append h2
          · cases has
        obtain ⟨hfn, hS⟩ := hl hf (by simp)
        have hv := abs_sound (view_sim hs1 hargs (ρ := m.ρ) (lm := m.lm) (fixSM st1.recs m.ρ m.sm) c1 c2 fun i r c h1 h2 => (allSome_get c3 h1).2 c h2) (Nat.le_of_ble_eq_true c5) (Nat.le_of_ble_eq_true c6) hy
        split at h
        · rename_i hkm
          refine ⟨_, _, h, hfn, (hS y o ho _ w0 w _ _ hv).mono fun e w' ⟨us, μ', he, h2⟩ => ?_⟩
          obtain ⟨μ3, h3, h4⟩ := unview_sim (tmps := a.tmps) hs1 (fixSM_ok hs1 c3) c1 c2 c3 c4 h2 hkm
          exact ⟨_, he, μ3, retVal_rep (by simpa using h4), h3⟩
        · cases h
    · exact hand_run hε hs hg K r l (fun h hh => hl h (by simp [hh])) h
theorem handP_run (hε : EnvOk P ε) (hs : Sim A0 w0 st a.tmps w μ) {f : Nat} {g : Operand} {args : List Operand} {pre post : Array Value} (hg : a.eval g = .func (.func f) pre post) (K Z : AV → St → Option S) (r : S) :
    ∀ l : List PF, (∀ h ∈ l, SoundP P f h) → evHandsP st (callArgs g args) K Z l = some r →
    ∃ av st', (∃ fn, P.funcs[f]? = some fn ∧ (fn.name == "runtime.NumGoroutine") = false ∧ fn.body.isSome = true) ∧
      ((K av st' = some r ∧ Calls P f (pre.toList ++ args.map a.eval ++ post.toList).toArray w fun e w' => ∃ v, e = .returned v ∧ Post A0 w0 a.tmps av st' v w') ∨
        (Z av st' = some r ∧ Calls P f (pre.toList ++ args.map a.eval ++ post.toList).toArray w fun e w' => ∃ v, e = .panicked [{ v := v, recovered := false }] ∧ Post A0 w0 a.tmps av st' v w'))
  | [], _, h => by simp [evHandsP] at h
  | hf :: l, hl, h => by
    unfold evHandsP at h
    split at h
    · rename_i m hm
      rw [Option.bind_eq_some_iff] at h
      obtain ⟨as, has, h⟩ := h
      obtain ⟨μ1, hs1, _⟩ := Sim.freeze m.fz hs
      generalize st.freeze m.fz = st1 at h has hs1
      unfold evHandP at h
      split at h
      · cases h
      · rename_i hchk
        simp only [Bool.and_eq_true] at hchk
        obtain ⟨⟨⟨⟨⟨c1, c2⟩, c3⟩, c4⟩, c5⟩, c6⟩ := hchk
        simp only [Option.bind_eq_some_iff] at h
        obtain ⟨y, hy, o, ho, h⟩ := h
        have hargs : RepAVs (cx A0 w0 st1.recs st1.lsts w μ1) as (pre.toList ++ args.map a.eval ++ post.toList) := by
          unfold callArgs at has
          split at has
          · rename_i f' x y hev
            cases has
            have := ev_rep hs1.slots g
            rw [hev, hg] at this
            simp only [RepAV] at this
            obtain ⟨a', b', e, h1, h2⟩ := this
            cases e
            exact (h1.append (evs_rep hs1.slots args)).append h2
          · cases has
        obtain ⟨hfn, hS⟩ := hl hf (by simp)
        have hv := abs_sound (view_sim hs1 hargs (ρ := m.ρ) (lm := m.lm) (fixSM st1.recs m.ρ m.sm) c1 c2 fun i r c h1 h2 => (allSome_get c3 h1).2 c h2) (Nat.le_of_ble_eq_true c5) (Nat.le_of_ble_eq_true c6) hy
        have hc := hS y o ho _ w0 w _ _ hv
        cases o with
        | inl o =>
          dsimp only at h
          split at h
          · rename_i hkm
            refine ⟨_, _, hfn, .inl ⟨h, hc.mono fun e w' ⟨us, μ', he, h2⟩ => ?_⟩⟩
            obtain ⟨μ3, h3, h4⟩ := unview_sim (tmps := a.tmps) hs1 (fixSM_ok hs1 c3) c1 c2 c3 c4 h2 hkm
            exact ⟨_, he, μ3, retVal_rep (by simpa using h4), h3⟩
          · cases h
        | inr z =>
          dsimp only at h
          split at h
          · rename_i hkm
            refine ⟨_, _, hfn, .inr ⟨h, hc.mono fun e w' ⟨v, μ', he, h2⟩ => ?_⟩⟩
            obtain ⟨μ3, h3, h4⟩ := unview_sim (tmps := a.tmps) hs1 (fixSM_ok hs1 c3) c1 c2 c3 c4 h2 hkm
            have h5 := retVal_rep (us := [v]) (by simpa using h4)
            exact ⟨v, he, μ3, h5, h3⟩
          · cases h
    · exact handP_run hε hs hg K Z r l (fun h hh => hl h (by simp [hh])) h
end
end Go.Pe
end
section
namespace Go.Pe
open Go.RowKit
set_option linter.unusedSectionVars false
variable [GI]
set_option linter.unusedSimpArgs false
set_option linter.unusedVariables false

section
variable {P : Program} {A0 : Dom} {w0 w : World} {st : St} {a : Act} {μ : Mu} {S : Type}
variable {ε : Env} (hε : EnvOk P ε)
include hε

theorem evOp_sound (hs : Sim A0 w0 st a.tmps w μ) (o : Oper) (K : AV → St → Option S) (r : S) (h : evOp ε st o K = some r) : ∃ av st', K av st' = some r ∧ OpOk P A0 w0 o a w av st' := by
  obtain ⟨dst, op, type, pos, after, guard⟩ := o
  cases op <;> simp only [evOp] at h <;> try (cases h; done)
  case move x => exact ⟨_, _, h, OpOk.same hs (v := a.eval x) (by simp [execOp]) (ev_rep hs.slots x)⟩
  case assign x => exact ⟨_, _, h, OpOk.same hs (v := a.eval x) (by simp [execOp]) (ev_rep hs.slots x)⟩
  case pick c x y =>
    split at h
    · rename_i t hc
      have hcr := ev_rep hs.slots c
      rw [hc] at hcr
      simp only [RepAV, Rep, List.cons.injEq, and_true] at hcr
      cases t
      · exact ⟨_, _, h, OpOk.same hs (v := a.eval y) (by simp [execOp, hcr, asBool]) (ev_rep hs.slots y)⟩
      · exact ⟨_, _, h, OpOk.same hs (v := a.eval x) (by simp [execOp, hcr, asBool]) (ev_rep hs.slots x)⟩
    · cases h
  case alloc t =>
    split at h
    · rename_i i hi
      obtain ⟨v, w', hrun, hp⟩ := alloc_run hε hs hi
      exact ⟨_, _, h, OpOk.run (by simp [execOp, hrun]) hp⟩
    · cases h
  case box t x =>
    split at h
    · rename_i i hi
      split at h
      · rename_i hc
        obtain ⟨v, w', hrun, hp⟩ := box_run (P := P) (t := t) hε hs hi (ev_rep hs.slots x) hc.2
        exact ⟨_, _, h, OpOk.run (by simp [execOp, hrun]) hp⟩
      · cases h
    · cases h
  case build t parts =>
    obtain ⟨av, v, hK, hrun, hp⟩ := build_run (P := P) (w := w) hε rfl (parts := parts.toList.map fun p => (p.1, st.ev p.2)) (vs := parts.map fun (i, x) => (i, a.eval x)) (by simp) (fun i h h' => by
      simp only [List.getElem_map, Array.toList_map]
      exact ⟨trivial, ev_rep hs.slots _⟩) _ r h
    exact ⟨_, _, hK, OpOk.same hs (by simp [execOp, hrun]) hp⟩
  case buildSlice t n parts =>
    obtain ⟨av, st', hK, v, w', hrun, hp⟩ := buildSlice_run hε hs K r h
    exact ⟨_, _, hK, OpOk.run (by simp [execOp, hrun]) hp⟩
  case load t x =>
    obtain ⟨av, v, hK, hrun, hp⟩ := load_run (P := P) hε rfl hs.mem (ev_rep hs.slots x) _ r h
    exact ⟨_, _, hK, OpOk.same hs (by simp [execOp, hrun]) hp⟩
  case store t x y =>
    obtain ⟨st', hK, w', μ', hrun, hsim⟩ := store_run hε hs _ r h
    refine ⟨_, _, hK, fun ρ n next Q hn => ?_⟩
    refine ⟨fun f _ => trivial, ?_⟩
    have : (execOp a.eval ⟨dst, .store t x y, type, pos, after, guard⟩).run P w = .ok .skip w' := by simp [execOp, hrun]
    rw [Oper.semAt_eq _ _ _ (by intro c h; cases h), this]
    exact hn undef w' ⟨μ', by simp only [RepAV], hsim⟩
  case nilCheck x =>
    have hx := ev_rep hs.slots x
    split at h
    · rename_i r' off he
      rw [he] at hx
      split at h
      · rename_i hl
        simp only [RepAV, cx] at hx
        obtain ⟨b, hb, hv⟩ := hx.2.2 hl
        exact ⟨_, _, h, OpOk.same hs (v := a.eval x) (by simp [execOp, hv]) (by rw [← he]; exact ev_rep hs.slots x)⟩
      · cases h
    · rename_i l he
      rw [he] at hx
      simp only [RepAV, cx] at hx
      obtain ⟨ad, us, hv, _⟩ := hx
      exact ⟨_, _, h, OpOk.same hs (v := a.eval x) (by simp [execOp, hv]) (by rw [← he]; exact ev_rep hs.slots x)⟩
    · rename_i t i off he
      rw [he] at hx
      split at h
      · rename_i hl
        simp only [RepAV, cx] at hx
        obtain ⟨o', ho'⟩ := Option.isSome_iff_exists.1 hl
        obtain ⟨b, hb, hv⟩ := hx.2.2 o' ho'
        exact ⟨_, _, h, OpOk.same hs (v := a.eval x) (by simp [execOp, hv]) (by rw [← he]; exact ev_rep hs.slots x)⟩
      · cases h
    · rename_i y he
      rw [he] at hx
      split at h
      · rename_i r' off
        simp only [RepAV, RepSX, cx] at hx
        obtain ⟨cap, fs, b, _, _, hv⟩ := hx
        exact ⟨_, _, h, OpOk.same hs (v := a.eval x) (by simp [execOp, hv]) (by rw [← he]; exact ev_rep hs.slots x)⟩
      · cases h
    · rename_i f a1 a2 he
      rw [he] at hx
      split at h
      · rename_i ff
        simp only [RepAV, cx] at hx
        obtain ⟨a', b', hv, _⟩ := hx
        exact ⟨_, _, h, OpOk.same hs (v := a.eval x) (by simp [execOp, hv]) (by rw [← he]; exact ev_rep hs.slots x)⟩
      · cases h
    · cases h
  case binOp op xT x y yT =>
    obtain ⟨av, v, hK, hrun, hp⟩ := bin_run (P := P) (w := w) hε op xT (ev_rep hs.slots x) (ev_rep hs.slots y) x y _ r h
    exact ⟨_, _, hK, OpOk.same hs (v := v) (by simp only [execOp, Sem.run_bind, hrun]; rfl) hp⟩
  case unOp op xT x =>
    obtain ⟨av, v, hK, hrun, hp⟩ := un_run (P := P) (w := w) op (ev_rep hs.slots x) _ r h
    exact ⟨_, _, hK, OpOk.same hs (v := v) (by simp [execOp, hrun]) hp⟩
  case convert src dst' x =>
    obtain ⟨av, v, w', hK, hrun, hbel, hp⟩ := conv_run (P := P) hε rfl hs.mem (ev_rep hs.slots x) _ r h
    exact ⟨_, _, hK, OpOk.run (v := v) (by simp [execOp, hrun]) ⟨μ, hp, hs.ext hbel⟩⟩
  case makeFunc f x y =>
    exact ⟨_, _, h, OpOk.same hs (v := .func f (x.map a.eval) (y.map a.eval)) (by simp [execOp, Instr.makeFunc]) (by
      simp only [RepAV]
      exact ⟨_, _, rfl, by rw [Array.toList_map]; exact evs_rep hs.slots _, by rw [Array.toList_map]; exact evs_rep hs.slots _⟩)⟩
  case makeInterface t x =>
    have fin : ∀ i, ε.ti t = some i → (∀ ms, i.desc ≠ .interface ms) → K (.ifc t [st.ev x]) st = some r → ∃ av st', K av st' = some r ∧ OpOk P A0 w0 ⟨dst, .makeInterface t x, type, pos, after, guard⟩ a w av st' := fun i hi hne h => by
      have hu := (hε.ti t i hi).under
      refine ⟨_, _, h, OpOk.same hs (v := .iface t (a.eval x)) ?_ ?_⟩
      · have hm : (Instr.makeInterface t (a.eval x)).run P w = .ok (.iface t (a.eval x)) w := by
          unfold Instr.makeInterface
          simp only [Sem.run_bind, run_underlying hu, Result.andThen_ok]
          first
          | rfl
          | (split
             · rename_i ms hms; exact absurd hms (hne ms)
             · rfl)
        simp [execOp, hm]
      · simp only [RepAV]
        exact ⟨_, rfl, RepAVs.one (ev_rep hs.slots x)⟩
    split at h
    · rename_i i hi
      split at h <;> first | (rename_i hd; exact fin i hi (by intro ms e; rw [hd] at e; cases e) h) | (rename_i hd; exact fin i hi (by intro e; rw [hd] at e; cases e) h) | cases h
    · cases h
  case makeMap t n =>
    split at h
    · obtain ⟨av, st', hK, v, w', hrun, hp⟩ := evMakeMap_run (P := P) hε hs K r h
      exact ⟨_, _, hK, OpOk.run (v := v) (by simp [execOp, hrun]) hp⟩
    · cases h
  case lookup t x i ok =>
    obtain ⟨av, v, hK, hrun, hp⟩ := evLookup_run (P := P) hε hs (ev_rep hs.slots x) (ev_rep hs.slots i) _ r h
    exact ⟨_, _, hK, OpOk.same hs (by simp [execOp, hrun]) hp⟩
  case mapUpdate t m i x =>
    obtain ⟨st', hK, w', μ', hrun, hs'⟩ := evMapUpdate_run (P := P) hε hs (ev_rep hs.slots m) (ev_rep hs.slots i) (ev_rep hs.slots x) _ r h
    refine ⟨_, _, hK, fun ρ n next Q hn => ?_⟩
    refine ⟨fun f _ => trivial, ?_⟩
    have : (execOp a.eval ⟨dst, .mapUpdate t m i x, type, pos, after, guard⟩).run P w = .ok .skip w' := by simp [execOp, hrun]
    rw [Oper.semAt_eq _ _ _ (by intro c h; cases h), this]
    exact hn undef w' ⟨μ', by simp only [RepAV], hs'⟩
  case insert t m i x =>
    obtain ⟨st', hK, w', μ', hrun, hs'⟩ := evMapUpdate_run (P := P) hε hs (ev_rep hs.slots m) (ev_rep hs.slots i) (ev_rep hs.slots x) _ r h
    refine ⟨_, _, hK, fun ρ n next Q hn => ?_⟩
    refine ⟨fun f _ => trivial, ?_⟩
    have : (execOp a.eval ⟨dst, .insert t m i x, type, pos, after, guard⟩).run P w = .ok .skip w' := by simp [execOp, hrun]
    rw [Oper.semAt_eq _ _ _ (by intro c h; cases h), this]
    exact hn undef w' ⟨μ', by simp only [RepAV], hs'⟩
  case makeSlice t l c =>
    obtain ⟨av, st', hK, v, w', hrun, hp⟩ := make_run' (P := P) hε hs (ev_rep hs.slots l) (ev_rep hs.slots c) K r h
    exact ⟨_, _, hK, OpOk.run (by simp [execOp, hrun]) hp⟩
  case slice t x lo hi mx =>
    obtain ⟨av, v, hK, hrun, hp⟩ := slice_run (P := P) hε (ev_rep hs.slots x) (optRep hs.slots lo) (optRep hs.slots hi) (optRep hs.slots mx) rfl _ r h
    exact ⟨_, _, hK, OpOk.same hs (by simp only [execOp, Sem.run_bind]; rw [show (Instr.sliceAt t (a.eval x) (lo.map a.eval) (hi.map a.eval) (mx.map a.eval)).run P w = .ok v w from hrun]; rfl) hp⟩
  case fieldAddr t x f =>
    obtain ⟨av, v, hK, hrun, hp⟩ := fieldAddr_run (P := P) (w := w) (c := cx A0 w0 st.recs st.lsts w μ) hε rfl rfl (ev_rep hs.slots x) rfl _ r h
    exact ⟨_, _, hK, OpOk.same hs (by simp [execOp, hrun]) hp⟩
  case field t x f =>
    obtain ⟨av, v, hK, hrun, hp⟩ := field_run (P := P) (w := w) hε (ev_rep hs.slots x) _ r h
    exact ⟨_, _, hK, OpOk.same hs (by simp [execOp, hrun]) hp⟩
  case indexAddr t x i =>
    obtain ⟨av, v, hK, hrun, hp⟩ := indexAddr_run (P := P) (w := w) (c := cx A0 w0 st.recs st.lsts w μ) hε rfl (fun t o h => hs.mem.hlst t o h) (ev_rep hs.slots x) (ev_rep hs.slots i) rfl _ r h
    exact ⟨_, _, hK, OpOk.same hs (by simp [execOp, hrun]) hp⟩
  case index t x i =>
    obtain ⟨av, v, hK, hrun, hp⟩ := index_run (P := P) (w := w) hε (ev_rep hs.slots x) (ev_rep hs.slots i) _ r h
    exact ⟨_, _, hK, OpOk.same hs (by simp [execOp, hrun]) hp⟩
  case extract x i =>
    split at h
    · rename_i l he
      split at h
      · rename_i v hv
        have hx := ev_rep hs.slots x
        rw [he] at hx
        simp only [RepAV] at hx
        obtain ⟨us, hus, hu⟩ := hx
        obtain ⟨v', hv', hr'⟩ := hu.get i v hv
        refine ⟨_, _, h, OpOk.same hs (v := v') ?_ hr'⟩
        have : us[i]? = some v' := by simpa using hv'
        simp [execOp, hus, Instr.extract, this]
      · cases h
    · cases h
  case call c =>
    obtain ⟨callee, args, argTypes⟩ := c
    simp only at h
    split at h
    · -- len
      split at h
      · rename_i t x hts hxs
        have e1 : argTypes = #[t] := by apply Array.ext'; simpa using hts
        have e2 : args = #[x] := by apply Array.ext'; simpa using hxs
        subst e1; subst e2
        obtain ⟨av, v, hK, hrun, hp⟩ := len_run (P := P) (w := w) (c := cx A0 w0 st.recs st.lsts w μ) hε (ts := #[t]) rfl type rfl (fun t o h => hs.mem.hlst t o h) (ev_rep hs.slots x) _ r h
        exact ⟨_, _, hK, OpOk.same hs (v := v) (by simp [execOp, resolve, invoke, builtin, hrun]) hp⟩
      · cases h
    · split at h
      · rename_i t u s x hts hxs
        have e1 : argTypes = #[t, u] := by apply Array.ext'; simpa using hts
        have e2 : args = #[s, x] := by apply Array.ext'; simpa using hxs
        subst e1; subst e2
        obtain ⟨av, st', hK, v, w', hrun, hp⟩ := append_run (P := P) (ty := type) hε hs (ev_rep hs.slots s) (ev_rep hs.slots x) K r h
        exact ⟨_, _, hK, OpOk.run (v := v) (by simp [execOp, resolve, invoke, builtin, hrun]) hp⟩
      · cases h
    · split at h
      · rename_i x y hxs
        have e2 : args = #[x, y] := by apply Array.ext'; simpa using hxs
        subst e2
        unfold evMin at h
        split at h
        · rename_i k m k' n h1 h2
          have hx := ev_rep hs.slots x
          have hy := ev_rep hs.slots y
          rw [h1] at hx; rw [h2] at hy
          simp only [RepAV, Rep, List.cons.injEq, and_true] at hx hy
          exact ⟨_, _, h, OpOk.same hs (v := .int k (minI m n)) (by simp [execOp, resolve, invoke, builtin, hx, hy, Builtin.min_, Builtin.min2, minI_eq]) (by simp only [RepAV, Rep])⟩
        · cases h
      · cases h
    · split at h
      · rename_i x y hxs
        have e2 : args = #[x, y] := by apply Array.ext'; simpa using hxs
        subst e2
        unfold evMax at h
        split at h
        · rename_i k m k' n h1 h2
          have hx := ev_rep hs.slots x
          have hy := ev_rep hs.slots y
          rw [h1] at hx; rw [h2] at hy
          simp only [RepAV, Rep, List.cons.injEq, and_true] at hx hy
          exact ⟨_, _, h, OpOk.same hs (v := .int k (maxI m n)) (by simp [execOp, resolve, invoke, builtin, hx, hy, Builtin.max_, Builtin.max2, maxI_eq]) (by simp only [RepAV, Rep])⟩
        · cases h
      · cases h
    · split at h
      · rename_i t u m i hts hxs
        have e1 : argTypes = #[t, u] := by apply Array.ext'; simpa using hts
        have e2 : args = #[m, i] := by apply Array.ext'; simpa using hxs
        subst e1; subst e2
        obtain ⟨st', hK, w', μ', hrun, hs'⟩ := evDelete_run (P := P) (u := u) (ty := type) hε hs (ev_rep hs.slots m) (ev_rep hs.slots i) _ r h
        exact ⟨_, _, hK, OpOk.run (v := .tuple #[]) (by simp [execOp, resolve, invoke, builtin, hrun]) ⟨μ', by simp only [RepAV, RepAVs]; exact ⟨#[], rfl, rfl⟩, hs'⟩⟩
      · cases h
    · rename_i g
      split at h
      · rename_i f pre post hg
        have hgr := ev_rep hs.slots g
        rw [hg] at hgr
        simp only [RepAV] at hgr
        obtain ⟨a', b', hv, hpre, hpost⟩ := hgr
        have fin : ∀ {av st'}, K av st' = some r → (∃ fn, P.funcs[f]? = some fn ∧ (fn.name == "runtime.NumGoroutine") = false ∧ fn.body.isSome = true) →
            (Calls P f (a'.toList ++ args.toList.map a.eval ++ b'.toList).toArray w fun e w' => ∃ v, e = .returned v ∧ Post A0 w0 a.tmps av st' v w') → ∃ av st', K av st' = some r ∧ OpOk P A0 w0 ⟨dst, .call ⟨.value g, args, argTypes⟩, type, pos, after, guard⟩ a w av st' := by
          intro av st' hK ⟨fn, hf, hnm, hbody⟩ hcalls
          refine ⟨_, _, hK, fun ρ n next Q hn => ?_⟩
          obtain ⟨code, hcode⟩ := Option.isSome_iff_exists.1 hbody
          have hrun : (execOp a.eval ⟨dst, .call ⟨.value g, args, argTypes⟩, type, pos, after, guard⟩).run P w = .ok (.enter f (a' ++ args.map a.eval ++ b')) w := by
            have hnm' : ¬ fn.name = "runtime.NumGoroutine" := by simpa using hnm
            simp [execOp, resolve, hv, Deferred.ofValue, invoke, callFunc, program, Sem.run, hf, hnm', hcode]
          refine ⟨fun f _ => trivial, ?_⟩
          rw [Oper.semAt_eq _ _ _ (by intro c h; cases h), hrun, Oper.uponIn_enter]
          refine ⟨fun h => (by simp [Fr, Fence.wide] at h), ?_⟩
          have e3 : (a'.toList ++ args.toList.map a.eval ++ b'.toList).toArray = a' ++ args.map a.eval ++ b' := by apply Array.ext'; simp
          rw [e3] at hcalls
          refine (callsIn_fr hcalls).mono fun e w' ⟨v, he, hp⟩ => ?_
          subst he
          exact hn v w' hp
        split at h
        · obtain ⟨av, st', hK, hfn, hcalls⟩ := call_run (P := P) hε hs hpre hpost K r h
          exact fin hK hfn hcalls
        · obtain ⟨av, st', hK, hfn, hcalls⟩ := hand_run hε hs hv K r (ε.hf f) (hε.hf f) h
          exact fin hK hfn hcalls
      · cases h
    · cases h

theorem evOpZ_sound (hs : Sim A0 w0 st a.tmps w μ) (o : Oper) (K Z : AV → St → Option S) (r : S) (h : evOpZ ε st o K Z = some r) :
    (∃ av st', K av st' = some r ∧ OpOk P A0 w0 o a w av st') ∨ (∃ av st', Z av st' = some r ∧ OpPan P A0 w0 o a w av st') := by
  have std : evOp ε st o K = some r → (∃ av st', K av st' = some r ∧ OpOk P A0 w0 o a w av st') ∨ (∃ av st', Z av st' = some r ∧ OpPan P A0 w0 o a w av st') := fun h => .inl (evOp_sound hε hs o K r h)
  obtain ⟨dst, op, type, pos, after, guard⟩ := o
  unfold evOpZ at h
  split at h
  · rename_i x hop
    simp only at hop
    subst hop
    split at h
    · rename_i q l hx
      have hr := ev_rep hs.slots x
      rw [hx] at hr
      refine .inr ⟨_, _, h, fun ρ n next Q hQ => ?_⟩
      obtain ⟨u, hu, hl⟩ : ∃ u, a.eval x = .iface q u ∧ RepAVs (cx A0 w0 st.recs st.lsts w μ) l [u] := by simpa only [RepAV] using hr
      refine ⟨fun f _ => trivial, ?_⟩
      have hrun : (execOp a.eval ⟨dst, .panic x, type, pos, after, guard⟩).run P w = .halt (.panic (.iface q u)) w := by
        unfold execOp
        dsimp only
        rw [hu]
        rfl
      rw [Oper.semAt_eq _ _ _ (by intro c h; cases h), hrun, Oper.uponIn_panic]
      exact hQ _ _ ⟨μ, hu ▸ hr, hs⟩
    · cases h
  · rename_i c hop
    simp only at hop
    subst hop
    obtain ⟨callee, args, argTypes⟩ := c
    split at h
    · rename_i g hcal
      simp only at hcal
      subst hcal
      split at h
      · rename_i f pre post hg
        split at h
        · split at h
          · rename_i htop
            have hgr := ev_rep hs.slots g
            rw [hg] at hgr
            simp only [RepAV] at hgr
            obtain ⟨a', b', hv, hpre, hpost⟩ := hgr
            obtain ⟨⟨fn, hf, hnm, hbody⟩, htf⟩ := hε.top f htop
            have hcall : (execOp a.eval ⟨dst, .call ⟨.value g, args, argTypes⟩, type, pos, after, guard⟩).run P w = .ok (.enter f (a' ++ args.map a.eval ++ b')) w := by
              obtain ⟨code, hcode⟩ := Option.isSome_iff_exists.1 hbody
              have hnm' : ¬ fn.name = "runtime.NumGoroutine" := by simpa using hnm
              simp [execOp, resolve, hv, Deferred.ofValue, invoke, callFunc, program, Sem.run, hf, hnm', hcode]
            simp only [callArgs, hg] at h
            have e3 : (a'.toList ++ args.toList.map a.eval ++ b'.toList).toArray = a' ++ args.map a.eval ++ b' := by apply Array.ext'; simp
            have hl : RepAVs (cx A0 w0 st.recs st.lsts w μ) (pre ++ args.toList.map st.ev ++ post) (a'.toList ++ args.toList.map a.eval ++ b'.toList) := (hpre.append (evs_rep hs.slots args.toList)).append hpost
            rw [← e3] at hcall
            generalize pre ++ args.toList.map st.ev ++ post = l at h hl
            generalize a'.toList ++ args.toList.map a.eval ++ b'.toList = vl at hcall hl
            unfold evTop at h
            split at h
            · rename_i q off
              split at h
              · rename_i r' fs hcell
                unfold appOk at h
                split at h
                · rename_i hn
                  obtain ⟨pv, hpv, hp⟩ := hl.one'
                  subst hpv
                  simp only [RepAV, cx] at hp
                  obtain ⟨hql, _, hpo⟩ := hp
                  unfold cellAt at hcell
                  split at hcell
                  · rename_i c' hc'
                    split at hcell
                    · cases hcell
                    · rename_i hmk
                      split at hcell
                      · rename_i x' hx'
                        cases hcell
                        obtain ⟨b2, vs, hb2, hown, hvs⟩ := hs.mem.hrec q c' hc' hmk
                        obtain ⟨u, hu, hur⟩ := hvs.get off _ hx'
                        simp only [RepAV, RepSX, cx] at hur
                        obtain ⟨cap, bS, hd, hbS, rfl, hcap⟩ := hur
                        obtain ⟨b3, hb3, hpe⟩ := hpo (by rw [hc']; rfl)
                        replace hb2 : μ.at_ (.r q) = some b2 := hb2
                        rw [hb3] at hb2; cases hb2
                        subst hpe
                        obtain ⟨el, hw⟩ := hown
                        have hcl : w.cell? ⟨b2, off, none⟩ = some (.slice (some ⟨bS, 0, none⟩) (fs.length + 1) cap) := by
                          have hw' : w.heap[b2]? = some (Obj.cells vs el (0, 0)) := hw
                          have hu' : vs[off]? = some (.slice (some ⟨bS, 0, none⟩) (fs.length + 1) cap) := by rw [← hu]; simp
                          simp [World.cell?, hw', hu']
                        refine .inl ⟨_, _, h, fun ρ n next Q hnx => ?_⟩
                        refine ⟨fun f _ => trivial, ?_⟩
                        rw [Oper.semAt_eq _ _ _ (by intro c h; cases h), hcall, Oper.uponIn_enter]
                        refine ⟨fun h => (by simp [Fr, Fence.wide] at h), ?_⟩
                        refine (callsIn_fr (htf w b2 off bS fs.length cap (by omega) hcl)).mono fun e w' ⟨he, hbl⟩ => ?_
                        subst he
                        refine hnx _ w' ⟨μ, ?_, hs.ext hbl⟩
                        simp only [RepAV, RepSX, cx]
                        exact ⟨cap, fs, bS, hd, hbS, by simp⟩
                      · cases hcell
                  · cases hcell
                · cases h
              · cases h
            · cases h
          · split at h
            · rename_i G hext
              have hgr := ev_rep hs.slots g
              rw [hg] at hgr
              simp only [RepAV] at hgr
              obtain ⟨a', b', hv, hpre, hpost⟩ := hgr
              obtain ⟨⟨fn, hf, hnm, hbody⟩, hx⟩ := hε.ext f G hext
              have hcall : (execOp a.eval ⟨dst, .call ⟨.value g, args, argTypes⟩, type, pos, after, guard⟩).run P w = .ok (.enter f (a' ++ args.map a.eval ++ b')) w := by
                obtain ⟨code, hcode⟩ := Option.isSome_iff_exists.1 hbody
                have hnm' : ¬ fn.name = "runtime.NumGoroutine" := by simpa using hnm
                simp [execOp, resolve, hv, Deferred.ofValue, invoke, callFunc, program, Sem.run, hf, hnm', hcode]
              simp only [callArgs, hg] at h
              have e3 : (a'.toList ++ args.toList.map a.eval ++ b'.toList).toArray = a' ++ args.map a.eval ++ b' := by apply Array.ext'; simp
              have hl : RepAVs (cx A0 w0 st.recs st.lsts w μ) (pre ++ args.toList.map st.ev ++ post) (a'.toList ++ args.toList.map a.eval ++ b'.toList) := (hpre.append (evs_rep hs.slots args.toList)).append hpost
              rw [← e3] at hcall
              obtain ⟨av, st', hK, hx⟩ := hx _ st _ K r h
              refine .inl ⟨_, _, hK, fun ρ n next Q hn => ?_⟩
              refine ⟨fun f _ => trivial, ?_⟩
              rw [Oper.semAt_eq _ _ _ (by intro c h; cases h), hcall, Oper.uponIn_enter]
              refine ⟨fun h => (by simp [Fr, Fence.wide] at h), ?_⟩
              refine (callsIn_fr (hx A0 w0 w _ μ _ hs hl)).mono fun e w' ⟨v, μ', he, hp, hs'⟩ => ?_
              subst he
              exact hn v w' ⟨μ', hp, hs'⟩
            · exact std h
        · rename_i hf l hpf
          have hgr := ev_rep hs.slots g
          rw [hg] at hgr
          simp only [RepAV] at hgr
          obtain ⟨a', b', hv, hpre, hpost⟩ := hgr
          have hcall : ∀ {fn : Func} (_ : P.funcs[f]? = some fn) (_ : (fn.name == "runtime.NumGoroutine") = false) (_ : fn.body.isSome = true),
              (execOp a.eval ⟨dst, .call ⟨.value g, args, argTypes⟩, type, pos, after, guard⟩).run P w = .ok (.enter f (a' ++ args.map a.eval ++ b')) w := by
            intro fn hf hnm hbody
            obtain ⟨code, hcode⟩ := Option.isSome_iff_exists.1 hbody
            have hnm' : ¬ fn.name = "runtime.NumGoroutine" := by simpa using hnm
            simp [execOp, resolve, hv, Deferred.ofValue, invoke, callFunc, program, Sem.run, hf, hnm', hcode]
          have e3 : (a'.toList ++ args.toList.map a.eval ++ b'.toList).toArray = a' ++ args.map a.eval ++ b' := by apply Array.ext'; simp
          obtain ⟨av, st', ⟨fn, hfn, hnm, hbody⟩, hor⟩ := handP_run hε hs hv K Z r _ (fun h hh => hε.pf f h (by rw [hpf]; exact hh)) h
          rw [e3] at hor
          rcases hor with ⟨hK, hcalls⟩ | ⟨hK, hcalls⟩
          · refine .inl ⟨_, _, hK, fun ρ n next Q hn => ?_⟩
            refine ⟨fun f _ => trivial, ?_⟩
            rw [Oper.semAt_eq _ _ _ (by intro c h; cases h), hcall hfn hnm hbody, Oper.uponIn_enter]
            refine ⟨fun h => (by simp [Fr, Fence.wide] at h), ?_⟩
            refine (callsIn_fr hcalls).mono fun e w' ⟨v, he, hp⟩ => ?_
            subst he
            exact hn v w' hp
          · refine .inr ⟨_, _, hK, fun ρ n next Q hn => ?_⟩
            refine ⟨fun f _ => trivial, ?_⟩
            rw [Oper.semAt_eq _ _ _ (by intro c h; cases h), hcall hfn hnm hbody, Oper.uponIn_enter]
            refine ⟨fun h => (by simp [Fr, Fence.wide] at h), ?_⟩
            refine (callsIn_fr hcalls).mono fun e w' ⟨v, he, hp⟩ => ?_
            subst he
            exact hn v w' hp
      · exact std h
    · exact std h
  · exact std h
end
end Go.Pe
end
section
namespace Go.Pe
open Go.RowKit
set_option linter.unusedSectionVars false
variable [GI]
set_option linter.unusedSimpArgs false
set_option linter.unusedVariables false

inductive Del where
  | no | new (c : List AV) | lst (l : LObj)
def Del.app : Del → St → St
  | .no, st => st
  | .new c, st => { st with recs := st.recs ++ [some c] }
  | .lst l, st => { st with lsts := st.lsts ++ [some l] }
def Del.kind : Del → Nat
  | .no => 0 | .new _ => 1 | .lst _ => 2

def Look (st st' : St) : Loc → Prop
  | .r r => getL st'.recs r = getL st.recs r
  | .l t => getL st'.lsts t = getL st.lsts t
  | .n _ => True
structure Agree (ts : List Loc) (xs : Array Operand) (st st' : St) : Prop where
  ev : ∀ x ∈ xs, st'.ev x = st.ev x
  look : ∀ l ∈ ts, Look st st' l

section
variable {S : Type}
theorem asTy_agree {lsts lsts' : List (Option LObj)} {t : Ty} {x : AV} (h : ∀ j, .l j ∈ x.locs → getL lsts' j = getL lsts j) : asTy lsts' t x = asTy lsts t x := by
  cases x <;> simp only [asTy]
  case whole j => rw [h j (by simp [AV.locs])]
theorem list_agree {lsts lsts' : List (Option LObj)} {x : AV} (h : ∀ j, .l j ∈ x.locs → getL lsts' j = getL lsts j) : x.list lsts' = x.list lsts := by
  cases x <;> simp only [AV.list]
  case d t y => cases t <;> rfl
  case whole j => rw [h j (by simp [AV.locs])]
mutual
theorem close_agree {lsts lsts' : List (Option LObj)} : ∀ {x : AV} (h : ∀ j, .l j ∈ x.locs → getL lsts' j = getL lsts j), x.close lsts' = x.close lsts
  | .whole j, h => by simp only [AV.close]; rw [h j (by simp [AV.locs])]
  | .agg l, h => by simp only [AV.close]; rw [closeL_agree (l := l) (by simpa only [AV.locs] using h)]
  | .ifc q l, h => by simp only [AV.close]; rw [closeL_agree (l := l) (by simpa only [AV.locs] using h)]
  | .tup l, h => by simp only [AV.close]; rw [closeL_agree (l := l) (by simpa only [AV.locs] using h)]
  | .fn f a b, h => by
    simp only [AV.close]
    rw [closeL_agree (l := a) fun j hj => h j (by simp only [AV.locs, List.mem_append]; exact .inl hj), closeL_agree (l := b) fun j hj => h j (by simp only [AV.locs, List.mem_append]; exact .inr hj)]
  | .d _ _, _ | .full _ _, _ | .nilS, _ | .nilP, _ | .pim _, _ | .ptr _ _, _ | .bld _, _ | .eptr _ _ _, _ | .sx _, _ | .dead, _ => by simp only [AV.close]
theorem closeL_agree {lsts lsts' : List (Option LObj)} : ∀ {l : List AV} (h : ∀ j, .l j ∈ locsL l → getL lsts' j = getL lsts j), closeL lsts' l = closeL lsts l
  | [], _ => rfl
  | v :: l, h => by
    simp only [closeL]
    rw [close_agree (x := v) fun j hj => h j (by simp only [locsL, List.mem_append]; exact .inl hj), closeL_agree (l := l) fun j hj => h j (by simp only [locsL, List.mem_append]; exact .inr hj)]
end
theorem locsL_append : ∀ (a b : List AV), locsL (a ++ b) = locsL a ++ locsL b
  | [], _ => rfl
  | v :: a, b => by simp only [List.cons_append, locsL, locsL_append a b, List.append_assoc]
theorem locsL_of : ∀ {l : List AV} {x : Loc}, x ∈ locsL l → ∃ v ∈ l, x ∈ v.locs
  | v :: l, x, h => by
    simp only [locsL, List.mem_append] at h
    rcases h with h | h
    · exact ⟨v, .head _, h⟩
    · obtain ⟨u, hu, hx⟩ := locsL_of h; exact ⟨u, .tail _ hu, hx⟩

variable (ε : Env)
theorem evConv_agree {lsts lsts' : List (Option LObj)} {s d : Nat} {x : AV} {K : AV → Option S} (h : ∀ j, .l j ∈ x.locs → getL lsts' j = getL lsts j) : evConv ε lsts' s d x K = evConv ε lsts s d x K := by
  unfold evConv
  split
  · split <;> first | rfl | rw [asTy_agree h]
  · rfl
theorem evLen_agree {lsts lsts' : List (Option LObj)} {t : Nat} {x : AV} {K : AV → Option S} (h : ∀ j, .l j ∈ x.locs → getL lsts' j = getL lsts j) : evLen ε t lsts' x K = evLen ε t lsts x K := by
  unfold evLen
  split
  · rfl
  · rfl
  · rfl
  · rfl
  · rw [list_agree h]
theorem evIndexAddr_agree {lsts lsts' : List (Option LObj)} {t : Nat} {x i : AV} {K : AV → Option S} (h : ∀ j, .l j ∈ x.locs → getL lsts' j = getL lsts j) : evIndexAddr ε t lsts' x i K = evIndexAddr ε t lsts x i K := by
  unfold evIndexAddr
  split
  · rename_i q k n; rw [h q (by simp [AV.locs])]
  · rfl
  · rfl
  · rfl
  · rfl
theorem evFieldAddr_agree {st st' : St} {t f : Nat} {x : AV} {K : AV → Option S} (h : ∀ l ∈ x.locs, Look st st' l) : evFieldAddr ε st' t x f K = evFieldAddr ε st t x f K := by
  unfold evFieldAddr
  split
  · split
    · rfl
    · split
      · rename_i r o; have := h (.r r) (by simp [AV.locs]); simp only [Look] at this; rw [this]
      · rename_i r i o; have := h (.l r) (by simp [AV.locs]); simp only [Look] at this; rw [this]
      · rfl
      · rfl
      · rfl
  · rfl
theorem evLoad_agree {st st' : St} {t : Nat} {x : AV} {K : AV → Option S} (h : ∀ l ∈ x.locs, Look st st' l) : evLoad ε st' t x K = evLoad ε st t x K := by
  unfold evLoad
  split
  · rfl
  · split
    · rename_i r o; have := h (.r r) (by simp [AV.locs]); simp only [Look] at this; rw [this]
    · rfl
    · rename_i r i o; have := h (.l r) (by simp [AV.locs]); simp only [Look] at this; rw [this]
    · rename_i r o; have := h (.r r) (by simp [AV.locs]); simp only [Look] at this; unfold topCells; rw [this]
    · rfl
theorem appArg_agree {lsts lsts' : List (Option LObj)} {t : Nat} {e : Ty} {x : AV} (h : ∀ j, .l j ∈ x.locs → getL lsts' j = getL lsts j) : appArg ε lsts' t e x = appArg ε lsts t e x := by
  unfold appArg
  split
  · rfl
  · rw [asTy_agree h]
end

theorem evOp_nat {ε : Env} (hu : ∀ f G sc, ε.fn f = some (G, sc) → PFun.Uni @G) {S : Type} (st : St) (o : Oper) (K : AV → St → Option S) : evOp ε st o K = (evOp ε st o two).bind (un2 K) := by
  obtain ⟨dst, op, type, pos, after, guard⟩ := o
  cases op <;> simp only [evOp]
  case move x => rfl
  case assign x => rfl
  case pick c a b => split <;> first | rfl | (rename_i t _; cases t <;> rfl)
  case alloc t => split <;> rfl
  case box t x => split <;> first | rfl | (split <;> rfl)
  case build t parts => rw [evBuild_nat, evBuild_nat (K := fun v => two v st), Option.bind_assoc]; rfl
  case buildSlice t n parts => exact evBuildSlice_nat ..
  case load t x => rw [evLoad_nat, evLoad_nat (K := fun v => two v st), Option.bind_assoc]; rfl
  case store t x y => rw [evStore_nat, evStore_nat (K := fun st' => two .dead st'), Option.bind_assoc]; rfl
  case nilCheck x =>
    split
    · split <;> rfl
    · rfl
    · split <;> rfl
    · split <;> rfl
    · split <;> rfl
    · rfl
  case binOp op xT x y yT => rw [evBin_nat, evBin_nat (K := fun v => two v st), Option.bind_assoc]; rfl
  case unOp op xT x => rw [evUn_nat, evUn_nat (K := fun v => two v st), Option.bind_assoc]; rfl
  case convert src dst' x => rw [evConv_nat, evConv_nat (K := fun v => two v st), Option.bind_assoc]; rfl
  case makeFunc f x y => rfl
  case makeInterface t x =>
    split
    · split <;> rfl
    · rfl
  case makeMap t n => split <;> first | exact evMakeMap_nat .. | rfl
  case lookup t x i ok => rw [evLookup_nat, evLookup_nat (K := fun v => two v st), Option.bind_assoc]; rfl
  case mapUpdate t m i x => rw [evMapUpdate_nat, evMapUpdate_nat (K := fun st' => two .dead st'), Option.bind_assoc]; rfl
  case insert t m i x => rw [evMapUpdate_nat, evMapUpdate_nat (K := fun st' => two .dead st'), Option.bind_assoc]; rfl
  case makeSlice t l c => exact evMake_nat ..
  case slice t x lo hi mx => rw [evSlice_nat, evSlice_nat (K := fun v => two v st), Option.bind_assoc]; rfl
  case fieldAddr t x f => rw [evFieldAddr_nat, evFieldAddr_nat (K := fun v => two v st), Option.bind_assoc]; rfl
  case field t x f => rw [evField_nat, evField_nat (K := fun v => two v st), Option.bind_assoc]; rfl
  case indexAddr t x i => rw [evIndexAddr_nat, evIndexAddr_nat (K := fun v => two v st), Option.bind_assoc]; rfl
  case index t x i => rw [evIndex_nat, evIndex_nat (K := fun v => two v st), Option.bind_assoc]; rfl
  case extract x i => split <;> first | rfl | (split <;> rfl)
  case call c =>
    obtain ⟨callee, args, argTypes⟩ := c
    dsimp only
    split
    · split
      · rw [evLen_nat, evLen_nat (K := fun v => two v st), Option.bind_assoc]; rfl
      · rfl
    · split
      · exact evAppend_nat ..
      · rfl
    · split
      · rw [evMin_nat, evMin_nat (K := fun v => two v st), Option.bind_assoc]; rfl
      · rfl
    · split
      · rw [evMax_nat, evMax_nat (K := fun v => two v st), Option.bind_assoc]; rfl
      · rfl
    · split
      · rw [evDelete_nat, evDelete_nat (K := fun st' => two (.tup []) st'), Option.bind_assoc]; rfl
      · rfl
    · split
      · split
        · exact evCall_nat ε hu ..
        · exact evHands_nat ..
      · rfl
    · rfl
  all_goals rfl

def Shift (ε : Env) (o : Oper) (st : St) (av : AV) (d : Del) : Prop :=
  ∀ st', Agree (touchOf st o) o.op.operands st st' → kindOf ε st' o = kindOf ε st o ∧ touchOf st' o = touchOf st o ∧
    ((d.kind = 1 → st'.recs.length = st.recs.length) → (d.kind = 2 → st'.lsts.length = st.lsts.length) → evOp ε st' o two = some (av, d.app st'))

theorem touch_agree {ts} {st st' : St} {o : Oper} (h : Agree ts o.op.operands st st') : touchOf st' o = touchOf st o := by
  unfold touchOf
  have : ∀ l : List Operand, (∀ x ∈ l, x ∈ o.op.operands) → (l.flatMap fun x => (st'.ev x).locs) = l.flatMap fun x => (st.ev x).locs := by
    intro l
    induction l with
    | nil => intro _; rfl
    | cons x l ih => intro hl; rw [List.flatMap_cons, List.flatMap_cons, h.ev x (hl x (by simp)), ih fun y hy => hl y (by simp [hy])]
  exact this _ fun x hx => by simpa using hx
theorem map_ev {st st' : St} : ∀ {l : List Operand}, (∀ x ∈ l, st'.ev x = st.ev x) → l.map st'.ev = l.map st.ev := fun h => List.map_congr_left h
theorem flat_ev {st st' : St} {β : Type} {g : AV → List β} : ∀ {l : List Operand}, (∀ x ∈ l, st'.ev x = st.ev x) → (l.flatMap fun p => g (st'.ev p)) = l.flatMap fun p => g (st.ev p)
  | [], _ => rfl
  | x :: l, h => by rw [List.flatMap_cons, List.flatMap_cons, h x (by simp), flat_ev fun y hy => h y (by simp [hy])]
theorem flat_parts {st st' : St} {β : Type} {g : AV → List β} : ∀ {l : List (Nat × Operand)}, (∀ p ∈ l, st'.ev p.2 = st.ev p.2) → (l.flatMap fun p => g (st'.ev p.2)) = l.flatMap fun p => g (st.ev p.2)
  | [], _ => rfl
  | x :: l, h => by rw [List.flatMap_cons, List.flatMap_cons, h x (by simp), flat_parts fun y hy => h y (by simp [hy])]
theorem freeze_nil (st : St) : st.freeze [] = st := rfl

theorem evLookup_agree {ε : Env} {S : Type} {t : Nat} {lsts lsts' : List (Option LObj)} {x i : AV} {ok : Bool} {K : AV → Option S} (h : ∀ j, .l j ∈ x.locs → getL lsts' j = getL lsts j) : evLookup ε t lsts' x i ok K = evLookup ε t lsts x i ok K := by
  unfold evLookup
  split
  · rename_i k v j q hinf
    have : asMap k v j.agg lsts' q = asMap k v j.agg lsts q := by unfold asMap; rw [h q (by simp [AV.locs])]
    rw [this]
  · rfl
mutual
theorem ren_same : ∀ v : AV, v.ren some some (fun x => .sx x) = v
  | .agg l => by simp only [AV.ren, renL_same l]
  | .ifc q l => by simp only [AV.ren, renL_same l]
  | .tup l => by simp only [AV.ren, renL_same l]
  | .pim l => by simp only [AV.ren, renL_same l]
  | .fn f a b => by simp only [AV.ren, renL_same a, renL_same b]
  | .ptr _ _ | .bld _ | .whole _ | .eptr _ _ _ | .sx _ | .d _ _ | .full _ _ | .nilS | .nilP | .dead => by simp only [AV.ren]
theorem renL_same : ∀ l : List AV, renL some some (fun x => .sx x) l = l
  | [] => rfl
  | v :: l => by simp only [renL, ren_same v, renL_same l]
end
theorem unview_new (st : St) (sl : List AV) (l : Option LObj) : unview st [] [] .no ⟨sl, [], [l]⟩ = { st with lsts := st.lsts ++ [l] } := by
  have e1 : (unL [] st ⟨sl, [], [l]⟩) = some := by funext t; simp [unL, idx]
  have e2 : SM.old .no = fun x => .sx x := by funext x; rfl
  unfold unview
  rw [e1, e2, renL_same]
  congr 1
  · apply List.ext_getElem?
    intro j
    simp only [List.length_nil, Nat.sub_zero, Nat.add_zero, List.getElem?_map]
    by_cases h : j < st.recs.length
    · rw [List.getElem?_range h]
      have hs : srcN [] st.recs.length j = none := by
        have : Nat.blt j st.recs.length = true := by simpa [Nat.blt_eq] using h
        simp [srcN, idx, this]
      simp only [Option.map_some, newRecs, hs, e1, e2]
      cases hr : st.recs[j]? with
      | none => rw [List.getElem?_eq_none_iff] at hr; omega
      | some c => cases c with
        | none => simp [getL, hr]
        | some c => simp [getL, hr, SM.isHand, renL_same]
    · rw [List.getElem?_eq_none (by simpa using h), List.getElem?_eq_none (by omega)]; rfl
  · apply List.ext_getElem?
    intro j
    simp only [List.length_cons, List.length_nil, Nat.sub_zero, List.getElem?_map]
    by_cases h : j < st.lsts.length
    · rw [List.getElem?_range (by omega), List.getElem?_append_left h]
      have hs : srcN [] st.lsts.length j = none := by
        have : Nat.blt j st.lsts.length = true := by simpa [Nat.blt_eq] using h
        simp [srcN, idx, this]
      simp only [Option.map_some, newLsts, hs]
      cases hr : st.lsts[j]? with
      | none => rw [List.getElem?_eq_none_iff] at hr; omega
      | some c => cases c <;> simp [getL, hr]
    · by_cases h2 : j = st.lsts.length
      · subst h2
        rw [List.getElem?_range (by omega), List.getElem?_append_right (Nat.le_refl _)]
        have hs : srcN [] st.lsts.length st.lsts.length = some 0 := by
          have : Nat.blt st.lsts.length st.lsts.length = false := by rw [← Bool.not_eq_true, Nat.blt_eq]; omega
          simp [srcN, idx, this]
        simp only [Option.map_some, newLsts, hs]
        cases l <;> simp [getL]
      · rw [List.getElem?_eq_none (by simp; omega), List.getElem?_eq_none (by simp; omega)]; rfl
theorem evHands_fresh {h : HF} (hf : freshHF h = true) : ∃ l : Option LObj, ∀ {S : Type} (st : St) (args : St → Option (List AV)) (K : AV → St → Option S), args st = some [] → evHands st args K [h] = l.bind fun l => K (.whole st.lsts.length) { st with lsts := st.lsts ++ [some l] } := by
  obtain ⟨⟨a, b, c⟩, ⟨d, e, f⟩, F⟩ := h
  unfold freshHF at hf
  split at hf
  · rename_i t h1 h2
    dsimp only at h1 h2
    cases h1; cases h2
    refine ⟨(F ((), (), ())).map fun o => ⟨t, o.2.2.1⟩, fun {S} st args K ha => ?_⟩
    simp only [evHands, ha, Option.bind_some, mt, mtL, mtRecs, freeze_nil, fixSM, evHand]
    show ((F ((), (), ())).bind fun o => match keptMaps st (fill ⟨[.whole 0], [], [some t]⟩ o) [] 0 with | true => K (resVal (unvals st [] [] .no (fill ⟨[.whole 0], [], [some t]⟩ o))) (unview st [] [] .no (fill ⟨[.whole 0], [], [some t]⟩ o)) | false => none) = _
    cases F ((), (), ()) with
    | none => rfl
    | some o =>
      simp only [Option.bind_some, Option.map_some, keptMaps, fill, fillR, fillT, unview_new]
      rfl
  · cases hf
theorem evOp_shift {ε : Env} (hu : ∀ f G sc, ε.fn f = some (G, sc) → PFun.Uni @G) {st st1 : St} {o : Oper} {av : AV} (hk : kindOf ε st o < 3) (h : evOp ε st o two = some (av, st1)) :
    ∃ d : Del, st1 = d.app st ∧ d.kind = kindOf ε st o ∧ Shift ε o st av d := by
  obtain ⟨dst, op, type, pos, after, guard⟩ := o
  have tch : ∀ {st'} (ts), Agree ts op.operands st st' → touchOf st' ⟨dst, op, type, pos, after, guard⟩ = touchOf st ⟨dst, op, type, pos, after, guard⟩ := fun ts ha => touch_agree ha
  have lk : ∀ {st'} (x : Operand), x ∈ op.operands → Agree (touchOf st ⟨dst, op, type, pos, after, guard⟩) op.operands st st' → ∀ l ∈ (st.ev x).locs, Look st st' l := by
    intro st' x hx ha l hl
    refine ha.look l ?_
    unfold touchOf
    exact List.mem_flatMap.2 ⟨x, by simpa using hx, hl⟩
  have lkl : ∀ {st'} (x : Operand), x ∈ op.operands → Agree (touchOf st ⟨dst, op, type, pos, after, guard⟩) op.operands st st' → ∀ j, .l j ∈ (st.ev x).locs → getL st'.lsts j = getL st.lsts j := fun x hx ha j hj => lk x hx ha _ hj
  cases op <;> simp only [evOp] at h <;> try (cases h; done)
  case makeMap t n => simp [kindOf] at hk
  case lookup t x i ok =>
    rw [evLookup_nat] at h
    obtain ⟨v, hv, e⟩ := Option.bind_eq_some_iff.1 h
    cases e
    refine ⟨.no, rfl, rfl, fun st' ha => ⟨rfl, tch _ ha, fun _ _ => ?_⟩⟩
    simp only [evOp]
    rw [ha.ev x (by simp [Op.operands]), ha.ev i (by simp [Op.operands]), evLookup_agree (lkl x (by simp [Op.operands]) ha), evLookup_nat, hv]; rfl
  case mapUpdate t m i x => simp [kindOf] at hk
  case insert t m i x => simp [kindOf] at hk
  case move x =>
    cases h
    exact ⟨.no, rfl, rfl, fun st' ha => ⟨rfl, tch _ ha, fun _ _ => by simp only [evOp]; rw [ha.ev x (by simp [Op.operands])]; rfl⟩⟩
  case assign x =>
    cases h
    exact ⟨.no, rfl, rfl, fun st' ha => ⟨rfl, tch _ ha, fun _ _ => by simp only [evOp]; rw [ha.ev x (by simp [Op.operands])]; rfl⟩⟩
  case pick c a b =>
    split at h
    · rename_i t hc
      refine ⟨.no, ?_, rfl, fun st' ha => ⟨rfl, tch _ ha, fun _ _ => ?_⟩⟩
      · cases t <;> (cases h; rfl)
      · simp only [evOp]
        rw [ha.ev c (by simp [Op.operands]), ha.ev a (by simp [Op.operands]), ha.ev b (by simp [Op.operands]), hc]
        cases t <;> (cases h; rfl)
    · cases h
  case alloc t =>
    split at h
    · rename_i i hi
      cases h
      refine ⟨.new (bldZero i.bld st.recs.length i.zero), rfl, rfl, fun st' ha => ⟨rfl, tch _ ha, fun h1 _ => ?_⟩⟩
      simp only [evOp, hi]
      rw [h1 rfl]; rfl
    · cases h
  case box t x =>
    split at h
    · rename_i i hi
      split at h
      · rename_i hc
        cases h
        refine ⟨.new (bldZero i.bld st.recs.length (st.ev x).cells), rfl, rfl, fun st' ha => ⟨rfl, tch _ ha, fun h1 _ => ?_⟩⟩
        simp only [evOp, hi]
        rw [ha.ev x (by simp [Op.operands]), if_pos hc, h1 rfl]; rfl
      · cases h
    · cases h
  case build t parts =>
    rw [evBuild_nat] at h
    obtain ⟨v, hv, e⟩ := Option.bind_eq_some_iff.1 h
    cases e
    refine ⟨.no, rfl, rfl, fun st' ha => ⟨rfl, tch _ ha, fun _ _ => ?_⟩⟩
    simp only [evOp]
    have : (parts.toList.map fun p => (p.1, st'.ev p.2)) = parts.toList.map fun p => (p.1, st.ev p.2) := List.map_congr_left fun p hp => by
      rw [ha.ev p.2 (by simp only [Op.operands, List.mem_toArray, List.mem_map]; exact ⟨p, hp, rfl⟩)]
    rw [this, evBuild_nat, hv]; rfl
  case buildSlice t n parts =>
    cases hp : parts.toList with
    | nil =>
      rw [hp] at h
      unfold evBuildSlice at h
      split at h
      · rename_i e he
        split at h
        · rename_i hc
          cases h
          refine ⟨.lst ⟨e, []⟩, rfl, by simp only [kindOf, hp, Del.kind], fun st' ha => ⟨by simp only [kindOf, hp], tch _ ha, fun _ h2 => ?_⟩⟩
          simp only [evOp, hp]; unfold evBuildSlice; simp only [he, if_pos hc, h2 rfl]; rfl
        · cases h
      · cases h
    | cons p0 l0 =>
      cases hown : ownLit ε dst with
      | true => simp only [kindOf, hp, hown] at hk; omega
      | false =>
      have hkd : ∀ s : St, kindOf ε s ⟨dst, .buildSlice t n parts, type, pos, after, guard⟩ = (match parts.toList.flatMap fun p => (s.ev p.2).wholes with | [] => 0 | _ => 3) := fun s => by simp only [kindOf, hp, hown]; generalize List.flatMap _ _ = z; cases z <;> rfl
      rw [hkd] at hk
      rw [hkd]
      split at hk
      · rename_i hw
        have hfr : ∀ {st'}, Agree (touchOf st ⟨dst, .buildSlice t n parts, type, pos, after, guard⟩) (Op.buildSlice t n parts).operands st st' → ∀ p ∈ parts.toList, st'.ev p.2 = st.ev p.2 := fun ha p hp =>
          ha.ev p.2 (by simp only [Op.operands, List.mem_toArray, List.mem_map]; exact ⟨p, hp, rfl⟩)
        have key : st1 = st ∧ ∀ st', (∀ p ∈ parts.toList, st'.ev p.2 = st.ev p.2) → evBuildSlice ε st' (ownLit ε dst) t n parts.toList two = some (av, st') := by
          unfold evBuildSlice at h ⊢
          split at h
          · rename_i e he
            split at h
            · rename_i hc
              simp only [he, if_pos hc]
              split at h
              · rename_i hp'; rw [hp] at hp'; cases hp'
              · rename_i l hne hl
                rw [hown] at h ⊢
                dsimp only at h ⊢
                rw [hw, freeze_nil] at h
                obtain ⟨v, hv, e⟩ := Option.bind_eq_some_iff.1 h
                cases e
                refine ⟨rfl, fun st' hev => ?_⟩
                rw [flat_parts (g := AV.wholes) hev, hw, freeze_nil]
                have : (parts.toList.map fun p => (p.1, st'.ev p.2)) = parts.toList.map fun p => (p.1, st.ev p.2) := List.map_congr_left fun p hp => by rw [hev p hp]
                rw [this, hv]; rfl
            · cases h
          · cases h
        obtain ⟨rfl, key⟩ := key
        refine ⟨.no, rfl, by first | rfl | (rw [hw]; rfl), fun st' ha => ⟨?_, tch _ ha, fun _ _ => key st' (hfr ha)⟩⟩
        rw [hkd]
        rw [flat_parts (g := AV.wholes) (hfr ha), hkd]
      · omega
  case load t x =>
    rw [evLoad_nat] at h
    obtain ⟨v, hv, e⟩ := Option.bind_eq_some_iff.1 h
    cases e
    refine ⟨.no, rfl, rfl, fun st' ha => ⟨rfl, tch _ ha, fun _ _ => ?_⟩⟩
    simp only [evOp]
    rw [ha.ev x (by simp [Op.operands]), evLoad_agree ε (lk x (by simp [Op.operands]) ha), evLoad_nat, hv]; rfl
  case store t x y => simp only [kindOf] at hk; split at hk <;> (try split at hk) <;> omega
  case nilCheck x =>
    have hx := fun {st'} (ha : Agree (touchOf st ⟨dst, .nilCheck x, type, pos, after, guard⟩) (Op.nilCheck x).operands st st') => lk x (by simp [Op.operands]) ha
    split at h
    · rename_i r off he
      split at h
      · rename_i hl
        cases h
        refine ⟨.no, rfl, rfl, fun st' ha => ⟨rfl, tch _ ha, fun _ _ => ?_⟩⟩
        simp only [evOp]
        have := hx ha (.r r) (by rw [he]; simp [AV.locs])
        simp only [Look] at this
        rw [ha.ev x (by simp [Op.operands]), he]; dsimp only; rw [this, if_pos hl]; rfl
      · cases h
    · rename_i l he
      cases h
      exact ⟨.no, rfl, rfl, fun st' ha => ⟨rfl, tch _ ha, fun _ _ => by simp only [evOp]; rw [ha.ev x (by simp [Op.operands]), he]; rfl⟩⟩
    · rename_i t i off he
      split at h
      · rename_i hl
        cases h
        refine ⟨.no, rfl, rfl, fun st' ha => ⟨rfl, tch _ ha, fun _ _ => ?_⟩⟩
        simp only [evOp]
        have := hx ha (.l t) (by rw [he]; simp [AV.locs])
        simp only [Look] at this
        rw [ha.ev x (by simp [Op.operands]), he]; dsimp only; rw [this, if_pos hl]; rfl
      · cases h
    · rename_i y he
      split at h
      · cases h
        exact ⟨.no, rfl, rfl, fun st' ha => ⟨rfl, tch _ ha, fun _ _ => by simp only [evOp]; rw [ha.ev x (by simp [Op.operands]), he]; rfl⟩⟩
      · cases h
    · rename_i f a1 a2 he
      split at h
      · cases h
        exact ⟨.no, rfl, rfl, fun st' ha => ⟨rfl, tch _ ha, fun _ _ => by simp only [evOp]; rw [ha.ev x (by simp [Op.operands]), he]; rfl⟩⟩
      · cases h
    · cases h
  case binOp op xT x y yT =>
    rw [evBin_nat] at h
    obtain ⟨v, hv, e⟩ := Option.bind_eq_some_iff.1 h
    cases e
    refine ⟨.no, rfl, rfl, fun st' ha => ⟨rfl, tch _ ha, fun _ _ => ?_⟩⟩
    simp only [evOp]
    rw [ha.ev x (by simp [Op.operands]), ha.ev y (by simp [Op.operands]), evBin_nat, hv]; rfl
  case unOp op xT x =>
    rw [evUn_nat] at h
    obtain ⟨v, hv, e⟩ := Option.bind_eq_some_iff.1 h
    cases e
    refine ⟨.no, rfl, rfl, fun st' ha => ⟨rfl, tch _ ha, fun _ _ => ?_⟩⟩
    simp only [evOp]
    rw [ha.ev x (by simp [Op.operands]), evUn_nat, hv]; rfl
  case convert src dst' x =>
    rw [evConv_nat] at h
    obtain ⟨v, hv, e⟩ := Option.bind_eq_some_iff.1 h
    cases e
    refine ⟨.no, rfl, rfl, fun st' ha => ⟨rfl, tch _ ha, fun _ _ => ?_⟩⟩
    simp only [evOp]
    rw [ha.ev x (by simp [Op.operands]), evConv_agree ε (lkl x (by simp [Op.operands]) ha), evConv_nat, hv]; rfl
  case makeFunc f x y =>
    cases h
    refine ⟨.no, rfl, rfl, fun st' ha => ⟨rfl, tch _ ha, fun _ _ => ?_⟩⟩
    simp only [evOp]
    rw [map_ev (l := x.toList) fun z hz => ha.ev z (by simp [Op.operands]; exact .inl (by simpa using hz)), map_ev (l := y.toList) fun z hz => ha.ev z (by simp [Op.operands]; exact .inr (by simpa using hz))]; rfl
  case makeInterface t x =>
    split at h
    · rename_i i hi
      have h2 : two (AV.ifc t [st.ev x]) st = some (av, st1) := by
        split at h <;> first | exact h | cases h
      have h3 := h2
      cases h3
      refine ⟨.no, rfl, rfl, fun st' ha => ⟨rfl, tch _ ha, fun _ _ => ?_⟩⟩
      simp only [evOp, hi]
      rw [ha.ev x (by simp [Op.operands])]
      split at h <;> first | rfl | cases h
    · cases h
  case makeSlice t l c =>
    have key : ∃ lo, st1 = (Del.lst lo).app st ∧ ∀ st', st'.ev l = st.ev l → st'.ev c = st.ev c → st'.lsts.length = st.lsts.length → evMake ε st' t (st'.ev l) (st'.ev c) two = some (av, (Del.lst lo).app st') := by
      unfold evMake at h ⊢
      split at h
      · cases h
      · rename_i et het
        try simp only [het]
        split at h
        · rename_i i _ n _ c' hi hl hc
          try simp only [hi]
          split at h
          · rename_i e he
            try simp only [he]
            split at h
            · rename_i z hz
              unfold makeOk at h ⊢
              split at h
              · rename_i hok
                cases h
                refine ⟨_, rfl, fun st' e1 e2 e3 => ?_⟩
                rw [e1, e2, hl, hc]; simp only [hi, he, hz, if_pos hok, e3]; rfl
              · cases h
            · cases h
          · cases h
        · cases h
    obtain ⟨lo, rfl, key⟩ := key
    exact ⟨.lst lo, rfl, rfl, fun st' ha => ⟨rfl, tch _ ha, fun _ h2 => by simp only [evOp]; exact key st' (ha.ev l (by simp [Op.operands])) (ha.ev c (by simp [Op.operands])) (h2 rfl)⟩⟩
  case slice t x lo hi mx =>
    rw [evSlice_nat] at h
    obtain ⟨v, hv, e⟩ := Option.bind_eq_some_iff.1 h
    cases e
    refine ⟨.no, rfl, rfl, fun st' ha => ⟨rfl, tch _ ha, fun _ _ => ?_⟩⟩
    simp only [evOp]
    have hopt : ∀ y : Option Operand, (∀ z ∈ y, z ∈ (Op.slice t x lo hi mx).operands) → opt st' y = opt st y := by
      intro y hy; cases y with
      | none => rfl
      | some z => simp only [opt, Option.map_some]; rw [ha.ev z (hy z rfl)]
    rw [ha.ev x (by simp [Op.operands]), hopt lo (fun z hz => by cases hz; simp [Op.operands]), hopt hi (fun z hz => by cases hz; simp [Op.operands]), hopt mx (fun z hz => by cases hz; simp [Op.operands]), evSlice_nat, hv]; rfl
  case fieldAddr t x f =>
    rw [evFieldAddr_nat] at h
    obtain ⟨v, hv, e⟩ := Option.bind_eq_some_iff.1 h
    cases e
    refine ⟨.no, rfl, rfl, fun st' ha => ⟨rfl, tch _ ha, fun _ _ => ?_⟩⟩
    simp only [evOp]
    rw [ha.ev x (by simp [Op.operands]), evFieldAddr_agree ε (lk x (by simp [Op.operands]) ha), evFieldAddr_nat, hv]; rfl
  case field t x f =>
    rw [evField_nat] at h
    obtain ⟨v, hv, e⟩ := Option.bind_eq_some_iff.1 h
    cases e
    refine ⟨.no, rfl, rfl, fun st' ha => ⟨rfl, tch _ ha, fun _ _ => ?_⟩⟩
    simp only [evOp]
    rw [ha.ev x (by simp [Op.operands]), evField_nat, hv]; rfl
  case indexAddr t x i =>
    rw [evIndexAddr_nat] at h
    obtain ⟨v, hv, e⟩ := Option.bind_eq_some_iff.1 h
    cases e
    refine ⟨.no, rfl, rfl, fun st' ha => ⟨rfl, tch _ ha, fun _ _ => ?_⟩⟩
    simp only [evOp]
    rw [ha.ev x (by simp [Op.operands]), ha.ev i (by simp [Op.operands]), evIndexAddr_agree ε (lkl x (by simp [Op.operands]) ha), evIndexAddr_nat, hv]; rfl
  case index t x i =>
    rw [evIndex_nat] at h
    obtain ⟨v, hv, e⟩ := Option.bind_eq_some_iff.1 h
    cases e
    refine ⟨.no, rfl, rfl, fun st' ha => ⟨rfl, tch _ ha, fun _ _ => ?_⟩⟩
    simp only [evOp]
    rw [ha.ev x (by simp [Op.operands]), ha.ev i (by simp [Op.operands]), evIndex_nat, hv]; rfl
  case extract x i =>
    split at h
    · rename_i l he
      split at h
      · rename_i v hv
        cases h
        refine ⟨.no, rfl, rfl, fun st' ha => ⟨rfl, tch _ ha, fun _ _ => ?_⟩⟩
        simp only [evOp]
        rw [ha.ev x (by simp [Op.operands]), he]; dsimp only; rw [hv]; rfl
      · cases h
    · cases h
  case call c =>
    obtain ⟨callee, args, argTypes⟩ := c
    have mem : ∀ x ∈ args, x ∈ (Op.call ⟨callee, args, argTypes⟩).operands := fun x hx => by simp [Op.operands, Call.operands, hx]
    simp only at h
    split at h
    · split at h
      · rename_i t x hts hxs
        have e1 : argTypes = #[t] := by apply Array.ext'; simpa using hts
        have e2 : args = #[x] := by apply Array.ext'; simpa using hxs
        subst e1; subst e2
        rw [evLen_nat] at h
        obtain ⟨v, hv, e⟩ := Option.bind_eq_some_iff.1 h
        cases e
        refine ⟨.no, rfl, rfl, fun st' ha => ⟨rfl, tch _ ha, fun _ _ => ?_⟩⟩
        simp only [evOp]
        rw [ha.ev x (mem x (by simp)), evLen_agree ε (lkl x (mem x (by simp)) ha), evLen_nat, hv]; rfl
      · cases h
    · split at h
      · rename_i t u s x hts hxs
        have e1 : argTypes = #[t, u] := by apply Array.ext'; simpa using hts
        have e2 : args = #[s, x] := by apply Array.ext'; simpa using hxs
        subst e1; subst e2
        unfold evAppend at h
        split at h
        · rename_i hs
          split at h
          · rename_i e he
            obtain ⟨ys, hys, e'⟩ := Option.bind_eq_some_iff.1 h
            unfold appOk at e'
            split at e'
            · rename_i hok
              cases e'
              refine ⟨.lst ⟨e, ys⟩, rfl, by simp only [kindOf, hs, Del.kind], fun st' ha => ⟨?_, tch _ ha, fun _ h2 => ?_⟩⟩
              · simp only [kindOf]; rw [ha.ev s (mem s (by simp))]
              · simp only [evOp]
                rw [ha.ev s (mem s (by simp)), ha.ev x (mem x (by simp)), hs]
                simp only [evAppend, he]
                rw [appArg_agree ε (lkl x (mem x (by simp)) ha), hys, h2 rfl]
                simp only [Option.bind_some, appOk, if_pos hok]; rfl
            · cases e'
          · cases h
        · rename_i e xs hs
          split at h
          · rename_i he
            obtain ⟨ys, hys, e'⟩ := Option.bind_eq_some_iff.1 h
            unfold appOk at e'
            split at e'
            · rename_i hok
              cases e'
              refine ⟨.no, rfl, by simp only [kindOf, hs, Del.kind], fun st' ha => ⟨?_, tch _ ha, fun _ h2 => ?_⟩⟩
              · simp only [kindOf]; rw [ha.ev s (mem s (by simp))]
              · simp only [evOp]
                rw [ha.ev s (mem s (by simp)), ha.ev x (mem x (by simp)), hs]
                simp only [evAppend, if_pos he]
                rw [appArg_agree ε (lkl x (mem x (by simp)) ha), hys]
                simp only [Option.bind_some, appOk, if_pos hok]; rfl
            · cases e'
          · cases h
        · rename_i q hs
          simp [kindOf, hs] at hk
        · rename_i fs hs
          simp [kindOf, hs] at hk
        · cases h
      · cases h
    · split at h
      · rename_i x y hxs
        have e2 : args = #[x, y] := by apply Array.ext'; simpa using hxs
        subst e2
        rw [evMin_nat] at h
        obtain ⟨v, hv, e⟩ := Option.bind_eq_some_iff.1 h
        cases e
        refine ⟨.no, rfl, rfl, fun st' ha => ⟨rfl, tch _ ha, fun _ _ => ?_⟩⟩
        simp only [evOp]
        rw [ha.ev x (mem x (by simp)), ha.ev y (mem y (by simp)), evMin_nat, hv]; rfl
      · cases h
    · split at h
      · rename_i x y hxs
        have e2 : args = #[x, y] := by apply Array.ext'; simpa using hxs
        subst e2
        rw [evMax_nat] at h
        obtain ⟨v, hv, e⟩ := Option.bind_eq_some_iff.1 h
        cases e
        refine ⟨.no, rfl, rfl, fun st' ha => ⟨rfl, tch _ ha, fun _ _ => ?_⟩⟩
        simp only [evOp]
        rw [ha.ev x (mem x (by simp)), ha.ev y (mem y (by simp)), evMax_nat, hv]; rfl
      · cases h
    · simp [kindOf] at hk
    · rename_i g
      split at h
      · rename_i f pre post hg
        have memg : g ∈ (Op.call ⟨.value g, args, argTypes⟩).operands := by simp [Op.operands, Call.operands]
        have hargs : ∀ {st'}, Agree (touchOf st ⟨dst, .call ⟨.value g, args, argTypes⟩, type, pos, after, guard⟩) (Op.call ⟨.value g, args, argTypes⟩).operands st st' → ∀ x ∈ args.toList, st'.ev x = st.ev x := fun ha x hx => ha.ev x (mem x (by simpa using hx))
        simp only [kindOf, hg] at hk
        split at h
        rotate_left
        · rename_i hsome
          cases hf : ε.fn f with
          | some y => rw [hf] at hsome; cases hsome
          | none =>
            rw [hf] at hk
            dsimp only at hk
            split at hk
            · rename_i hfc
              have hfc0 := hfc
              unfold freshCall at hfc
              split at hfc
              · rename_i hh harg hhf
                obtain rfl : args = #[] := by apply Array.ext'; simpa using harg
                obtain ⟨l, hl⟩ := evHands_fresh hfc
                have hca : ∀ s : St, s.ev g = st.ev g → callArgs g [] s = some [] := fun s hs => by simp [callArgs, hs, hg]
                rw [hhf, hl st _ _ (hca st rfl)] at h
                obtain ⟨lo, rfl, h⟩ := Option.bind_eq_some_iff.1 h
                cases h
                refine ⟨.lst lo, rfl, by simp only [kindOf, hg, hf, hfc0, Del.kind], fun st' ha => ⟨?_, tch _ ha, fun _ h2 => ?_⟩⟩
                · simp only [kindOf, hg, hf]; rw [ha.ev g memg, hg]; dsimp only; rw [hf]
                · simp only [evOp]
                  rw [ha.ev g memg, hg]
                  simp only [hf, Option.isSome_none]
                  rw [hhf, hl st' _ _ (hca st' (ha.ev g memg))]
                  simp only [Option.bind_some, h2 rfl]; rfl
              · cases hfc
            · omega
        unfold evCall at h
        split at h
        · cases h
        · rename_i G sc hf
          simp only [hf] at hk
          have hG := hu f G sc hf
          cases sc with
          | true =>
            simp only [if_true] at h
            obtain ⟨as, has, h⟩ := Option.bind_eq_some_iff.1 h
            replace h := (hG _ as _).symm.trans h
            obtain ⟨v, hv, h⟩ := Option.bind_eq_some_iff.1 h
            split at h
            · rename_i hsc
              cases h
              refine ⟨.no, rfl, by simp only [kindOf, hg, hf, Del.kind], fun st' ha => ⟨?_, tch _ ha, fun _ _ => ?_⟩⟩
              · simp only [kindOf, hg, hf]; rw [ha.ev g memg, hg]; dsimp only; rw [hf]
              · simp only [evOp]
                rw [ha.ev g memg, hg]
                simp only [evCall, hf, if_true, Option.isSome_some]
                rw [map_ev (hargs ha), closeL_agree (l := pre ++ args.toList.map st.ev ++ post) (lsts' := st'.lsts) (lsts := st.lsts), has, Option.bind_some]
                · refine (hG _ as _).trans ?_; rw [hv, Option.bind_some, if_pos hsc]; rfl
                · intro j hj
                  rw [locsL_append, locsL_append, List.mem_append, List.mem_append] at hj
                  have hgl := lkl g memg ha
                  rw [hg] at hgl
                  rcases hj with (hj | hj) | hj
                  · exact hgl j (by simp only [AV.locs, List.mem_append]; exact .inl hj)
                  · obtain ⟨v, hv, hx⟩ := locsL_of hj
                    obtain ⟨x, hx', rfl⟩ := List.mem_map.1 hv
                    exact lkl x (mem x (by simpa using hx')) ha j hx
                  · exact hgl j (by simp only [AV.locs, List.mem_append]; exact .inr hj)
            · cases h
          | false =>
            simp only [Bool.false_eq_true, if_false] at h
            simp only at hk
            split at hk
            · rename_i hw
              rw [hw, freeze_nil] at h
              split at h
              · rename_i hcl
                replace h := (hG _ _ _).symm.trans h
                obtain ⟨v, hv, h⟩ := Option.bind_eq_some_iff.1 h
                cases h
                refine ⟨.no, rfl, by simp only [kindOf, hg, hf, Del.kind, hw], fun st' ha => ⟨?_, tch _ ha, fun _ _ => ?_⟩⟩
                · simp only [kindOf, hg, hf]; rw [ha.ev g memg, hg]; dsimp only; rw [hf]; dsimp only; rw [flat_ev (g := AV.wholes) (hargs ha)]
                · simp only [evOp]
                  rw [ha.ev g memg, hg]
                  simp only [evCall, hf, Bool.false_eq_true, if_false, Option.isSome_some]
                  rw [flat_ev (g := AV.wholes) (hargs ha), hw, freeze_nil, map_ev (hargs ha), if_pos hcl]; refine (hG _ _ _).trans ?_; rw [hv]; rfl
              · cases h
            · omega
      · cases h
    · cases h

mutual
theorem AV.kill_closed (t : Nat) : ∀ {v : AV}, (v.kill t).closed = true → v.kill t = v
  | .whole j, h => by
    simp only [AV.kill] at h ⊢
    split at h
    · cases h
    · cases h
  | .eptr j i o, h => by
    simp only [AV.kill] at h ⊢
    split at h
    · cases h
    · cases h
  | .pim l, h => by simp only [AV.kill, AV.closed] at h ⊢; rw [killL_closed t h]
  | .agg l, h => by simp only [AV.kill, AV.closed] at h ⊢; rw [killL_closed t h]
  | .ifc q l, h => by simp only [AV.kill, AV.closed] at h ⊢; rw [killL_closed t h]
  | .tup l, h => by simp only [AV.kill, AV.closed] at h ⊢; rw [killL_closed t h]
  | .fn f a b, h => by
    simp only [AV.kill, AV.closed, Bool.and_eq_true] at h ⊢; rw [killL_closed t h.1, killL_closed t h.2]
  | .d _ _, _ | .full _ _, _ | .nilS, _ | .nilP, _ | .ptr _ _, _ | .sx _, _ | .dead, _ => by simp only [AV.kill]
theorem killL_closed (t : Nat) : ∀ {l : List AV}, closedL (killL t l) = true → killL t l = l
  | [], _ => rfl
  | v :: l, h => by simp only [killL, closedL, Bool.and_eq_true] at h ⊢; rw [AV.kill_closed t h.1, killL_closed t h.2]
end
mutual
theorem AV.closed_kill (t : Nat) : ∀ {v : AV}, v.closed = true → v.kill t = v
  | .pim l, h => by simp only [AV.kill, AV.closed] at h ⊢; rw [closed_killL t h]
  | .agg l, h => by simp only [AV.kill, AV.closed] at h ⊢; rw [closed_killL t h]
  | .ifc q l, h => by simp only [AV.kill, AV.closed] at h ⊢; rw [closed_killL t h]
  | .tup l, h => by simp only [AV.kill, AV.closed] at h ⊢; rw [closed_killL t h]
  | .fn f a b, h => by
    simp only [AV.kill, AV.closed, Bool.and_eq_true] at h ⊢; rw [closed_killL t h.1, closed_killL t h.2]
  | .d _ _, _ | .full _ _, _ | .nilS, _ | .nilP, _ => by simp only [AV.kill]
  | .whole _, h | .eptr _ _ _, h | .ptr _ _, h | .bld _, h | .sx _, h | .dead, h => by simp [AV.closed] at h
theorem closed_killL (t : Nat) : ∀ {l : List AV}, closedL l = true → killL t l = l
  | [], _ => rfl
  | v :: l, h => by simp only [killL, closedL, Bool.and_eq_true] at h ⊢; rw [AV.closed_kill t h.1, closed_killL t h.2]
end
mutual
theorem AV.closed_locs : ∀ {v : AV}, v.closed = true → v.locs = []
  | .agg l, h => by simp only [AV.locs, AV.closed] at h ⊢; rw [closed_locsL h]
  | .ifc q l, h => by simp only [AV.locs, AV.closed] at h ⊢; rw [closed_locsL h]
  | .tup l, h => by simp only [AV.locs, AV.closed] at h ⊢; rw [closed_locsL h]
  | .fn f a b, h => by
    simp only [AV.locs, AV.closed, Bool.and_eq_true] at h ⊢; rw [closed_locsL h.1, closed_locsL h.2]; rfl
  | .d _ _, _ | .full _ _, _ | .nilS, _ | .nilP, _ | .pim _, _ => by simp only [AV.locs]
  | .whole _, h | .eptr _ _ _, h | .ptr _ _, h | .bld _, h | .sx _, h | .dead, h => by simp [AV.closed] at h
theorem closed_locsL : ∀ {l : List AV}, closedL l = true → locsL l = []
  | [], _ => rfl
  | v :: l, h => by simp only [locsL, closedL, Bool.and_eq_true] at h ⊢; rw [AV.closed_locs h.1, closed_locsL h.2]; rfl
end
def killSet (t : Nat) (l : LObj) (st : St) : St := { (st.mapAV (AV.kill t)) with lsts := st.lsts.set t (some l) }
theorem evOp_shift4 {ε : Env} {st st1 : St} {o : Oper} {av : AV} (hk : kindOf ε st o = 4) (h : evOp ε st o two = some (av, st1)) :
    ∃ t l, tgtOf st o = t ∧ (getL st.lsts t).isSome = true ∧ st1 = killSet t l st ∧ ∀ st', Agree (touchOf st o) o.op.operands st st' → kindOf ε st' o = 4 ∧ touchOf st' o = touchOf st o ∧ evOp ε st' o two = some (av, killSet t l st') := by
  obtain ⟨dst, op, type, pos, after, guard⟩ := o
  cases op <;> simp only [kindOf] at hk <;> try (cases hk; done)
  case buildSlice => split at hk <;> first | (cases hk; done) | (split at hk <;> first | (cases hk; done) | (split at hk <;> cases hk))
  case store => split at hk <;> (try split at hk) <;> cases hk
  case call c =>
    obtain ⟨callee, args, argTypes⟩ := c
    simp only at hk
    split at hk
    · split at hk
      · rename_i s rest hargs
        split at hk <;> try (cases hk; done)
        rename_i q hs
        simp only [evOp] at h
        split at h
        · rename_i t u s' x hts hxs
          have e1 : argTypes = #[t, u] := by apply Array.ext'; simpa using hts
          have e2 : args = #[s', x] := by apply Array.ext'; simpa using hxs
          subst e1; subst e2
          simp only [List.cons.injEq] at hargs
          obtain ⟨rfl, _⟩ := hargs
          rw [hs] at h
          simp only [evAppend] at h
          split at h
          · rename_i lo hlo
            split at h
            · rename_i he
              obtain ⟨ys, hys, e'⟩ := Option.bind_eq_some_iff.1 h
              unfold appOk at e'
              split at e'
              · rename_i hok
                cases e'
                refine ⟨q, _, by simp [tgtOf, hs], by rw [hlo]; rfl, rfl, fun st' ha => ?_⟩
                have ms : s' ∈ (Op.call ⟨.builtin .append, #[s', x], #[t, u]⟩).operands := by simp [Op.operands, Call.operands]
                have mx : x ∈ (Op.call ⟨.builtin .append, #[s', x], #[t, u]⟩).operands := by simp [Op.operands, Call.operands]
                have es := ha.ev s' ms
                have ex := ha.ev x mx
                have lk : ∀ (y : Operand), y ∈ (Op.call ⟨.builtin .append, #[s', x], #[t, u]⟩).operands → ∀ j, .l j ∈ (st.ev y).locs → getL st'.lsts j = getL st.lsts j := by
                  intro y hy j hj
                  exact ha.look (.l j) (by unfold touchOf; exact List.mem_flatMap.2 ⟨y, by simpa using hy, hj⟩)
                refine ⟨by simp only [kindOf]; rw [es, hs], touch_agree ha, ?_⟩
                simp only [evOp]
                rw [es, ex, hs]
                simp only [evAppend]
                rw [lk s' ms q (by rw [hs]; simp [AV.locs]), hlo]
                simp only [if_pos he]
                rw [appArg_agree ε (lk x mx), hys]
                simp only [Option.bind_some, appOk, if_pos hok]; rfl
              · cases e'
            · cases h
          · cases h
        · cases h
      · cases hk
    · cases hk
    · split at hk
      · split at hk
        · split at hk
          · cases hk
          · split at hk <;> cases hk
        · split at hk <;> cases hk
      · cases hk
    · cases hk
def storeSet (r : Nat) (c : List AV) (st : St) : St := { st with recs := st.recs.set r (some c) }
theorem evOp_shift5 {ε : Env} {st st1 : St} {o : Oper} {av : AV} (hk : kindOf ε st o = 5) (h : evOp ε st o two = some (av, st1)) :
    ∃ r c, tgtOf st o = r ∧ (getL st.recs r).isSome = true ∧ st1 = storeSet r c st ∧ ∀ st', (∀ x ∈ o.op.operands, st'.ev x = st.ev x) → getL st'.recs r = getL st.recs r → kindOf ε st' o = 5 ∧ touchOf st' o = touchOf st o ∧ evOp ε st' o two = some (av, storeSet r c st') := by
  obtain ⟨dst, op, type, pos, after, guard⟩ := o
  cases op <;> simp only [kindOf] at hk <;> try (cases hk; done)
  case buildSlice => split at hk <;> first | (cases hk; done) | (split at hk <;> first | (cases hk; done) | (split at hk <;> cases hk))
  case call c =>
    obtain ⟨callee, args, argTypes⟩ := c
    simp only at hk
    split at hk
    · split at hk
      · split at hk <;> cases hk
      · cases hk
    · cases hk
    · split at hk
      · split at hk
        · split at hk
          · cases hk
          · split at hk <;> cases hk
        · split at hk <;> cases hk
      · cases hk
    · cases hk
  case store t a x =>
    split at hk
    · rename_i r off ha
      simp only [evOp] at h
      unfold evStore at h
      split at h
      · cases h
      · rename_i i hi
        rw [ha] at h
        simp only at h
        split at h
        · rename_i hc
          split at h
          · rename_i cells hcells
            split at h
            · rename_i hle
              cases h
              refine ⟨r, _, by simp [tgtOf, ha], by rw [hcells]; rfl, rfl, fun st' hev hrec => ⟨?_, touch_agree (ts := []) ⟨hev, fun l hl => by cases hl⟩, ?_⟩⟩
              · simp only [kindOf]; rw [hev a (by simp [Op.operands]), ha]
              · simp only [evOp]
                unfold evStore
                rw [hev a (by simp [Op.operands]), hev x (by simp [Op.operands]), hi, ha]
                simp only
                rw [if_pos hc, hrec, hcells]
                simp only
                rw [if_pos hle]
                simp only [storeSet]
                rfl
            · cases h
          · cases h
        · cases h
    · rename_i y ha
      split at hk
      · rename_i r off
        simp only [evOp] at h
        unfold evStore at h
        split at h
        · cases h
        · rename_i i hi
          rw [ha] at h
          simp only at h
          split at h
          · rename_i hc
            split at h
            · rename_i cells hcells
              split at h
              · rename_i hle
                cases h
                have hg := topCells_some hcells
                refine ⟨r, _, by simp [tgtOf, ha], by rw [hg]; rfl, rfl, fun st' hev hrec => ⟨?_, touch_agree (ts := []) ⟨hev, fun l hl => by cases hl⟩, ?_⟩⟩
                · simp only [kindOf]; rw [hev a (by simp [Op.operands]), ha]
                · simp only [evOp]
                  unfold evStore
                  rw [hev a (by simp [Op.operands]), hev x (by simp [Op.operands]), hi, ha]
                  simp only
                  have : topCells st'.recs r = some cells := by unfold topCells; rw [hrec, hg]
                  rw [if_pos hc, this]
                  simp only
                  rw [if_pos hle]
                  simp only [storeSet]
                  rfl
              · cases h
            · cases h
          · cases h
      · cases hk
    · split at hk <;> cases hk
    · cases hk
def lstSet (q : Nat) (l : LObj) (st : St) : St := { st with lsts := st.lsts.set q (some l) }
theorem evOp_shift6 {ε : Env} {st st1 : St} {o : Oper} {av : AV} (hk : kindOf ε st o = 6) (h : evOp ε st o two = some (av, st1)) :
    ∃ q l, tgtOf st o = q ∧ (getL st.lsts q).isSome = true ∧ st1 = lstSet q l st ∧ ∀ st', (∀ x ∈ o.op.operands, st'.ev x = st.ev x) → getL st'.lsts q = getL st.lsts q → kindOf ε st' o = 6 ∧ touchOf st' o = touchOf st o ∧ evOp ε st' o two = some (av, lstSet q l st') := by
  obtain ⟨dst, op, type, pos, after, guard⟩ := o
  cases op <;> simp only [kindOf] at hk <;> try (cases hk; done)
  case buildSlice => split at hk <;> first | (cases hk; done) | (split at hk <;> first | (cases hk; done) | (split at hk <;> cases hk))
  case call c =>
    obtain ⟨callee, args, argTypes⟩ := c
    simp only at hk
    split at hk
    · split at hk
      · split at hk <;> cases hk
      · cases hk
    · cases hk
    · split at hk
      · split at hk
        · split at hk
          · cases hk
          · split at hk <;> cases hk
        · split at hk <;> cases hk
      · cases hk
    · cases hk
  case store t a x =>
    split at hk
    · cases hk
    · split at hk <;> cases hk
    · rename_i q0 n0 off0 ha
      split at hk
      · rename_i hw
        simp only [evOp] at h
        unfold evStore at h
        split at h
        · cases h
        · rename_i i hi
          rw [ha] at h
          simp only at h
          rw [hw, freeze_nil, ha] at h
          simp only at h
          split at h
          · rename_i hc
            split at h
            · rename_i o1 ho1
              cases hpl : o1.e.isMap with
              | true => rw [hpl] at h; cases h
              | false =>
              rw [hpl] at h
              simp only [Option.bind_eq_some_iff] at h
              obtain ⟨y, hy, h⟩ := h
              split at h
              · rename_i hle
                simp only [Option.bind_eq_some_iff] at h
                obtain ⟨z, hz, h⟩ := h
                split at h
                · rename_i hz2
                  cases h
                  refine ⟨q0, _, by simp [tgtOf, ha], by rw [ho1]; rfl, rfl, fun st' hev hls => ⟨?_, touch_agree (ts := []) ⟨hev, fun l hl => by cases hl⟩, ?_⟩⟩
                  · simp only [kindOf]; rw [hev a (by simp [Op.operands]), ha]; dsimp only; rw [hev x (by simp [Op.operands]), hw]
                  · simp only [evOp]
                    unfold evStore
                    rw [hev a (by simp [Op.operands]), hev x (by simp [Op.operands]), hi, ha]
                    simp only
                    rw [hw, freeze_nil, hev a (by simp [Op.operands]), hev x (by simp [Op.operands]), ha]
                    simp only
                    rw [if_pos hc, hls, ho1]
                    simp only [hpl]
                    rw [hy, Option.bind_some, if_pos hle, hz, Option.bind_some, hz2]
                    rfl
                · cases h
              · cases h
            · cases h
          · cases h
      · cases hk
    · cases hk
theorem evOp_mf {ε : Env} {st st1 : St} {o : Oper} {av : AV} (hm : memfree o.op = true) (h : evOp ε st o two = some (av, st1)) :
    st1 = st ∧ ∀ st', (∀ x ∈ o.op.operands, st'.ev x = st.ev x) → (∀ r, (getL st'.recs r).isSome = (getL st.recs r).isSome) → st'.lsts = st.lsts → evOp ε st' o two = some (av, st') := by
  obtain ⟨dst, op, type, pos, after, guard⟩ := o
  cases op <;> simp only [memfree] at hm <;> try (cases hm; done)
  all_goals simp only [evOp] at h
  case move x => cases h; exact ⟨rfl, fun st' hev _ _ => by simp only [evOp]; rw [hev x (by simp [Op.operands])]; rfl⟩
  case assign x => cases h; exact ⟨rfl, fun st' hev _ _ => by simp only [evOp]; rw [hev x (by simp [Op.operands])]; rfl⟩
  case pick c a b =>
    split at h
    · rename_i t hc
      refine ⟨by cases t <;> (cases h; rfl), fun st' hev _ _ => ?_⟩
      simp only [evOp]
      rw [hev c (by simp [Op.operands]), hev a (by simp [Op.operands]), hev b (by simp [Op.operands]), hc]
      cases t <;> (cases h; rfl)
    · cases h
  case binOp op xT x y yT =>
    rw [evBin_nat] at h
    obtain ⟨v, hv, e⟩ := Option.bind_eq_some_iff.1 h
    cases e
    refine ⟨rfl, fun st' hev _ _ => ?_⟩
    simp only [evOp]
    rw [hev x (by simp [Op.operands]), hev y (by simp [Op.operands]), evBin_nat, hv]; rfl
  case unOp op xT x =>
    rw [evUn_nat] at h
    obtain ⟨v, hv, e⟩ := Option.bind_eq_some_iff.1 h
    cases e
    refine ⟨rfl, fun st' hev _ _ => ?_⟩
    simp only [evOp]
    rw [hev x (by simp [Op.operands]), evUn_nat, hv]; rfl
  case fieldAddr t x f =>
    rw [evFieldAddr_nat] at h
    obtain ⟨v, hv, e⟩ := Option.bind_eq_some_iff.1 h
    cases e
    refine ⟨rfl, fun st' hev hr hl => ?_⟩
    simp only [evOp]
    rw [hev x (by simp [Op.operands]), evFieldAddr_nat]
    have : evFieldAddr ε st' t (st.ev x) f some = evFieldAddr ε st t (st.ev x) f some := by
      unfold evFieldAddr
      split
      · split
        · rfl
        · split
          · rw [hr]
          · rw [hl]
          · rfl
          · rfl
          · rfl
      · rfl
    rw [this, hv]; rfl
  case field t x f =>
    rw [evField_nat] at h
    obtain ⟨v, hv, e⟩ := Option.bind_eq_some_iff.1 h
    cases e
    refine ⟨rfl, fun st' hev _ _ => ?_⟩
    simp only [evOp]
    rw [hev x (by simp [Op.operands]), evField_nat, hv]; rfl
  case extract x i =>
    split at h
    · rename_i l he
      split at h
      · rename_i v hv
        cases h
        refine ⟨rfl, fun st' hev _ _ => ?_⟩
        simp only [evOp]
        rw [hev x (by simp [Op.operands]), he]; dsimp only; rw [hv]; rfl
      · cases h
    · cases h
theorem killL_mapK (t : Nat) (l : List AV) : killL t l = l.map (AV.kill t) := killL_map t l
theorem partOf_kill (t : Nat) (cells : List AV) (off n : Nat) (ag : Bool) : partOf (cells.map (AV.kill t)) off n ag = (partOf cells off n ag).map (AV.kill t) := by
  unfold partOf
  cases ag with
  | true =>
    simp only [if_true, List.length_map]
    split
    · simp only [Option.map_some, AV.kill, killL_mapK, ← List.map_drop, ← List.map_take]
    · rfl
  | false =>
    simp only [Bool.false_eq_true, if_false, ← List.map_drop]
    cases cells.drop off <;> rfl
theorem unpack_closed : ∀ (t : Ty) (x : t.den), closedL (unpack t x) = true
  | .unit, _ => rfl
  | .prod a b, x => by
    have h : ∀ l m : List AV, closedL l = true → closedL m = true → closedL (l ++ m) = true := by
      intro l m h1 h2
      induction l with
      | nil => exact h2
      | cons v l ih => simp only [List.cons_append, closedL, Bool.and_eq_true] at h1 ⊢; exact ⟨h1.1, ih h1.2⟩
    exact h _ _ (unpack_closed a x.1) (unpack_closed b x.2)
  | .value, x => rfl
  | .bool, _ | .int _, _ | .str, _ | .list _, _ => rfl
structure Killed (t : Nat) (st st' : St) : Prop where
  r : ∀ r, getL st'.recs r = (getL st.recs r).map (List.map (AV.kill t))
  l : ∀ q, q ≠ t → getL st'.lsts q = getL st.lsts q
theorem hom_field {ε : Env} {st st' : St} {t ty f : Nat} {x : AV} (hk : Killed t st st') (hx : .l t ∉ x.locs) : evFieldAddr ε st' ty (x.kill t) f some = (evFieldAddr ε st ty x f some).map (AV.kill t) := by
  unfold evFieldAddr
  cases hf : fieldAt ε ty f with
  | none => rfl
  | some q =>
    obtain ⟨off, n, ag⟩ := q
    dsimp only
    split
    · rfl
    · cases x <;> simp only [AV.kill] <;> try rfl
      case ptr r o => rw [hk.r]; simp only [Option.isSome_map]; split <;> rfl
      case whole j => by_cases e : j = t <;> (first | rw [if_pos e] | rw [if_neg e]) <;> rfl
      case eptr q i o =>
        have hq : q ≠ t := fun e => hx (by simp [AV.locs, e])
        rw [if_neg hq]; dsimp only; rw [hk.l q hq]; split <;> simp only [Option.map_some, Option.map_none, AV.kill, if_neg hq]
      case pim l => simp only [killL_mapK, List.length_map]; split <;> simp only [Option.map_some, Option.map_none, AV.kill, killL_mapK, List.map_drop]
      case sx y => cases y <;> rfl
theorem topCells_kill {t r : Nat} {recs recs' : List (Option (List AV))} (h : getL recs' r = (getL recs r).map (List.map (AV.kill t))) : topCells recs' r = (topCells recs r).map (List.map (AV.kill t)) := by
  unfold topCells
  rw [h]
  cases getL recs r with
  | none => rfl
  | some c =>
    cases c with
    | nil => rfl
    | cons v l =>
      cases v <;> try rfl
      case whole j => simp only [Option.map_some, List.map_cons, AV.kill]; by_cases e : j = t <;> (first | rw [if_pos e] | rw [if_neg e]) <;> rfl
      case eptr j i o => simp only [Option.map_some, List.map_cons, AV.kill]; by_cases e : j = t <;> (first | rw [if_pos e] | rw [if_neg e]) <;> rfl
      case sx y => cases y <;> rfl
theorem hom_load {ε : Env} {st st' : St} {t ty : Nat} {x : AV} (hk : Killed t st st') (hx : .l t ∉ x.locs) : evLoad ε st' ty (x.kill t) some = (evLoad ε st ty x some).map (AV.kill t) := by
  unfold evLoad
  cases hi : ε.ti ty with
  | none => rfl
  | some i =>
    dsimp only
    have hb : ∀ (cells : List AV) (off : Nat), (partOf (cells.map (AV.kill t)) off i.size i.agg).bind some = ((partOf cells off i.size i.agg).bind some).map (AV.kill t) := fun cells off => by
      rw [partOf_kill]; cases partOf cells off i.size i.agg <;> rfl
    cases x <;> simp only [AV.kill] <;> try rfl
    case ptr r o => rw [hk.r]; cases getL st.recs r with | none => rfl | some c => exact hb c o
    case whole j => by_cases e : j = t <;> (first | rw [if_pos e] | rw [if_neg e]) <;> rfl
    case eptr q n o =>
      have hq : q ≠ t := fun e => hx (by simp [AV.locs, e])
      rw [if_neg hq]; dsimp only; rw [hk.l q hq]
      cases getL st.lsts q with
      | none => rfl
      | some o1 =>
        dsimp only
        cases o1.e.isMap with
        | true => rfl
        | false =>
        dsimp only
        cases o1.xs[n]? with
        | none => rfl
        | some y =>
          simp only [Option.bind_some]
          rw [← hb, ← killL_mapK, closed_killL t (unpack_closed _ _)]
    case pim l => rw [killL_mapK]; exact hb l 0
    case sx y =>
      cases y <;> try rfl
      rename_i r o
      dsimp only; rw [topCells_kill (hk.r r)]
      cases topCells st.recs r with
      | none => rfl
      | some c => exact hb c o
theorem hom_fieldV {ε : Env} {t ty f : Nat} {x : AV} : evField ε ty (x.kill t) f some = (evField ε ty x f some).map (AV.kill t) := by
  unfold evField
  cases fieldAt ε ty f with
  | none => rfl
  | some q =>
    obtain ⟨off, n, ag⟩ := q
    cases x <;> simp only [AV.kill] <;> try rfl
    case whole j => by_cases e : j = t <;> (first | rw [if_pos e] | rw [if_neg e]) <;> rfl
    case eptr j i o => by_cases e : j = t <;> (first | rw [if_pos e] | rw [if_neg e]) <;> rfl
    case agg l => rw [killL_mapK, partOf_kill]; cases partOf l off n ag <;> rfl
theorem asTy_kill {t : Nat} (k : Ty) (v : AV) : asTy [] k (v.kill t) = asTy [] k v := by
  cases v <;> simp only [AV.kill] <;> try rfl
  case whole j => by_cases e : j = t <;> (first | rw [if_pos e] | rw [if_neg e]) <;> simp [asTy, getL]
  case eptr j i o => by_cases e : j = t <;> (first | rw [if_pos e] | rw [if_neg e]) <;> simp [asTy]
theorem valOf_kill {t : Nat} (v : Ty) (ag : Bool) (y : v.den) : (valOf v ag y).kill t = valOf v ag y := by
  cases ag
  · rfl
  · simp only [valOf, AV.kill]; rw [closed_killL t (unpack_closed v y)]
theorem hom_lookup {ε : Env} {lsts lsts' : List (Option LObj)} {t ty : Nat} {x i : AV} {ok : Bool} (hl : ∀ q, q ≠ t → getL lsts' q = getL lsts q) (hx : .l t ∉ x.locs) : evLookup ε ty lsts' (x.kill t) (i.kill t) ok some = (evLookup ε ty lsts x i ok some).map (AV.kill t) := by
  unfold evLookup
  cases hinf : mapInfo ε ty with
  | none => rfl
  | some z =>
    obtain ⟨k, v, j⟩ := z
    cases x <;> simp only [AV.kill] <;> try rfl
    case eptr j i o => by_cases e : j = t <;> (first | rw [if_pos e] | rw [if_neg e]) <;> rfl
    case whole q =>
      have hq : q ≠ t := fun e => hx (by simp [AV.locs, e])
      rw [if_neg hq]
      dsimp only
      have : asMap k v j.agg lsts' q = asMap k v j.agg lsts q := by unfold asMap; rw [hl q hq]
      rw [this, asTy_kill]
      cases asMap k v j.agg lsts q with
      | none => rfl
      | some l =>
        cases asTy [] k i with
        | none => rfl
        | some key =>
          simp only [Option.bind_some]
          cases packTo [] v j.zero with
          | none => rfl
          | some z =>
            simp only [Option.bind_some]
            split
            · cases ok
              · simp only [Option.map_some, valOf_kill]
              · simp only [Option.map_some, AV.kill, killL, valOf_kill]
            · rfl
theorem evOp_hm {ε : Env} {st st' : St} {o : Oper} {t : Nat} (hm : homOp o.op = true) (hk : Killed t st st') (hev : ∀ x ∈ o.op.operands, st'.ev x = (st.ev x).kill t) (ht : .l t ∉ touchOf st o) :
    (∀ av st1, evOp ε st o two = some (av, st1) → st1 = st ∧ evOp ε st' o two = some (av.kill t, st')) ∧ (∀ av' st1, evOp ε st' o two = some (av', st1) → ∃ av, av' = av.kill t ∧ st1 = st' ∧ evOp ε st o two = some (av, st)) := by
  have key : (evOp ε st' o two) = (evOp ε st o two).map (fun q => (q.1.kill t, st')) ∧ ∀ q, evOp ε st o two = some q → q.2 = st := by
    have lk : ∀ x ∈ o.op.operands, .l t ∉ (st.ev x).locs := fun x hx h => ht (by unfold touchOf; exact List.mem_flatMap.2 ⟨x, by simpa using hx, h⟩)
    obtain ⟨dst, op, type, pos, after, guard⟩ := o
    have nat : ∀ {F F' : Option AV} (s : St), F' = F.map (AV.kill t) → (F'.bind fun v => two v st') = (F.bind fun v => two v st).map (fun q => (q.1.kill t, st')) ∧ ∀ q, (F.bind fun v => two v st) = some q → q.2 = st := by
      intro F F' s e
      subst e
      cases F with
      | none => exact ⟨rfl, fun q h => by cases h⟩
      | some v => exact ⟨rfl, fun q h => by cases h; rfl⟩
    cases op <;> simp only [homOp] at hm <;> try (cases hm; done)
    all_goals simp only [evOp]
    case move x => rw [hev x (by simp [Op.operands])]; exact nat (F := some (st.ev x)) st rfl
    case assign x => rw [hev x (by simp [Op.operands])]; exact nat (F := some (st.ev x)) st rfl
    case load ty x =>
      rw [hev x (by simp [Op.operands]), evLoad_nat, evLoad_nat (K := fun v => two v st)]
      exact nat st (hom_load hk (lk x (by simp [Op.operands])))
    case fieldAddr ty x f =>
      rw [hev x (by simp [Op.operands]), evFieldAddr_nat, evFieldAddr_nat (K := fun v => two v st)]
      exact nat st (hom_field hk (lk x (by simp [Op.operands])))
    case field ty x f =>
      rw [hev x (by simp [Op.operands]), evField_nat, evField_nat (K := fun v => two v st)]
      exact nat st hom_fieldV
    case lookup ty x i ok =>
      rw [hev x (by simp [Op.operands]), hev i (by simp [Op.operands]), evLookup_nat, evLookup_nat (K := fun v => two v st)]
      exact nat st (hom_lookup hk.l (lk x (by simp [Op.operands])))
    case extract x i =>
      rw [hev x (by simp [Op.operands])]
      cases st.ev x <;> simp only [AV.kill] <;> try exact nat (F := none) st rfl
      case whole j => by_cases e : j = t <;> (first | rw [if_pos e] | rw [if_neg e]) <;> exact nat (F := none) st rfl
      case eptr j i o => by_cases e : j = t <;> (first | rw [if_pos e] | rw [if_neg e]) <;> exact nat (F := none) st rfl
      case tup l =>
        rw [killL_mapK, List.getElem?_map]
        cases l[i]? with
        | none => exact nat (F := none) st rfl
        | some v => exact nat (F := some v) st rfl
    case nilCheck x =>
      rw [hev x (by simp [Op.operands])]
      have hx := lk x (by simp [Op.operands])
      cases hv : st.ev x <;> simp only [AV.kill] <;> try exact nat (F := none) st rfl
      case ptr r o =>
        rw [hk.r]; simp only [Option.isSome_map]
        split
        · exact nat (F := some (.ptr r o)) st rfl
        · exact nat (F := none) st rfl
      case whole j => by_cases e : j = t <;> (first | rw [if_pos e] | rw [if_neg e]) <;> exact nat (F := none) st rfl
      case eptr q i o =>
        rw [hv] at hx
        have hq : q ≠ t := fun e => hx (by simp [AV.locs, e])
        rw [if_neg hq]; dsimp only; rw [hk.l q hq]
        split
        · exact nat (F := some (.eptr q i o)) (F' := some (.eptr q i o)) st (by simp [AV.kill, hq])
        · exact nat (F := none) st rfl
      case pim l => exact nat (F := some (.pim l)) st rfl
      case fn f a b => cases f <;> first | exact nat (F := some (.fn _ a b)) st rfl | exact nat (F := none) st rfl
      case sx y => cases y <;> first | exact nat (F := none) st rfl | exact nat (F := some (.sx (.tp _ _))) st rfl
  obtain ⟨k1, k2⟩ := key
  refine ⟨fun av st1 h => ?_, fun av' st1 h => ?_⟩
  · have := k2 _ h; refine ⟨this, ?_⟩
    rw [k1, h]; rfl
  · rw [k1, Option.map_eq_some_iff] at h
    obtain ⟨q, h1, h2⟩ := h
    cases h2
    have := k2 _ h1
    exact ⟨q.1, rfl, rfl, by rw [h1]; cases q; simp only at this; rw [this]⟩
end Go.Pe
end
section
namespace Go.Pe
open Go.RowKit
set_option linter.unusedSectionVars false
variable [GI]
set_option linter.unusedSimpArgs false
set_option linter.unusedVariables false

def want (ops : Array Oper) (o : Oper) (st : St) : Option Bool :=
  match o.guard with
  | none => some true
  | some (j, w) => match (ops[j]?).bind (·.dst) with
    | none => none
    | some d => match st.slots[d]? with
      | some (.d .bool b) => some (b == w)
      | some (.tup []) => some false
      | _ => none

def It.Ok2 (ε : Env) (it : It) (st : St) (o : Oper) : Prop :=
  (it.mf = true → it.kind = 0 ∧ (memfree o.op = true ∨ closedOps st o.op.operands.toList = true)) ∧ (it.hm = true → it.kind = 0 ∧ homOp o.op = true ∧ hmOps st o.op.operands.toList = true) ∧ (4 ≤ it.kind → it.n = tgtOf st o) ∧ (it.al = true → allocOf ε o = true)
theorem tgt_agree {o : Oper} {st st' : St} (h : ∀ x ∈ o.op.operands, st'.ev x = st.ev x) : tgtOf st' o = tgtOf st o := by
  unfold tgtOf
  cases hop : o.op <;> rw [hop] at h <;> try rfl
  case store t a x => dsimp only; rw [h a (by simp [Op.operands])]
  case call c =>
    dsimp only
    cases hc : c.args.toList with
    | nil => rfl
    | cons y l =>
      dsimp only
      have hy : y ∈ c.args := by rw [← Array.mem_toList_iff, hc]; simp
      rw [h y (by simp [Op.operands, Call.operands, hy])]
def Step1 (ε : Env) (ops : Array Oper) (it : It) (st st' : St) : Prop := ∃ o, ops[it.idx]? = some o ∧
  ((want ops o st = some true ∧ it.kind = kindOf ε st o ∧ it.touch = touchOf st o ∧ (it.kind = 1 → it.n = st.recs.length) ∧ (it.kind = 2 → it.n = st.lsts.length) ∧
      ∃ av st1, evOp ε st o two = some (av, st1) ∧ st' = st1.put o.dst av ∧ (it.cl = true → it.kind = 0 ∧ closedOps st o.op.operands.toList = true ∧ av.closed = true) ∧ it.Ok2 ε st o) ∨
   (want ops o st = some false ∧ it.kind = 0 ∧ it.touch = [] ∧ st' = st.put o.dst (.tup [])))

def Tr (ε : Env) (ops : Array Oper) : List It → St → St → Prop
  | [], st, st' => st = st'
  | it :: r, st, st' => ∃ st1, Step1 ε ops it st st1 ∧ Tr ε ops r st1 st'

def Fine (ops : Array Oper) : List It → Prop
  | [] => True
  | x :: done => Fine ops done ∧ pairsOk ops x done = true ∧ ∃ o, ops[x.idx]? = some o ∧ ancOf done x.idx o.after.toList = some x.anc

section
variable {ε : Env} {ops : Array Oper} (hu : ∀ f G sc, ε.fn f = some (G, sc) → PFun.Uni @G)

theorem want_agree {o : Oper} {st st' : St} (h : ∀ t ∈ o.looksAt ops, st'.slots[t]? = st.slots[t]?) : want ops o st' = want ops o st := by
  unfold want
  cases hg : o.guard with
  | none => rfl
  | some q =>
    obtain ⟨j, w⟩ := q
    dsimp only
    cases hj : (ops[j]?).bind (·.dst) with
    | none => rfl
    | some d => dsimp only; rw [h d (by simp [Oper.looksAt, hg, hj])]
theorem ev_agree {o : Oper} {st st' : St} (h : ∀ t ∈ o.looksAt ops, st'.slots[t]? = st.slots[t]?) : ∀ x ∈ o.op.operands, st'.ev x = st.ev x := by
  intro x hx
  cases x with
  | tmp t =>
    simp only [St.ev, List.getD_eq_getElem?_getD]
    rw [h t (List.mem_append_left _ (List.mem_filterMap.2 ⟨.tmp t, by simpa using hx, rfl⟩))]
  | const v => rfl
  | global g => rfl
  | func f => rfl

theorem closedOps_agree {st st' : St} : ∀ {l : List Operand}, (∀ x ∈ l, st'.ev x = st.ev x) → closedOps st' l = closedOps st l
  | [], _ => rfl
  | x :: l, h => by simp only [closedOps]; rw [h x (by simp), closedOps_agree fun y hy => h y (by simp [hy])]
theorem hmOps_agree {st st' : St} : ∀ {l : List Operand}, (∀ x ∈ l, st'.ev x = st.ev x) → hmOps st' l = hmOps st l
  | [], _ => rfl
  | x :: l, h => by simp only [hmOps]; rw [h x (by simp), hmOps_agree fun y hy => h y (by simp [hy])]
theorem hmOps_mem {st : St} : ∀ {l : List Operand}, hmOps st l = true → ∀ x ∈ l, (st.ev x).hmok = true
  | y :: l, h, x, hx => by
    simp only [hmOps, Bool.and_eq_true] at h
    rcases List.mem_cons.1 hx with rfl | hx
    · exact h.1
    · exact hmOps_mem h.2 x hx
theorem It.Ok2.move {it : It} {o : Oper} {st st' : St} (h : it.Ok2 ε st o) (hev : ∀ x ∈ o.op.operands, st'.ev x = st.ev x) : it.Ok2 ε st' o :=
  ⟨fun hm => by
    obtain ⟨c1, c2⟩ := h.1 hm
    exact ⟨c1, c2.imp id fun c => by rw [closedOps_agree fun x hx => hev x (by simpa using hx)]; exact c⟩, fun hm => by
    obtain ⟨c1, c2, c3⟩ := h.2.1 hm
    exact ⟨c1, c2, by rw [hmOps_agree fun x hx => hev x (by simpa using hx)]; exact c3⟩, fun hk => by rw [tgt_agree hev]; exact h.2.2.1 hk, h.2.2.2⟩
theorem closedOps_mem {st : St} : ∀ {l : List Operand}, closedOps st l = true → ∀ x ∈ l, (st.ev x).closed = true
  | y :: l, h, x, hx => by
    simp only [closedOps, Bool.and_eq_true] at h
    rcases List.mem_cons.1 hx with rfl | hx
    · exact h.1
    · exact closedOps_mem h.2 x hx
theorem closedOps_touch {st : St} {o : Oper} (h : closedOps st o.op.operands.toList = true) : touchOf st o = [] := by
  unfold touchOf
  rw [List.flatMap_eq_nil_iff]
  exact fun x hx => AV.closed_locs (closedOps_mem h x hx)
def gslot (ops : Array Oper) (o : Oper) : Option Nat := match o.guard with | none => none | some (j, _) => (ops[j]?).bind (·.dst)
theorem gslot_looks {o : Oper} {d : Nat} (h : gslot ops o = some d) : d ∈ o.looksAt ops := by
  unfold gslot at h
  split at h
  · cases h
  · rename_i j w hg; simp [Oper.looksAt, hg, h]
theorem want_kill {o : Oper} {st st' : St} {t : Nat} (h : ∀ d, gslot ops o = some d → st'.slots[d]? = (st.slots[d]?).map (AV.kill t)) {b : Bool} : want ops o st' = some b ↔ want ops o st = some b := by
  unfold want
  cases hg : o.guard with
  | none => rfl
  | some q =>
    obtain ⟨j, w⟩ := q
    dsimp only
    cases hj : (ops[j]?).bind (·.dst) with
    | none => rfl
    | some d =>
      dsimp only
      rw [h d (by simp [gslot, hg, hj])]
      cases hd : st.slots[d]? with
      | none => rfl
      | some v =>
        simp only [Option.map_some]
        cases v <;> simp only [AV.kill]
        case whole k => by_cases e : k = t <;> simp [e]
        case eptr k i o => by_cases e : k = t <;> simp [e]
        case tup l => cases l <;> simp only [killL]
include hu in
theorem step_cl {it : It} {st st1 : St} (hc : it.cl = true) (h : Step1 ε ops it st st1) : ∃ (o : Oper) (av : AV), ops[it.idx]? = some o ∧ st1 = st.put o.dst av ∧ av.closed = true ∧ (want ops o st = some true → ∀ x ∈ o.op.operands, (st.ev x).closed = true) ∧
    ∀ st', (∀ b, want ops o st = some b → want ops o st' = some b) → (want ops o st = some true → ∀ x ∈ o.op.operands, st'.ev x = st.ev x) → Step1 ε ops it st' (st'.put o.dst av) := by
  obtain ⟨o, ho, h⟩ := h
  rcases h with ⟨hw, e1, e2, e3, e4, av, st2, hev, rfl, hcl, hmf⟩ | ⟨hw, e1, e2, rfl⟩
  · obtain ⟨c1, c2, c3⟩ := hcl hc
    obtain ⟨d, rfl, hd, hs⟩ := evOp_shift hu (by rw [← e1, c1]; decide) hev
    have hd0 : d = .no := by
      rw [← e1, c1] at hd
      cases d <;> simp [Del.kind] at hd; rfl
    subst hd0
    refine ⟨o, av, ho, rfl, c3, fun _ x hx => closedOps_mem c2 x (by simpa using hx), fun st' h1 h2 => ?_⟩
    have h2 := h2 hw
    obtain ⟨g1, g2, g3⟩ := hs st' ⟨h2, fun l hl => by rw [closedOps_touch c2] at hl; cases hl⟩
    exact ⟨o, ho, .inl ⟨h1 _ hw, by rw [g1]; exact e1, by rw [g2]; exact e2, fun h => by omega, fun h => by omega, av, _, g3 (fun h => by simp [Del.kind] at h) (fun h => by simp [Del.kind] at h), rfl,
      (fun _ => ⟨c1, by rw [closedOps_agree fun x hx => h2 x (by simpa using hx)]; exact c2, c3⟩), hmf.move h2⟩⟩
  · refine ⟨o, .tup [], ho, rfl, rfl, fun h => (by rw [hw] at h; cases h), fun st' h1 h2 => ⟨o, ho, .inr ⟨h1 _ hw, e1, e2, rfl⟩⟩⟩
theorem step_app {it : It} {st st1 : St} (hk : it.kind = 4) (h : Step1 ε ops it st st1) : ∃ (o : Oper) (av : AV) (t : Nat) (l : LObj), ops[it.idx]? = some o ∧ it.n = t ∧ (getL st.lsts t).isSome = true ∧ st1 = (killSet t l st).put o.dst av ∧
    ∀ st', (∀ i ∈ o.looksAt ops, st'.slots[i]? = st.slots[i]?) → (∀ l, Look st st' l) → Step1 ε ops it st' ((killSet t l st').put o.dst av) := by
  obtain ⟨o, ho, h⟩ := h
  rcases h with ⟨hw, e1, e2, e3, e4, av, st2, hev, rfl, hcl, hmf⟩ | ⟨hw, e1, e2, rfl⟩
  · obtain ⟨t, l, htg, hlv, rfl, hs⟩ := evOp_shift4 (by rw [← e1]; exact hk) hev
    refine ⟨o, av, t, l, ho, by rw [hmf.2.2.1 (by omega)]; exact htg, hlv, rfl, fun st' h1 h2 => ?_⟩
    obtain ⟨g1, g2, g3⟩ := hs st' ⟨ev_agree h1, fun l _ => h2 l⟩
    exact ⟨o, ho, .inl ⟨by rw [want_agree h1]; exact hw, by rw [g1]; exact hk, by rw [g2]; exact e2, fun h => by omega, fun h => by omega, av, _, g3, rfl, fun h => by have := (hcl h).1; omega, hmf.move (ev_agree h1)⟩⟩
  · omega

include hu in
theorem step_shift {it : It} {st st1 : St} (hk : it.kind < 3) (h : Step1 ε ops it st st1) : ∃ (o : Oper) (av : AV) (d : Del), ops[it.idx]? = some o ∧ st1 = (d.app st).put o.dst av ∧ d.kind = it.kind ∧
    (it.kind = 1 → it.n = st.recs.length) ∧ (it.kind = 2 → it.n = st.lsts.length) ∧
    ∀ st', (∀ t ∈ o.looksAt ops, st'.slots[t]? = st.slots[t]?) → (∀ l ∈ it.touch, Look st st' l) → (it.kind = 1 → st'.recs.length = st.recs.length) → (it.kind = 2 → st'.lsts.length = st.lsts.length) →
      Step1 ε ops it st' ((d.app st').put o.dst av) := by
  obtain ⟨o, ho, h⟩ := h
  rcases h with ⟨hw, e1, e2, e3, e4, av, st2, hev, rfl, hcl, hmf⟩ | ⟨hw, e1, e2, rfl⟩
  · obtain ⟨d, rfl, hd, hs⟩ := evOp_shift hu (by rw [← e1]; exact hk) hev
    refine ⟨o, av, d, ho, rfl, by rw [hd, e1], e3, e4, fun st' h1 h2 h3 h4 => ?_⟩
    have hcl' : it.cl = true → it.kind = 0 ∧ closedOps st' o.op.operands.toList = true ∧ av.closed = true := fun h => by
      obtain ⟨c1, c2, c3⟩ := hcl h
      exact ⟨c1, by rw [closedOps_agree fun x hx => ev_agree h1 x (by simpa using hx)]; exact c2, c3⟩
    have hmf' := hmf.move (ev_agree h1)
    obtain ⟨g1, g2, g3⟩ := hs st' ⟨ev_agree h1, fun l hl => h2 l (by rw [e2]; exact hl)⟩
    refine ⟨o, ho, .inl ⟨by rw [want_agree h1]; exact hw, by rw [g1]; exact e1, by rw [g2]; exact e2, fun h => by rw [h3 h]; exact e3 h, fun h => by rw [h4 h]; exact e4 h, av, _, g3 (fun h => h3 ?_) (fun h => h4 ?_), rfl, hcl', hmf'⟩⟩
    · rw [e1, ← hd]; exact h
    · rw [e1, ← hd]; exact h
  · refine ⟨o, .tup [], .no, ho, rfl, e1.symm, fun h => by omega, fun h => by omega, fun st' h1 _ _ _ => ⟨o, ho, .inr ⟨by rw [want_agree h1]; exact hw, e1, e2, rfl⟩⟩⟩

theorem put_recs (st : St) (dst : Option Nat) (v : AV) : (st.put dst v).recs = st.recs := by cases dst <;> rfl
theorem put_lsts (st : St) (dst : Option Nat) (v : AV) : (st.put dst v).lsts = st.lsts := by cases dst <;> rfl
theorem put_slot (st : St) (dst : Option Nat) (v : AV) (t : Nat) (h : ∀ d, dst = some d → d ≠ t) : (st.put dst v).slots[t]? = st.slots[t]? := by
  cases dst with
  | none => rfl
  | some d => simp only [St.put]; rw [List.getElem?_set_ne (h d rfl)]
theorem app_slots (d : Del) (st : St) : (d.app st).slots = st.slots := by cases d <;> rfl
theorem app_recs {d : Del} {st : St} (h : d.kind ≠ 1) : (d.app st).recs = st.recs := by cases d <;> simp_all [Del.app, Del.kind]
theorem app_lsts {d : Del} {st : St} (h : d.kind ≠ 2) : (d.app st).lsts = st.lsts := by cases d <;> simp_all [Del.app, Del.kind]
theorem hasR_mem {n : Nat} : ∀ {l : List Loc}, hasR n l = false → .r n ∉ l
  | [], _ => by simp
  | .r m :: l, h => by
    simp only [hasR, Bool.or_eq_false_iff] at h
    intro hm
    rcases List.mem_cons.1 hm with e | e
    · cases e; exact absurd h.1 (by simp)
    · exact hasR_mem h.2 e
  | .l m :: l, h | .n m :: l, h => by
    simp only [hasR] at h
    intro hm
    rcases List.mem_cons.1 hm with e | e
    · cases e
    · exact hasR_mem h e
theorem hasL_mem {n : Nat} : ∀ {l : List Loc}, hasL n l = false → .l n ∉ l
  | [], _ => by simp
  | .l m :: l, h => by
    simp only [hasL, Bool.or_eq_false_iff] at h
    intro hm
    rcases List.mem_cons.1 hm with e | e
    · cases e; exact absurd h.1 (by simp)
    · exact hasL_mem h.2 e
  | .r m :: l, h | .n m :: l, h => by
    simp only [hasL] at h
    intro hm
    rcases List.mem_cons.1 hm with e | e
    · cases e
    · exact hasL_mem h e
theorem getL_app_ne {α : Type} {l : List (Option α)} {y : Option α} {i : Nat} (h : i ≠ l.length) : getL (l ++ [y]) i = getL l i := by
  rcases Nat.lt_or_ge i l.length with h' | h'
  · exact getL_app h'
  · unfold getL
    rw [List.getElem?_eq_none h', List.getElem?_eq_none (by simp; omega)]
theorem look_app {d : Del} {st : St} {dst : Option Nat} {v : AV} {l : Loc} (h1 : d.kind = 1 → l ≠ .r st.recs.length) (h2 : d.kind = 2 → l ≠ .l st.lsts.length) : Look st ((d.app st).put dst v) l := by
  cases l with
  | r r =>
    simp only [Look, put_recs]
    cases d with
    | no => rfl
    | new c => exact getL_app_ne fun e => h1 rfl (by rw [e])
    | lst l => rfl
  | l t =>
    simp only [Look, put_lsts]
    cases d with
    | no => rfl
    | new c => rfl
    | lst l => exact getL_app_ne fun e => h2 rfl (by rw [e])
  | n k => trivial
theorem Look.symm {st st' : St} {l : Loc} (h : Look st st' l) : Look st' st l := by cases l <;> first | exact Eq.symm h | trivial

theorem app_comm {dx dy : Del} {st : St} {vx vy : AV} {x y : Option Nat} (h1 : ¬ (dy.kind = 1 ∧ dx.kind = 1)) (h2 : ¬ (dy.kind = 2 ∧ dx.kind = 2)) (hne : ∀ d, y = some d → x ≠ some d) :
    (dy.app ((dx.app st).put x vx)).put y vy = (dx.app ((dy.app st).put y vy)).put x vx := by
  have hs : ∀ l : List AV, ∀ d e, y = some d → x = some e → (l.set e vx).set d vy = (l.set d vy).set e vx := fun l d e hd he => List.set_comm _ _ fun h => hne d hd (by rw [he, h])
  obtain ⟨sl, rc, ls⟩ := st
  cases dy <;> cases dx <;> first | exact absurd ⟨rfl, rfl⟩ h1 | exact absurd ⟨rfl, rfl⟩ h2 | skip
  all_goals
    cases y <;> cases x <;> simp only [Del.app, St.put]
    rw [hs _ _ _ rfl rfl]
include hu in
theorem swap1 {y x : It} {st st1 st2 : St} (hap : (match ops[y.idx]?, ops[x.idx]? with | some p, some q => p.apart ops q | _, _ => false) = true) (hp : (Nat.blt y.kind 3 && Nat.blt x.kind 3 && !(Nat.beq y.kind 1 && Nat.beq x.kind 1) && !(Nat.beq y.kind 2 && Nat.beq x.kind 2) &&
  !(Nat.beq y.kind 1 && hasR y.n x.touch) && !(Nat.beq y.kind 2 && hasL y.n x.touch) && !(Nat.beq x.kind 1 && hasR x.n y.touch) && !(Nat.beq x.kind 2 && hasL x.n y.touch)) = true) (hy : Step1 ε ops y st st1) (hx : Step1 ε ops x st1 st2) : ∃ st', Step1 ε ops x st st' ∧ Step1 ε ops y st' st2 := by
  simp only [Bool.and_eq_true, Bool.not_eq_true', Bool.and_eq_false_iff] at hp
  obtain ⟨⟨⟨⟨⟨⟨⟨hk1, hk2⟩, h11⟩, h22⟩, p1⟩, p2⟩, p3⟩, p4⟩ := hp
  have hk1 : y.kind < 3 := by simpa using hk1
  have hk2 : x.kind < 3 := by simpa using hk2
  obtain ⟨oy, vy, dy, hoy, rfl, ky, ny, ny2, sy⟩ := step_shift hu hk1 hy
  obtain ⟨ox, vx, dx, hox, rfl, kx, nx, nx2, sx⟩ := step_shift hu hk2 hx
  rw [hoy, hox] at hap
  obtain ⟨a1, a2, a3⟩ := Oper.apart_spec (show oy.apart ops ox = true from hap)
  have n11 : ¬ (y.kind = 1 ∧ x.kind = 1) := fun h => by rw [h.1, h.2] at h11; simp at h11
  have n22 : ¬ (y.kind = 2 ∧ x.kind = 2) := fun h => by rw [h.1, h.2] at h22; simp at h22
  have q1 : y.kind = 1 → .r y.n ∉ x.touch := fun h => hasR_mem (p1.resolve_left (by rw [h]; simp))
  have q2 : y.kind = 2 → .l y.n ∉ x.touch := fun h => hasL_mem (p2.resolve_left (by rw [h]; simp))
  have q3 : x.kind = 1 → .r x.n ∉ y.touch := fun h => hasR_mem (p3.resolve_left (by rw [h]; simp))
  have q4 : x.kind = 2 → .l x.n ∉ y.touch := fun h => hasL_mem (p4.resolve_left (by rw [h]; simp))
  have r1 : x.kind = 1 → ((dy.app st).put oy.dst vy).recs.length = st.recs.length := fun h => by
    rw [put_recs, app_recs]; intro e; exact n11 ⟨ky ▸ e, h⟩
  have r2 : x.kind = 2 → ((dy.app st).put oy.dst vy).lsts.length = st.lsts.length := fun h => by
    rw [put_lsts, app_lsts]; intro e; exact n22 ⟨ky ▸ e, h⟩
  have hx' := sx st (fun t ht => by rw [put_slot _ _ _ _ fun d hd e => a1 d hd (e ▸ ht), app_slots]) (fun l hl => (look_app (fun e el => ?_) (fun e el => ?_)).symm) (fun h => (r1 h).symm) (fun h => (r2 h).symm)
  · have hy' := sy ((dx.app st).put ox.dst vx) (fun t ht => by rw [put_slot _ _ _ _ fun d hd e => a3 d hd (e ▸ ht), app_slots]) (fun l hl => look_app (fun e el => ?_) (fun e el => ?_)) (fun h => ?_) (fun h => ?_)
    · refine ⟨_, hx', ?_⟩
      have fin := app_comm (st := st) (dx := dx) (dy := dy) (vx := vx) (vy := vy) (x := ox.dst) (y := oy.dst) (fun h => n11 ⟨ky ▸ h.1, kx ▸ h.2⟩) (fun h => n22 ⟨ky ▸ h.1, kx ▸ h.2⟩) (fun d h h' => a2 d h h')
      rw [← fin]; exact hy'
    · subst el; have hk := kx ▸ e; rw [← r1 hk, ← nx hk] at hl; exact q3 hk hl
    · subst el; have hk := kx ▸ e; rw [← r2 hk, ← nx2 hk] at hl; exact q4 hk hl
    · rw [put_recs, app_recs]; intro e; exact n11 ⟨h, kx ▸ e⟩
    · rw [put_lsts, app_lsts]; intro e; exact n22 ⟨h, kx ▸ e⟩
  · subst el; have hk := ky ▸ e; rw [← ny hk] at hl; exact q1 hk hl
  · subst el; have hk := ky ▸ e; rw [← ny2 hk] at hl; exact q2 hk hl

theorem killSet_slot (t : Nat) (l : LObj) (st : St) (i : Nat) : (killSet t l st).slots[i]? = (st.slots[i]?).map (AV.kill t) := by simp [killSet, St.mapAV]
theorem killSet_put (t : Nat) (l : LObj) (st : St) (x y : Option Nat) (vx vy : AV) (hc : vx.closed = true) (hne : ∀ d, y = some d → x ≠ some d) : (killSet t l (st.put x vx)).put y vy = ((killSet t l st).put y vy).put x vx := by
  obtain ⟨sl, rc, ls⟩ := st
  cases x <;> cases y <;> simp only [killSet, St.put, St.mapAV]
  · rw [List.map_set, AV.closed_kill t hc]
  · rename_i e d
    rw [List.map_set, AV.closed_kill t hc, List.set_comm _ _ fun h => hne d rfl (by rw [h])]
theorem put_look (st : St) (x : Option Nat) (v : AV) (l : Loc) : Look st (st.put x v) l := by cases l <;> simp only [Look, put_recs, put_lsts]
theorem ev_kill {st st' : St} {t : Nat} {x : Operand} (h : ∀ d, x = .tmp d → st'.slots[d]? = (st.slots[d]?).map (AV.kill t)) : st'.ev x = (st.ev x).kill t ∨ st'.ev x = st.ev x := by
  cases x with
  | tmp d =>
    refine .inl ?_
    simp only [St.ev, List.getD_eq_getElem?_getD]
    rw [h d rfl]
    cases st.slots[d]? <;> simp [AV.kill]
  | const v => exact .inr rfl
  | global g => exact .inr rfl
  | func f => exact .inr rfl
theorem opnd_looks {o : Oper} {x : Operand} (hx : x ∈ o.op.operands) {d : Nat} (e : x = .tmp d) : d ∈ o.looksAt ops :=
  List.mem_append_left _ (List.mem_filterMap.2 ⟨.tmp d, by subst e; simpa using hx, rfl⟩)
include hu in
theorem swap2 {y x : It} {st st1 st2 : St} (hap : (match ops[y.idx]?, ops[x.idx]? with | some p, some q => p.apart ops q | _, _ => false) = true) (hk : y.kind = 4) (hc : x.cl = true) (hy : Step1 ε ops y st st1) (hx : Step1 ε ops x st1 st2) : ∃ st', Step1 ε ops x st st' ∧ Step1 ε ops y st' st2 := by
  obtain ⟨oy, vy, t, l, hoy, _, _, rfl, sy⟩ := step_app hk hy
  obtain ⟨ox, vx, hox, rfl, hvx, hcl, sx⟩ := step_cl hu hc hx
  rw [hoy, hox] at hap
  obtain ⟨a1, a2, a3⟩ := Oper.apart_spec (show oy.apart ops ox = true from hap)
  have sl : ∀ d ∈ ox.looksAt ops, ((killSet t l st).put oy.dst vy).slots[d]? = (st.slots[d]?).map (AV.kill t) := fun d hd => by
    rw [put_slot _ _ _ _ fun e he h => a1 e he (h ▸ hd), killSet_slot]
  refine ⟨st.put ox.dst vx, sx st (fun b hb => (want_kill fun d hd => sl d (gslot_looks hd)).1 hb) (fun hw x hx => ?_), ?_⟩
  · rcases ev_kill (t := t) (x := x) (st := st) (fun d e => sl d (opnd_looks hx e)) with h | h
    · have := hcl hw x hx
      rw [h] at this ⊢
      exact (AV.kill_closed t this).symm
    · exact h.symm
  · have := sy (st.put ox.dst vx) (fun i hi => put_slot _ _ _ _ fun e he h => a3 e he (h ▸ hi)) (fun l => put_look _ _ _ _)
    rwa [killSet_put t l st ox.dst oy.dst vx vy hvx a2] at this
include hu in
theorem swap3 {y x : It} {st st1 st2 : St} (hap : (match ops[y.idx]?, ops[x.idx]? with | some p, some q => p.apart ops q | _, _ => false) = true) (hc : y.cl = true) (hk : x.kind = 4) (hy : Step1 ε ops y st st1) (hx : Step1 ε ops x st1 st2) : ∃ st', Step1 ε ops x st st' ∧ Step1 ε ops y st' st2 := by
  obtain ⟨oy, vy, hoy, rfl, hvy, hcl, sy⟩ := step_cl hu hc hy
  obtain ⟨ox, vx, t, l, hox, _, _, rfl, sx⟩ := step_app hk hx
  rw [hoy, hox] at hap
  obtain ⟨a1, a2, a3⟩ := Oper.apart_spec (show oy.apart ops ox = true from hap)
  refine ⟨(killSet t l st).put ox.dst vx, sx st (fun i hi => (put_slot _ _ _ _ fun e he h => a1 e he (h ▸ hi)).symm) (fun l => (put_look _ _ _ _).symm), ?_⟩
  have sl : ∀ d ∈ oy.looksAt ops, ((killSet t l st).put ox.dst vx).slots[d]? = (st.slots[d]?).map (AV.kill t) := fun d hd => by
    rw [put_slot _ _ _ _ fun e he h => a3 e he (h ▸ hd), killSet_slot]
  have := sy ((killSet t l st).put ox.dst vx) (fun b hb => (want_kill fun d hd => sl d (gslot_looks hd)).2 hb) (fun hw x hx => by
    rcases ev_kill (t := t) (x := x) (st := st) (fun d e => sl d (opnd_looks hx e)) with h | h
    · rw [h]; exact AV.closed_kill t (hcl hw x hx)
    · exact h)
  rwa [killSet_put t l st oy.dst ox.dst vy vx hvy fun d hd h => a2 d h hd]
theorem step_sto {it : It} {st st1 : St} (hk : it.kind = 5) (h : Step1 ε ops it st st1) : ∃ (o : Oper) (av : AV) (r : Nat) (c : List AV), ops[it.idx]? = some o ∧ it.n = r ∧ (getL st.recs r).isSome = true ∧ st1 = (storeSet r c st).put o.dst av ∧
    ∀ st', (∀ i ∈ o.looksAt ops, st'.slots[i]? = st.slots[i]?) → getL st'.recs r = getL st.recs r → Step1 ε ops it st' ((storeSet r c st').put o.dst av) := by
  obtain ⟨o, ho, h⟩ := h
  rcases h with ⟨hw, e1, e2, e3, e4, av, st2, hev, rfl, hcl, hmf⟩ | ⟨hw, e1, e2, rfl⟩
  · obtain ⟨r, c, htg, hr, rfl, hs⟩ := evOp_shift5 (by rw [← e1]; exact hk) hev
    refine ⟨o, av, r, c, ho, by rw [hmf.2.2.1 (by omega)]; exact htg, hr, rfl, fun st' h1 h2 => ?_⟩
    obtain ⟨g1, g2, g3⟩ := hs st' (ev_agree h1) h2
    exact ⟨o, ho, .inl ⟨by rw [want_agree h1]; exact hw, by rw [g1]; exact hk, by rw [g2]; exact e2, fun h => by omega, fun h => by omega, av, _, g3, rfl, fun h => by have := (hcl h).1; omega, hmf.move (ev_agree h1)⟩⟩
  · omega
theorem step_sto6 {it : It} {st st1 : St} (hk : it.kind = 6) (h : Step1 ε ops it st st1) : ∃ (o : Oper) (av : AV) (q : Nat) (c : LObj), ops[it.idx]? = some o ∧ it.n = q ∧ (getL st.lsts q).isSome = true ∧ st1 = (lstSet q c st).put o.dst av ∧
    ∀ st', (∀ i ∈ o.looksAt ops, st'.slots[i]? = st.slots[i]?) → getL st'.lsts q = getL st.lsts q → Step1 ε ops it st' ((lstSet q c st').put o.dst av) := by
  obtain ⟨o, ho, h⟩ := h
  rcases h with ⟨hw, e1, e2, e3, e4, av, st2, hev, rfl, hcl, hmf⟩ | ⟨hw, e1, e2, rfl⟩
  · obtain ⟨r, c, htg, hr, rfl, hs⟩ := evOp_shift6 (by rw [← e1]; exact hk) hev
    refine ⟨o, av, r, c, ho, by rw [hmf.2.2.1 (by omega)]; exact htg, hr, rfl, fun st' h1 h2 => ?_⟩
    obtain ⟨g1, g2, g3⟩ := hs st' (ev_agree h1) h2
    exact ⟨o, ho, .inl ⟨by rw [want_agree h1]; exact hw, by rw [g1]; exact hk, by rw [g2]; exact e2, fun h => by omega, fun h => by omega, av, _, g3, rfl, fun h => by have := (hcl h).1; omega, hmf.move (ev_agree h1)⟩⟩
  · omega
include hu in
theorem step_mf {it : It} {st st1 : St} (hc : it.mf = true) (h : Step1 ε ops it st st1) : ∃ (o : Oper) (av : AV), ops[it.idx]? = some o ∧ st1 = st.put o.dst av ∧
    ∀ st', (∀ t ∈ o.looksAt ops, st'.slots[t]? = st.slots[t]?) → (∀ r, (getL st'.recs r).isSome = (getL st.recs r).isSome) → st'.recs.length = st.recs.length → st'.lsts = st.lsts → Step1 ε ops it st' (st'.put o.dst av) := by
  obtain ⟨o, ho, h⟩ := h
  rcases h with ⟨hw, e1, e2, e3, e4, av, st2, hev, rfl, hcl, hmf⟩ | ⟨hw, e1, e2, rfl⟩
  · obtain ⟨c1, c2⟩ := hmf.1 hc
    obtain ⟨d, hd1, hd, hs⟩ := evOp_shift hu (by rw [← e1, c1]; decide) hev
    have hd0 : d = .no := by
      rw [← e1, c1] at hd
      cases d <;> simp [Del.kind] at hd; rfl
    subst hd0
    have e0 : st2 = st := hd1
    subst e0
    refine ⟨o, av, ho, rfl, fun st' h1 h2 h3 h4 => ?_⟩
    have hev' := ev_agree (ops := ops) h1
    have hk' : kindOf ε st' o = kindOf ε st2 o ∧ touchOf st' o = touchOf st2 o ∧ evOp ε st' o two = some (av, st') := by
      rcases c2 with c2 | c2
      · refine ⟨?_, touch_agree (ts := []) ⟨hev', fun l hl => by cases hl⟩, (evOp_mf c2 hev).2 st' hev' h2 h4⟩
        cases hop : o.op <;> rw [hop] at c2 <;> simp only [memfree] at c2 <;> first | (cases c2; done) | simp only [kindOf, hop]
      · obtain ⟨g1, g2, g3⟩ := hs st' ⟨hev', fun l hl => by rw [closedOps_touch c2] at hl; cases hl⟩
        exact ⟨g1, g2, g3 (fun h => by simp [Del.kind] at h) (fun h => by simp [Del.kind] at h)⟩
    obtain ⟨g1, g2, g3⟩ := hk'
    refine ⟨o, ho, .inl ⟨by rw [want_agree h1]; exact hw, by rw [g1]; exact e1, by rw [g2]; exact e2, fun h => by omega, fun h => by omega, av, _, g3, rfl, fun h => ?_, hmf.move hev'⟩⟩
    obtain ⟨c1, c2, c3⟩ := hcl h
    exact ⟨c1, by rw [closedOps_agree fun x hx => hev' x (by simpa using hx)]; exact c2, c3⟩
  · exact ⟨o, .tup [], ho, rfl, fun st' h1 _ _ _ => ⟨o, ho, .inr ⟨by rw [want_agree h1]; exact hw, e1, e2, rfl⟩⟩⟩
theorem storeSet_slot (r : Nat) (c : List AV) (st : St) (i : Nat) : (storeSet r c st).slots[i]? = st.slots[i]? := rfl
theorem storeSet_live {r : Nat} {c : List AV} {st : St} (hr : (getL st.recs r).isSome = true) (q : Nat) : (getL (storeSet r c st).recs q).isSome = (getL st.recs q).isSome := by
  obtain ⟨x, hx⟩ := Option.isSome_iff_exists.1 hr
  simp only [storeSet]
  rw [getL_set (getL_lt hx)]
  split
  · rename_i e; rw [e, hr]; rfl
  · rfl
theorem storeSet_put (r : Nat) (c : List AV) (st : St) (x y : Option Nat) (vx vy : AV) (hne : ∀ d, y = some d → x ≠ some d) : (storeSet r c (st.put x vx)).put y vy = ((storeSet r c st).put y vy).put x vx := by
  obtain ⟨sl, rc, ls⟩ := st
  cases x <;> cases y <;> simp only [storeSet, St.put]
  rename_i e d
  rw [List.set_comm _ _ fun h => hne d rfl (by rw [h])]
include hu in
theorem swap4 {y x : It} {st st1 st2 : St} (hap : (match ops[y.idx]?, ops[x.idx]? with | some p, some q => p.apart ops q | _, _ => false) = true) (hk : y.kind = 5) (hc : x.mf = true) (hy : Step1 ε ops y st st1) (hx : Step1 ε ops x st1 st2) : ∃ st', Step1 ε ops x st st' ∧ Step1 ε ops y st' st2 := by
  obtain ⟨oy, vy, r, c, hoy, _, hr, rfl, sy⟩ := step_sto hk hy
  obtain ⟨ox, vx, hox, rfl, sx⟩ := step_mf hu hc hx
  rw [hoy, hox] at hap
  obtain ⟨a1, a2, a3⟩ := Oper.apart_spec (show oy.apart ops ox = true from hap)
  refine ⟨st.put ox.dst vx, sx st (fun d hd => ?_) (fun q => ?_) ?_ ?_, ?_⟩
  · rw [put_slot _ _ _ _ fun e he h => a1 e he (h ▸ hd), storeSet_slot]
  · rw [put_recs, storeSet_live hr]
  · rw [put_recs]; simp [storeSet]
  · rw [put_lsts]; rfl
  · have := sy (st.put ox.dst vx) (fun i hi => put_slot _ _ _ _ fun e he h => a3 e he (h ▸ hi)) (by rw [put_recs])
    rwa [storeSet_put r c st ox.dst oy.dst vx vy a2] at this
include hu in
theorem swap5 {y x : It} {st st1 st2 : St} (hap : (match ops[y.idx]?, ops[x.idx]? with | some p, some q => p.apart ops q | _, _ => false) = true) (hc : y.mf = true) (hk : x.kind = 5) (hy : Step1 ε ops y st st1) (hx : Step1 ε ops x st1 st2) : ∃ st', Step1 ε ops x st st' ∧ Step1 ε ops y st' st2 := by
  obtain ⟨oy, vy, hoy, rfl, sy⟩ := step_mf hu hc hy
  obtain ⟨ox, vx, r, c, hox, _, hr, rfl, sx⟩ := step_sto hk hx
  rw [hoy, hox] at hap
  obtain ⟨a1, a2, a3⟩ := Oper.apart_spec (show oy.apart ops ox = true from hap)
  rw [put_recs] at hr
  refine ⟨(storeSet r c st).put ox.dst vx, sx st (fun i hi => (put_slot _ _ _ _ fun e he h => a1 e he (h ▸ hi)).symm) (by rw [put_recs]), ?_⟩
  have := sy ((storeSet r c st).put ox.dst vx) (fun d hd => by rw [put_slot _ _ _ _ fun e he h => a3 e he (h ▸ hd), storeSet_slot]) (fun q => by rw [put_recs, storeSet_live hr]) (by rw [put_recs]; simp [storeSet]) (by rw [put_lsts]; rfl)
  rwa [storeSet_put r c st oy.dst ox.dst vy vx fun d hd h => a2 d h hd]

inductive Wr | mkR (r : Nat) (c : List AV) | mkL (q : Nat) (o : LObj)
def Wr.app : Wr → St → St | .mkR r c => storeSet r c | .mkL q o => lstSet q o
def Wr.loc : Wr → Loc | .mkR r _ => .r r | .mkL q _ => .l q
def Wr.live (W : Wr) (st : St) : Prop := match W with | .mkR r _ => (getL st.recs r).isSome = true | .mkL q _ => (getL st.lsts q).isSome = true
def It.at_ (it : It) (W : Wr) : Prop := match W with | .mkR r _ => it.kind = 5 ∧ it.n = r | .mkL q _ => it.kind = 6 ∧ it.n = q
theorem step_wr {it : It} {st st1 : St} (hk : it.kind = 5 ∨ it.kind = 6) (h : Step1 ε ops it st st1) : ∃ (o : Oper) (av : AV) (W : Wr), ops[it.idx]? = some o ∧ it.at_ W ∧ W.live st ∧ st1 = (W.app st).put o.dst av ∧
    ∀ st', (∀ i ∈ o.looksAt ops, st'.slots[i]? = st.slots[i]?) → Look st st' W.loc → Step1 ε ops it st' ((W.app st').put o.dst av) := by
  rcases hk with hk | hk
  · obtain ⟨o, av, r, c, h1, h2, h3, h4, h5⟩ := step_sto hk h
    exact ⟨o, av, .mkR r c, h1, ⟨hk, h2⟩, h3, h4, fun st' g1 g2 => h5 st' g1 g2⟩
  · obtain ⟨o, av, q, c, h1, h2, h3, h4, h5⟩ := step_sto6 hk h
    exact ⟨o, av, .mkL q c, h1, ⟨hk, h2⟩, h3, h4, fun st' g1 g2 => h5 st' g1 g2⟩
theorem Wr.slots (W : Wr) (st : St) : (W.app st).slots = st.slots := by cases W <;> rfl
theorem Wr.look {W : Wr} {st : St} (hl : W.live st) {l : Loc} (h : l ≠ W.loc) : Look st (W.app st) l := by
  cases W with
  | mkR r c =>
    obtain ⟨x, hx⟩ := Option.isSome_iff_exists.1 hl
    cases l with
    | r q =>
      simp only [Look, Wr.app, storeSet]
      rw [getL_set (getL_lt hx), if_neg (by intro e; exact h (by rw [e]; rfl))]
    | l t => rfl
    | n k => trivial
  | mkL t o =>
    obtain ⟨x, hx⟩ := Option.isSome_iff_exists.1 hl
    cases l with
    | l q =>
      simp only [Look, Wr.app, lstSet]
      rw [getL_set (getL_lt hx), if_neg (by intro e; exact h (by rw [e]; rfl))]
    | r t => rfl
    | n k => trivial
theorem Wr.lens (W : Wr) (st : St) : (W.app st).recs.length = st.recs.length ∧ (W.app st).lsts.length = st.lsts.length := by cases W <;> simp [Wr.app, storeSet, lstSet]
theorem Wr.put (W : Wr) (st : St) (x : Option Nat) (v : AV) : W.app (st.put x v) = (W.app st).put x v := by
  cases W <;> cases x <;> rfl
theorem put_comm (st : St) (x y : Option Nat) (vx vy : AV) (hne : ∀ d, y = some d → x ≠ some d) : (st.put x vx).put y vy = (st.put y vy).put x vx := by
  cases x <;> cases y <;> simp only [St.put]
  rename_i e d
  rw [List.set_comm _ _ fun h => hne d rfl (by rw [h])]
theorem Wr.del {W : Wr} {st : St} (hl : W.live st) (d : Del) : W.app (d.app st) = d.app (W.app st) ∧ W.live (d.app st) := by
  cases W with
  | mkR r c =>
    obtain ⟨x, hx⟩ := Option.isSome_iff_exists.1 hl
    cases d with
    | no => exact ⟨rfl, hl⟩
    | lst l => exact ⟨rfl, hl⟩
    | new c' => exact ⟨by simp only [Wr.app, storeSet, Del.app]; rw [List.set_append_left _ _ (getL_lt hx)], by simp only [Wr.live, Del.app]; rw [getL_app (getL_lt hx)]; exact hl⟩
  | mkL t o =>
    obtain ⟨x, hx⟩ := Option.isSome_iff_exists.1 hl
    cases d with
    | no => exact ⟨rfl, hl⟩
    | new l => exact ⟨rfl, hl⟩
    | lst c' => exact ⟨by simp only [Wr.app, lstSet, Del.app]; rw [List.set_append_left _ _ (getL_lt hx)], by simp only [Wr.live, Del.app]; rw [getL_app (getL_lt hx)]; exact hl⟩
theorem look_trans {a b c : St} {l : Loc} (h1 : Look a b l) (h2 : Look b c l) : Look a c l := by cases l <;> first | exact Eq.trans h2 h1 | trivial
theorem look_put (st : St) (x : Option Nat) (v : AV) (l : Loc) : Look st (st.put x v) l := by cases l <;> first | (simp only [Look, put_recs, put_lsts]; done) | trivial
theorem look_del {d : Del} {st : St} {W : Wr} (hl : W.live st) : Look st (d.app st) W.loc := by
  cases W with
  | mkR r c => obtain ⟨x, hx⟩ := Option.isSome_iff_exists.1 hl; cases d <;> first | rfl | exact getL_app (getL_lt hx)
  | mkL t o => obtain ⟨x, hx⟩ := Option.isSome_iff_exists.1 hl; cases d <;> first | rfl | exact getL_app (getL_lt hx)
def Apart (x : It) (W : Wr) : Prop := match W with | .mkR r _ => ¬ (x.kind = 1 ∧ x.n = r) | .mkL q _ => ¬ (x.kind = 2 ∧ x.n = q)
theorem wrOk_of {y x : It} {W : Wr} (hW : y.at_ W) (h : wrOk y x = true) : x.kind < 3 ∧ W.loc ∉ x.touch ∧ Apart x W := by
  unfold wrOk at h
  cases W with
  | mkR r c =>
    obtain ⟨h1, h2⟩ := hW
    rw [h1, h2] at h
    simp only [Bool.or_eq_true, Bool.and_eq_true, Bool.not_eq_true', Bool.and_eq_false_iff] at h
    rcases h with ⟨⟨⟨_, h3⟩, h4⟩, h5⟩ | ⟨⟨⟨h3, _⟩, _⟩, _⟩
    · refine ⟨by simpa using h3, hasR_mem h4, fun h6 => ?_⟩
      rw [h6.1, h6.2] at h5; simp at h5
    · simp at h3
  | mkL q o =>
    obtain ⟨h1, h2⟩ := hW
    rw [h1, h2] at h
    simp only [Bool.or_eq_true, Bool.and_eq_true, Bool.not_eq_true', Bool.and_eq_false_iff] at h
    rcases h with ⟨⟨⟨h3, _⟩, _⟩, _⟩ | ⟨⟨⟨_, h3⟩, h4⟩, h5⟩
    · simp at h3
    · refine ⟨by simpa using h3, hasL_mem h4, fun h6 => ?_⟩
      rw [h6.1, h6.2] at h5; simp at h5
theorem wrOk_kind {y x : It} (h : wrOk y x = true) : y.kind = 5 ∨ y.kind = 6 := by
  unfold wrOk at h
  simp only [Bool.or_eq_true, Bool.and_eq_true] at h
  rcases h with ⟨⟨⟨h, _⟩, _⟩, _⟩ | ⟨⟨⟨h, _⟩, _⟩, _⟩
  · exact .inl (by simpa using h)
  · exact .inr (by simpa using h)
include hu in
theorem swap6 {y x : It} {st st1 st2 : St} (hap : (match ops[y.idx]?, ops[x.idx]? with | some p, some q => p.apart ops q | _, _ => false) = true) (hp : wrOk y x = true) (hy : Step1 ε ops y st st1) (hx : Step1 ε ops x st1 st2) : ∃ st', Step1 ε ops x st st' ∧ Step1 ε ops y st' st2 := by
  obtain ⟨oy, vy, W, hoy, hW, hl, rfl, sy⟩ := step_wr (wrOk_kind hp) hy
  obtain ⟨hk, ht, _⟩ := wrOk_of hW hp
  obtain ⟨ox, vx, d, hox, rfl, kx, nx, nx2, sx⟩ := step_shift hu hk hx
  rw [hoy, hox] at hap
  obtain ⟨a1, a2, a3⟩ := Oper.apart_spec (show oy.apart ops ox = true from hap)
  refine ⟨(d.app st).put ox.dst vx, sx st (fun i hi => ?_) (fun l hl' => ?_) (fun _ => ?_) (fun _ => ?_), ?_⟩
  · rw [put_slot _ _ _ _ fun e he h => a1 e he (h ▸ hi), W.slots]
  · exact (look_trans (W.look hl fun e => ht (e ▸ hl')) (look_put _ _ _ _)).symm
  · rw [put_recs, (W.lens st).1]
  · rw [put_lsts, (W.lens st).2]
  · have := sy ((d.app st).put ox.dst vx) (fun i hi => by rw [put_slot _ _ _ _ fun e he h => a3 e he (h ▸ hi), app_slots]) (look_trans (look_del hl) (look_put _ _ _ _))
    rw [W.put, (W.del hl d).1, put_comm _ _ _ _ _ a2] at this
    have e : (d.app ((W.app st).put oy.dst vy)).put ox.dst vx = ((d.app (W.app st)).put oy.dst vy).put ox.dst vx := by congr 1; cases d <;> cases oy.dst <;> rfl
    rw [e]; exact this
theorem del_put (d : Del) (st : St) (x : Option Nat) (v : AV) : d.app (st.put x v) = (d.app st).put x v := by cases d <;> cases x <;> rfl
include hu in
theorem swap7 {y x : It} {st st1 st2 : St} (hap : (match ops[y.idx]?, ops[x.idx]? with | some p, some q => p.apart ops q | _, _ => false) = true) (hp : wrOk x y = true) (hy : Step1 ε ops y st st1) (hx : Step1 ε ops x st1 st2) : ∃ st', Step1 ε ops x st st' ∧ Step1 ε ops y st' st2 := by
  have hk : y.kind < 3 := by
    obtain ⟨_, _, W, _, hW, _⟩ := step_wr (wrOk_kind hp) hx
    exact (wrOk_of hW hp).1
  obtain ⟨oy, vy, d, hoy, rfl, ky, ny, ny2, sy⟩ := step_shift hu hk hy
  obtain ⟨ox, vx, W, hox, hW, hl, rfl, sx⟩ := step_wr (wrOk_kind hp) hx
  obtain ⟨_, ht, hapt⟩ := wrOk_of hW hp
  rw [hoy, hox] at hap
  obtain ⟨a1, a2, a3⟩ := Oper.apart_spec (show oy.apart ops ox = true from hap)
  have hl0 : W.live st := by
    cases W with
    | mkR r c =>
      have hl' : (getL (d.app st).recs r).isSome = true := by simpa only [Wr.live, put_recs] using hl
      cases d with
      | no => exact hl'
      | lst l => exact hl'
      | new c' =>
        by_cases e : r = st.recs.length
        · have h1 : y.kind = 1 := ky.symm
          exact absurd ⟨h1, by rw [ny h1, e]⟩ hapt
        · simp only [Del.app] at hl'; rw [getL_app_ne e] at hl'; exact hl'
    | mkL q o =>
      have hl' : (getL (d.app st).lsts q).isSome = true := by simpa only [Wr.live, put_lsts] using hl
      cases d with
      | no => exact hl'
      | new l => exact hl'
      | lst c' =>
        by_cases e : q = st.lsts.length
        · have h1 : y.kind = 2 := ky.symm
          exact absurd ⟨h1, by rw [ny2 h1, e]⟩ hapt
        · simp only [Del.app] at hl'; rw [getL_app_ne e] at hl'; exact hl'
  refine ⟨(W.app st).put ox.dst vx, sx st (fun i hi => ?_) (look_trans (look_del (d := d) hl0) (look_put _ _ _ _)).symm, ?_⟩
  · rw [put_slot _ _ _ _ fun e he h => a1 e he (h ▸ hi), app_slots]
  · have := sy ((W.app st).put ox.dst vx) (fun i hi => by rw [put_slot _ _ _ _ fun e he h => a3 e he (h ▸ hi), W.slots]) (fun l hl' => look_trans (W.look hl0 fun e => ht (e ▸ hl')) (look_put _ _ _ _)) (fun _ => by rw [put_recs, (W.lens st).1]) (fun _ => by rw [put_lsts, (W.lens st).2])
    rw [del_put, ← (W.del hl0 d).1] at this
    rw [W.put, put_comm _ _ _ _ _ fun e he h => a2 e h he]
    exact this
theorem wr2_kind {y x : It} (h : wr2Ok y x = true) : (y.kind = 5 ∨ y.kind = 6) ∧ (x.kind = 5 ∨ x.kind = 6) := by
  unfold wr2Ok at h
  simp only [Bool.or_eq_true, Bool.and_eq_true] at h
  rcases h with ((⟨h1, h2⟩ | ⟨h1, h2⟩) | ⟨⟨h1, h2⟩, _⟩) | ⟨⟨h1, h2⟩, _⟩
  · exact ⟨.inl (by simpa using h1), .inr (by simpa using h2)⟩
  · exact ⟨.inr (by simpa using h1), .inl (by simpa using h2)⟩
  · exact ⟨.inl (by simpa using h1), .inl (by simpa using h2)⟩
  · exact ⟨.inr (by simpa using h1), .inr (by simpa using h2)⟩
theorem wr2_ne {y x : It} {Wy Wx : Wr} (h : wr2Ok y x = true) (hy : y.at_ Wy) (hx : x.at_ Wx) : Wy.loc ≠ Wx.loc := by
  intro e
  unfold wr2Ok at h
  cases Wy <;> cases Wx <;> simp only [Wr.loc] at e <;> cases e
  · obtain ⟨a1, a2⟩ := hy; obtain ⟨b1, b2⟩ := hx
    rw [a1, a2, b1, b2] at h; simp at h
  · obtain ⟨a1, a2⟩ := hy; obtain ⟨b1, b2⟩ := hx
    rw [a1, a2, b1, b2] at h; simp at h
theorem Wr.comm {Wy Wx : Wr} {st : St} (h : Wy.loc ≠ Wx.loc) : Wy.app (Wx.app st) = Wx.app (Wy.app st) := by
  cases Wy <;> cases Wx <;> simp only [Wr.loc] at h <;> simp only [Wr.app, storeSet, lstSet]
  · rw [List.set_comm _ _ fun e => h (by rw [e])]
  · rw [List.set_comm _ _ fun e => h (by rw [e])]
theorem Wr.live_app {Wy Wx : Wr} {st : St} (h : Wy.loc ≠ Wx.loc) (hl : Wx.live st) : Wy.live (Wx.app st) ↔ Wy.live st := by
  have := Wx.look hl (l := Wy.loc) h
  cases Wy <;> simp only [Look, Wr.loc, Wr.live] at this ⊢ <;> rw [this]
theorem swap8 {y x : It} {st st1 st2 : St} (hap : (match ops[y.idx]?, ops[x.idx]? with | some p, some q => p.apart ops q | _, _ => false) = true) (hp : wr2Ok y x = true) (hy : Step1 ε ops y st st1) (hx : Step1 ε ops x st1 st2) : ∃ st', Step1 ε ops x st st' ∧ Step1 ε ops y st' st2 := by
  obtain ⟨hky, hkx⟩ := wr2_kind hp
  obtain ⟨oy, vy, Wy, hoy, hWy, hly, rfl, sy⟩ := step_wr hky hy
  obtain ⟨ox, vx, Wx, hox, hWx, hlx, rfl, sx⟩ := step_wr hkx hx
  have hne := wr2_ne hp hWy hWx
  rw [hoy, hox] at hap
  obtain ⟨a1, a2, a3⟩ := Oper.apart_spec (show oy.apart ops ox = true from hap)
  have hlx0 : Wx.live st := by
    have : Wx.live (Wy.app st) := by cases Wx <;> simpa only [Wr.live, put_recs, put_lsts] using hlx
    exact (Wr.live_app (Ne.symm hne) hly).1 this
  refine ⟨(Wx.app st).put ox.dst vx, sx st (fun i hi => ?_) (look_trans (Wy.look hly (Ne.symm hne)) (look_put _ _ _ _)).symm, ?_⟩
  · rw [put_slot _ _ _ _ fun e he h => a1 e he (h ▸ hi), Wy.slots]
  · have := sy ((Wx.app st).put ox.dst vx) (fun i hi => by rw [put_slot _ _ _ _ fun e he h => a3 e he (h ▸ hi), Wx.slots]) (look_trans (Wx.look hlx0 hne) (look_put _ _ _ _))
    rw [Wr.put, Wr.comm hne] at this
    rw [Wr.put, put_comm _ _ _ _ _ fun e he h => a2 e h he]
    exact this

theorem killed_of (t : Nat) (l : LObj) (st : St) (y : Option Nat) (v : AV) : Killed t st ((killSet t l st).put y v) := by
  refine ⟨fun r => ?_, fun q hq => ?_⟩
  · rw [put_recs]; simp only [killSet, St.mapAV]; rw [getL_map]
  · rw [put_lsts]; simp only [killSet, St.mapAV]
    unfold getL; rw [List.getElem?_set_ne (Ne.symm hq)]
theorem ev_kill' {st st' : St} {t : Nat} {x : Operand} (h : ∀ d, x = .tmp d → st'.slots[d]? = (st.slots[d]?).map (AV.kill t)) : st'.ev x = (st.ev x).kill t := by
  cases x with
  | tmp d =>
    simp only [St.ev, List.getD_eq_getElem?_getD]
    rw [h d rfl]
    cases st.slots[d]? <;> simp [AV.kill]
  | const v =>
    have h1 : ∀ v, (ofConst1 v).kill t = ofConst1 v := fun v => by unfold ofConst1; split <;> simp [AV.kill]
    have h2 : ∀ l : List Value, killL t (l.map ofConst1) = l.map ofConst1 := by
      intro l
      induction l with
      | nil => rfl
      | cons v l ih => simp only [List.map_cons, killL, h1, ih]
    simp only [St.ev]; unfold ofConst; split
    · simp only [AV.kill, h2]
    · exact (h1 _).symm
  | global g => simp [St.ev, AV.kill]
  | func f => simp [St.ev, AV.kill, killL]
theorem killSet_put' (t : Nat) (l : LObj) (st : St) (x y : Option Nat) (vx vy : AV) (hne : ∀ d, y = some d → x ≠ some d) : (killSet t l (st.put x vx)).put y vy = ((killSet t l st).put y vy).put x (vx.kill t) := by
  obtain ⟨sl, rc, ls⟩ := st
  cases x <;> cases y <;> simp only [killSet, St.put, St.mapAV]
  · rw [List.map_set]
  · rename_i e d
    rw [List.map_set, List.set_comm _ _ fun h => hne d rfl (by rw [h])]
theorem hom_kind {o : Oper} {st st' : St} (h : homOp o.op = true) : kindOf ε st' o = kindOf ε st o := by
  obtain ⟨dst, op, type, pos, after, guard⟩ := o
  cases op <;> simp only [homOp] at h <;> first | (cases h; done) | rfl
mutual
/-- What is told of all is not told otherwise. -/
theorem AV.hmok_kill (t : Nat) : ∀ {v : AV}, (v.kill t).hmok = true → v.kill t = v
  | .whole j, h => by
    simp only [AV.kill] at h ⊢
    by_cases e : j = t
    · rw [if_pos e] at h; cases h
    · rw [if_neg e]
  | .eptr j i o, h => by
    simp only [AV.kill] at h ⊢
    by_cases e : j = t
    · rw [if_pos e] at h; cases h
    · rw [if_neg e]
  | .pim l, h => by simp only [AV.kill, AV.hmok] at h ⊢; rw [killL_closed t h]
  | .agg l, h => by simp only [AV.kill, AV.hmok] at h ⊢; rw [hmok_killL t h]
  | .ifc q l, h => by simp only [AV.kill, AV.hmok] at h ⊢; rw [hmok_killL t h]
  | .tup l, h => by simp only [AV.kill, AV.hmok] at h ⊢; rw [hmok_killL t h]
  | .fn f a b, h => by
    simp only [AV.kill, AV.hmok, Bool.and_eq_true] at h ⊢; rw [hmok_killL t h.1, hmok_killL t h.2]
  | .d _ _, _ | .full _ _, _ | .nilS, _ | .nilP, _ | .ptr _ _, _ | .bld _, _ | .sx _, _ | .dead, _ => by simp only [AV.kill]
theorem hmok_killL (t : Nat) : ∀ {l : List AV}, hmokL (killL t l) = true → killL t l = l
  | [], _ => rfl
  | v :: l, h => by simp only [killL, hmokL, Bool.and_eq_true] at h ⊢; rw [AV.hmok_kill t h.1, hmok_killL t h.2]
end
mutual
theorem AV.kill_hmok (t : Nat) : ∀ {v : AV}, v.hmok = true → .l t ∉ v.locs → v.kill t = v
  | .whole j, _, h => by simp only [AV.kill]; rw [if_neg (by intro e; exact h (by simp [AV.locs, e]))]
  | .eptr j i o, _, h => by simp only [AV.kill]; rw [if_neg (by intro e; exact h (by simp [AV.locs, e]))]
  | .pim l, g, h => by simp only [AV.kill, AV.hmok] at g ⊢; rw [closed_killL t g]
  | .agg l, g, h => by simp only [AV.kill, AV.locs, AV.hmok] at g h ⊢; rw [kill_hmokL t g h]
  | .ifc q l, g, h => by simp only [AV.kill, AV.locs, AV.hmok] at g h ⊢; rw [kill_hmokL t g h]
  | .tup l, g, h => by simp only [AV.kill, AV.locs, AV.hmok] at g h ⊢; rw [kill_hmokL t g h]
  | .fn f a b, g, h => by
    simp only [AV.kill, AV.locs, List.mem_append, not_or, AV.hmok, Bool.and_eq_true] at g h ⊢; rw [kill_hmokL t g.1 h.1, kill_hmokL t g.2 h.2]
  | .d _ _, _, _ | .full _ _, _, _ | .nilS, _, _ | .nilP, _, _ | .ptr _ _, _, _ | .bld _, _, _ | .sx _, _, _ | .dead, _, _ => by simp only [AV.kill]
theorem kill_hmokL (t : Nat) : ∀ {l : List AV}, hmokL l = true → .l t ∉ locsL l → killL t l = l
  | [], _, _ => rfl
  | v :: l, g, h => by simp only [locsL, killL, List.mem_append, not_or, hmokL, Bool.and_eq_true] at g h ⊢; rw [AV.kill_hmok t g.1 h.1, kill_hmokL t g.2 h.2]
end
theorem hmOk_of {y x : It} (h : hmOk y x = true) : y.kind = 4 ∧ x.hm = true ∧ .l y.n ∉ x.touch := by
  unfold hmOk at h
  simp only [Bool.and_eq_true, Bool.not_eq_true'] at h
  exact ⟨by simpa using h.1.1, h.1.2, hasL_mem h.2⟩
theorem want_kill' {o : Oper} {st st' : St} {t : Nat} (h : ∀ d ∈ o.looksAt ops, st'.slots[d]? = (st.slots[d]?).map (AV.kill t)) {b : Bool} : want ops o st' = some b ↔ want ops o st = some b := want_kill fun d hd => h d (gslot_looks hd)
theorem swap9 {y x : It} {st st1 st2 : St} (hap : (match ops[y.idx]?, ops[x.idx]? with | some p, some q => p.apart ops q | _, _ => false) = true) (hp : hmOk y x = true) (hy : Step1 ε ops y st st1) (hx : Step1 ε ops x st1 st2) : ∃ st', Step1 ε ops x st st' ∧ Step1 ε ops y st' st2 := by
  obtain ⟨hk, hm, ht⟩ := hmOk_of hp
  obtain ⟨oy, vy, t, l, hoy, hn, hl, rfl, sy⟩ := step_app hk hy
  rw [hn] at ht
  obtain ⟨ox, hox, hx⟩ := hx
  rw [hoy, hox] at hap
  obtain ⟨a1, a2, a3⟩ := Oper.apart_spec (show oy.apart ops ox = true from hap)
  have sl : ∀ d ∈ ox.looksAt ops, ((killSet t l st).put oy.dst vy).slots[d]? = (st.slots[d]?).map (AV.kill t) := fun d hd => by
    rw [put_slot _ _ _ _ fun e he h => a1 e he (h ▸ hd), killSet_slot]
  rcases hx with ⟨hw, e1, e2, e3, e4, av, st2', hev, rfl, hcl, hmf⟩ | ⟨hw, e1, e2, rfl⟩
  · obtain ⟨c1, c2, c3⟩ := hmf.2.1 hm
    have hev' : ∀ x ∈ ox.op.operands, ((killSet t l st).put oy.dst vy).ev x = (st.ev x).kill t := fun x hx => ev_kill' fun d e => sl d (opnd_looks hx e)
    have hid : ∀ x ∈ ox.op.operands, (st.ev x).kill t = st.ev x := fun x hx => AV.hmok_kill t (by rw [← hev' x hx]; exact hmOps_mem c3 x (by simpa using hx))
    have hsame : ∀ x ∈ ox.op.operands, st.ev x = ((killSet t l st).put oy.dst vy).ev x := fun x hx => by rw [hev' x hx, hid x hx]
    have htt : touchOf st ox = touchOf ((killSet t l st).put oy.dst vy) ox := touch_agree (ts := []) ⟨hsame, fun l hl => by cases hl⟩
    obtain ⟨av0, rfl, rfl, hev0⟩ := (evOp_hm c2 (killed_of t l st oy.dst vy) hev' (by rw [htt, ← e2]; exact ht)).2 _ _ hev
    refine ⟨st.put ox.dst av0, ⟨ox, hox, .inl ⟨(want_kill' sl).1 hw, by rw [hom_kind c2]; exact e1, by rw [htt]; exact e2, fun h => by omega, fun h => by omega, av0, st, hev0, rfl, fun h => ?_, hmf.move hsame⟩⟩, ?_⟩
    · obtain ⟨d1, d2, d3⟩ := hcl h
      exact ⟨d1, by rw [closedOps_agree fun x hx => hsame x (by simpa using hx)]; exact d2, by rw [AV.kill_closed t d3] at d3; exact d3⟩
    · have := sy (st.put ox.dst av0) (fun i hi => put_slot _ _ _ _ fun e he h => a3 e he (h ▸ hi)) (fun l => put_look _ _ _ _)
      rwa [killSet_put' t l st ox.dst oy.dst av0 vy a2] at this
  · refine ⟨st.put ox.dst (.tup []), ⟨ox, hox, .inr ⟨(want_kill' sl).1 hw, e1, e2, rfl⟩⟩, ?_⟩
    have := sy (st.put ox.dst (.tup [])) (fun i hi => put_slot _ _ _ _ fun e he h => a3 e he (h ▸ hi)) (fun l => put_look _ _ _ _)
    rwa [killSet_put' t l st ox.dst oy.dst (.tup []) vy a2] at this
theorem hom_st {o : Oper} {st st1 : St} {av : AV} (c2 : homOp o.op = true) (hev : evOp ε st o two = some (av, st1)) : st1 = st := by
  obtain ⟨dst, op, type, pos, after, guard⟩ := o
  cases op <;> simp only [homOp] at c2 <;> try (cases c2; done)
  all_goals simp only [evOp] at hev
  case move x => cases hev; rfl
  case assign x => cases hev; rfl
  case load => rw [evLoad_nat] at hev; obtain ⟨v, hv, e⟩ := Option.bind_eq_some_iff.1 hev; cases e; rfl
  case fieldAddr => rw [evFieldAddr_nat] at hev; obtain ⟨v, hv, e⟩ := Option.bind_eq_some_iff.1 hev; cases e; rfl
  case lookup => rw [evLookup_nat] at hev; obtain ⟨v, hv, e⟩ := Option.bind_eq_some_iff.1 hev; cases e; rfl
  case field => rw [evField_nat] at hev; obtain ⟨v, hv, e⟩ := Option.bind_eq_some_iff.1 hev; cases e; rfl
  case extract => (repeat' split at hev) <;> first | (cases hev; rfl) | cases hev
  case nilCheck => (repeat' split at hev) <;> first | (cases hev; rfl) | cases hev
theorem swap10 {y x : It} {st st1 st2 : St} (hap : (match ops[y.idx]?, ops[x.idx]? with | some p, some q => p.apart ops q | _, _ => false) = true) (hp : hmOk x y = true) (hy : Step1 ε ops y st st1) (hx : Step1 ε ops x st1 st2) : ∃ st', Step1 ε ops x st st' ∧ Step1 ε ops y st' st2 := by
  obtain ⟨hk, hm, ht⟩ := hmOk_of hp
  obtain ⟨oy, hoy, hy⟩ := hy
  have main : ∀ vy : AV, st1 = st.put oy.dst vy → (∀ (t : Nat) (l : LObj) (dst : Option Nat) (vx : AV), x.n = t → (∀ d ∈ oy.looksAt ops, ((killSet t l st).put dst vx).slots[d]? = (st.slots[d]?).map (AV.kill t)) → Step1 ε ops y ((killSet t l st).put dst vx) (((killSet t l st).put dst vx).put oy.dst (vy.kill t))) →
      ∃ st', Step1 ε ops x st st' ∧ Step1 ε ops y st' st2 := by
    intro vy hst hgo
    subst hst
    obtain ⟨ox, vx, t, l, hox, hn, hl, rfl, sx⟩ := step_app hk hx
    rw [hoy, hox] at hap
    obtain ⟨a1, a2, a3⟩ := Oper.apart_spec (show oy.apart ops ox = true from hap)
    have sl : ∀ d ∈ oy.looksAt ops, ((killSet t l st).put ox.dst vx).slots[d]? = (st.slots[d]?).map (AV.kill t) := fun d hd => by
      rw [put_slot _ _ _ _ fun e he h => a3 e he (h ▸ hd), killSet_slot]
    refine ⟨(killSet t l st).put ox.dst vx, sx st (fun i hi => (put_slot _ _ _ _ fun e he h => a1 e he (h ▸ hi)).symm) (fun l => (put_look _ _ _ _).symm), ?_⟩
    rw [killSet_put' t l st oy.dst ox.dst vy vx fun d hd h => a2 d h hd]
    exact hgo t l ox.dst vx hn sl
  rcases hy with ⟨hw, e1, e2, e3, e4, av, st2', hev, hst, hcl, hmf⟩ | ⟨hw, e1, e2, hst⟩
  · obtain ⟨c1, c2, c3⟩ := hmf.2.1 hm
    obtain rfl := hom_st c2 hev
    refine main av hst fun t l dst vx hn sl => ?_
    rw [hn] at ht
    have hev' : ∀ x ∈ oy.op.operands, ((killSet t l st2').put dst vx).ev x = (st2'.ev x).kill t := fun x hx => ev_kill' fun d e => sl d (opnd_looks hx e)
    have hid : ∀ x ∈ oy.op.operands, (st2'.ev x).kill t = st2'.ev x := fun x hx => AV.kill_hmok t (hmOps_mem c3 x (by simpa using hx)) fun hh => ht (by rw [e2]; unfold touchOf; exact List.mem_flatMap.2 ⟨x, by simpa using hx, hh⟩)
    have hsame : ∀ x ∈ oy.op.operands, ((killSet t l st2').put dst vx).ev x = st2'.ev x := fun x hx => by rw [hev' x hx, hid x hx]
    have htt : touchOf ((killSet t l st2').put dst vx) oy = touchOf st2' oy := touch_agree (ts := []) ⟨hsame, fun l hl => by cases hl⟩
    obtain ⟨_, hev0⟩ := (evOp_hm c2 (killed_of t l st2' dst vx) hev' (by rw [← e2]; exact ht)).1 _ _ hev
    refine ⟨oy, hoy, .inl ⟨(want_kill' sl).2 hw, by rw [hom_kind c2]; exact e1, by rw [htt]; exact e2, fun h => by omega, fun h => by omega, av.kill t, _, hev0, rfl, fun h => ?_, hmf.move hsame⟩⟩
    obtain ⟨d1, d2, d3⟩ := hcl h
    exact ⟨d1, by rw [closedOps_agree fun x hx => hsame x (by simpa using hx)]; exact d2, by rw [AV.closed_kill t d3]; exact d3⟩
  · exact main (.tup []) hst fun t l dst vx hn sl => ⟨oy, hoy, .inr ⟨(want_kill' sl).2 hw, e1, e2, rfl⟩⟩
structure FixF (F : AV → AV) : Prop where
  dead : F .dead = .dead
  d : ∀ t x, F (.d t x) = .d t x
  nilS : F .nilS = .nilS
  nilP : F .nilP = .nilP
  ptr : ∀ r off, F (.ptr r off) = .ptr r off
  bld : ∀ r, F (.bld r) = .bld r
  con : ∀ v, F (ofConst v) = ofConst v
  fn : ∀ f, F (.fn (.func f) [] []) = .fn (.func f) [] []
theorem froze_fix (t : Nat) (o : LObj) : FixF (AV.froze t o) := by
  have h1 : ∀ v, (ofConst1 v).froze t o = ofConst1 v := fun v => by unfold ofConst1; split <;> simp [AV.froze]
  have h2 : ∀ l : List Value, frozeL t o (l.map ofConst1) = l.map ofConst1 := by
    intro l
    induction l with
    | nil => rfl
    | cons v l ih => simp only [List.map_cons, frozeL, h1, ih]
  refine ⟨rfl, fun _ _ => rfl, rfl, rfl, fun _ _ => rfl, fun _ => rfl, fun v => ?_, fun f => rfl⟩
  unfold ofConst; split
  · simp only [AV.froze, h2]
  · exact h1 _
theorem FixF.comp {F G : AV → AV} (hF : FixF F) (hG : FixF G) : FixF fun v => G (F v) :=
  ⟨by rw [hF.dead, hG.dead], fun t x => by rw [hF.d, hG.d], by rw [hF.nilS, hG.nilS], by rw [hF.nilP, hG.nilP], fun r off => by rw [hF.ptr, hG.ptr], fun r => by rw [hF.bld, hG.bld], fun v => by rw [hF.con, hG.con], fun f => by rw [hF.fn, hG.fn]⟩
theorem FixF.id : FixF fun v => v := ⟨rfl, fun _ _ => rfl, rfl, rfl, fun _ _ => rfl, fun _ => rfl, fun _ => rfl, fun _ => rfl⟩
theorem FixF.flat {F : AV → AV} (hF : FixF F) : ∀ {l : List AV}, flatL l = true → l.map F = l
  | [], _ => rfl
  | v :: l, h => by
    simp only [flatL, Bool.and_eq_true] at h
    obtain ⟨h1, h2⟩ := h
    rw [List.map_cons, hF.flat h2]
    cases v <;> simp only [Bool.false_eq_true] at h1 <;> first | rw [hF.d] | rw [hF.nilS] | rw [hF.nilP]
theorem freeze_fn : ∀ (ts : List Nat) (lsts : List (Option LObj)), ∃ (F : AV → AV) (L : List (Option LObj)), FixF F ∧ ∀ st : St, st.lsts = lsts → st.freeze ts = ⟨st.slots.map F, st.recs.map fun r => r.map fun l => l.map F, L⟩
  | [], lsts => ⟨fun v => v, lsts, FixF.id, fun st h => by
    obtain ⟨a, b, c⟩ := st
    simp only at h; subst h
    simp [St.freeze]⟩
  | t :: ts, lsts => by
    cases hg : getL lsts t with
    | none =>
      obtain ⟨F, L, h1, h2⟩ := freeze_fn ts lsts
      refine ⟨F, L, h1, fun st h => ?_⟩
      have : st.freeze (t :: ts) = (st.freeze1 t).freeze ts := rfl
      have e : st.freeze1 t = st := by unfold St.freeze1; rw [h, hg]
      rw [this, e]; exact h2 st h
    | some o =>
      obtain ⟨F, L, h1, h2⟩ := freeze_fn ts (lsts.set t none)
      refine ⟨fun v => F (v.froze t o), L, (froze_fix t o).comp h1, fun st h => ?_⟩
      have : st.freeze (t :: ts) = (st.freeze1 t).freeze ts := rfl
      have e : st.freeze1 t = ⟨st.slots.map (AV.froze t o), st.recs.map fun r => r.map fun l => l.map (AV.froze t o), lsts.set t none⟩ := by
        unfold St.freeze1; rw [h, hg]; rfl
      rw [this, e, h2 _ rfl]
      simp only [List.map_map]
      congr 1
      apply List.map_congr_left
      intro r _
      cases r <;> simp
theorem ev_frozen {st st' : St} {F : AV → AV} (hF : FixF F) {x : Operand} (h : ∀ d, x = .tmp d → st'.slots[d]? = (st.slots[d]?).map F) : st'.ev x = F (st.ev x) := by
  cases x with
  | tmp d =>
    simp only [St.ev, List.getD_eq_getElem?_getD]
    rw [h d rfl]
    cases st.slots[d]? <;> simp [hF.dead]
  | const v => simp only [St.ev, hF.con]
  | global g => simp [St.ev, hF.dead]
  | func f => simp only [St.ev, hF.fn]
include hu in
theorem evOp_frz {st st1 : St} {o : Oper} {av : AV} (hk : kindOf ε st o = 7) (h : evOp ε st o two = some (av, st1)) :
    ∃ ts, st1 = st.freeze ts ∧ ∀ st', (∀ x ∈ o.op.operands, st'.ev x = st.ev x) → st'.lsts = st.lsts → kindOf ε st' o = 7 ∧ touchOf st' o = touchOf st o ∧ evOp ε st' o two = some (av, st'.freeze ts) := by
  obtain ⟨dst, op, type, pos, after, guard⟩ := o
  have tch : ∀ {st' : St}, (∀ x ∈ op.operands, st'.ev x = st.ev x) → touchOf st' ⟨dst, op, type, pos, after, guard⟩ = touchOf st ⟨dst, op, type, pos, after, guard⟩ := fun ha => touch_agree (ts := []) ⟨ha, fun l hl => by cases hl⟩
  cases op <;> simp only [kindOf] at hk <;> try (cases hk; done)
  case store t a x => (repeat' split at hk) <;> cases hk
  case buildSlice t n parts => (repeat' split at hk) <;> cases hk
  case call c =>
    obtain ⟨callee, args, argTypes⟩ := c
    cases callee with
    | invoke r m => cases hk
    | builtin b =>
      cases b <;> simp only at hk <;> first | (cases hk; done) | ((repeat' split at hk) <;> cases hk)
    | value g =>
      have memg : g ∈ (Op.call ⟨.value g, args, argTypes⟩).operands := by simp [Op.operands, Call.operands]
      have mem : ∀ x ∈ args.toList, x ∈ (Op.call ⟨.value g, args, argTypes⟩).operands := fun x hx => by simp [Op.operands, Call.operands]; right; simpa using hx
      simp only at hk
      split at hk
      · rename_i f pre post hg
        cases hf : ε.fn f with
        | none => rw [hf] at hk; dsimp only at hk; split at hk <;> cases hk
        | some y =>
          obtain ⟨G, sc⟩ := y
          rw [hf] at hk
          cases sc with
          | true => cases hk
          | false =>
            have hG := hu f G false hf
            simp only [evOp, hg, evCall, hf, Option.isSome_some, Bool.false_eq_true, if_false] at h
            split at h
            · rename_i hcl
              replace h := (hG _ _ _).symm.trans h
              obtain ⟨v, hv, h⟩ := Option.bind_eq_some_iff.1 h
              cases h
              refine ⟨args.toList.flatMap fun p => (st.ev p).wholes, rfl, fun st' ha hl => ⟨?_, tch ha, ?_⟩⟩
              · simp only [kindOf]
                rw [ha g memg, hg]; dsimp only; rw [hf]; dsimp only
                rw [flat_ev (g := AV.wholes) fun x hx => ha x (mem x hx)]
                exact hk
              · obtain ⟨F, L, hF, hfr⟩ := freeze_fn (args.toList.flatMap fun p => (st.ev p).wholes) st.lsts
                have hev : ∀ x ∈ args.toList, (st'.freeze (args.toList.flatMap fun p => (st.ev p).wholes)).ev x = (st.freeze (args.toList.flatMap fun p => (st.ev p).wholes)).ev x := fun x hx => by
                  have key : ∀ s : St, (⟨s.slots.map F, s.recs.map fun r => r.map fun l => l.map F, L⟩ : St).ev x = F (s.ev x) := fun s => ev_frozen (st := s) hF fun d _ => by simp
                  rw [hfr st' hl, hfr st rfl, key st', key st, ha x (mem x hx)]
                simp only [evOp]
                rw [ha g memg, hg]
                simp only [evCall, hf, Bool.false_eq_true, if_false, Option.isSome_some]
                rw [flat_ev (g := AV.wholes) fun x hx => ha x (mem x hx), map_ev hev, if_pos hcl]
                refine (hG _ _ _).trans ?_
                rw [hv]; rfl
            · cases h
      · cases hk
theorem frOk_of {y x : It} (h : frOk y x = true) : y.kind = 7 ∧ x.kind = 1 ∧ x.al = true := by
  unfold frOk at h
  simp only [Bool.and_eq_true] at h
  exact ⟨by simpa using h.1.1, by simpa using h.1.2, h.2⟩
def alSet (c : List AV) (dst : Option Nat) (st : St) : St := ({ st with recs := st.recs ++ [some c] } : St).put dst (.ptr st.recs.length 0)
theorem step_al {it : It} {st st1 : St} (hk : it.kind = 1) (ha : it.al = true) (h : Step1 ε ops it st st1) : ∃ (o : Oper) (c : List AV), ops[it.idx]? = some o ∧ st1 = alSet c o.dst st ∧ it.n = st.recs.length ∧
    (∀ F, FixF F → c.map F = c) ∧ ∀ st', st'.recs.length = st.recs.length → Step1 ε ops it st' (alSet c o.dst st') := by
  obtain ⟨o, ho, h⟩ := h
  rcases h with ⟨hw, e1, e2, e3, e4, av, st2, hev, rfl, hcl, hmf⟩ | ⟨hw, e1, e2, rfl⟩
  · have hao := (hmf.2.2.2 ha).symm
    have hmf3 := hmf.2.2.2
    obtain ⟨dst, op, type, pos, after, guard⟩ := o
    unfold allocOf at hao
    simp only at hao
    split at hao
    · split at hao
      · rename_i t
        split at hao
        · rename_i i hi
          simp only [evOp, hi] at hev
          cases hev
          refine ⟨_, bldZero i.bld st.recs.length i.zero, ho, rfl, e3 hk, fun F hF => ?_, fun st' hl => ⟨_, ho, .inl ⟨rfl, e1, e2, fun _ => by rw [hl]; exact e3 hk, fun h => by omega, .ptr st'.recs.length 0, { st' with recs := st'.recs ++ [some (bldZero i.bld st.recs.length i.zero)] }, ?_, rfl, fun h => by have := (hcl h).1; omega, ?_⟩⟩⟩
          · unfold bldZero
            split
            · split
              · simp [hF.bld, hF.nilS]
              · exact hF.flat hao.symm
            · exact hF.flat hao.symm
          · simp only [evOp, hi]; rw [hl]; rfl
          · refine ⟨fun h => ?_, fun h => ?_, fun h => by omega, hmf3⟩
            · have := (hmf.1 h).1; omega
            · have := (hmf.2.1 h).1; omega
        · cases hao
      · cases hao
    · cases hao
  · omega
theorem frz_al {st : St} {ts : List Nat} {c : List AV} {x y : Option Nat} {vy : AV} (hc : ∀ F, FixF F → c.map F = c) (hne : ∀ d, y = some d → x ≠ some d) :
    ((alSet c x st).freeze ts).put y vy = alSet c x ((st.freeze ts).put y vy) := by
  obtain ⟨F, L, hF, hfr⟩ := freeze_fn ts st.lsts
  have h1 : (alSet c x st).lsts = st.lsts := by unfold alSet; rw [put_lsts]
  rw [hfr _ h1, hfr st rfl]
  obtain ⟨a, b, l⟩ := st
  unfold alSet
  cases x with
  | none =>
    cases y with
    | none => simp [St.put, hc F hF]
    | some y => simp [St.put, hc F hF]
  | some x =>
    cases y with
    | none => simp [St.put, hc F hF, List.map_set, hF.ptr]
    | some y =>
      have hxy : x ≠ y := fun e => hne y rfl (by rw [e])
      simp [St.put, hc F hF, List.map_set, hF.ptr]
      rw [List.set_comm _ _ hxy]
theorem al_slots {c : List AV} {dst : Option Nat} {st : St} {i : Nat} (h : ∀ d, dst = some d → d ≠ i) : (alSet c dst st).slots[i]? = st.slots[i]? := by
  unfold alSet; rw [put_slot _ _ _ _ h]
include hu in
theorem step_frz {it : It} {st st1 : St} (hk : it.kind = 7) (h : Step1 ε ops it st st1) : ∃ (o : Oper) (av : AV) (ts : List Nat), ops[it.idx]? = some o ∧ st1 = (st.freeze ts).put o.dst av ∧
    ∀ st', (∀ i ∈ o.looksAt ops, st'.slots[i]? = st.slots[i]?) → st'.lsts = st.lsts → Step1 ε ops it st' ((st'.freeze ts).put o.dst av) := by
  obtain ⟨o, ho, h⟩ := h
  rcases h with ⟨hw, e1, e2, e3, e4, av, st2, hev, rfl, hcl, hmf⟩ | ⟨hw, e1, e2, rfl⟩
  · obtain ⟨ts, rfl, hs⟩ := evOp_frz hu (by rw [← e1]; exact hk) hev
    refine ⟨o, av, ts, ho, rfl, fun st' h1 h2 => ?_⟩
    obtain ⟨g1, g2, g3⟩ := hs st' (ev_agree h1) h2
    exact ⟨o, ho, .inl ⟨by rw [want_agree h1]; exact hw, by rw [g1]; exact hk, by rw [g2]; exact e2, fun h => by omega, fun h => by omega, av, _, g3, rfl, fun h => by have := (hcl h).1; omega, hmf.move (ev_agree h1)⟩⟩
  · omega
include hu in
theorem swap11 {y x : It} {st st1 st2 : St} (hap : (match ops[y.idx]?, ops[x.idx]? with | some p, some q => p.apart ops q | _, _ => false) = true) (hp : frOk y x = true) (hy : Step1 ε ops y st st1) (hx : Step1 ε ops x st1 st2) : ∃ st', Step1 ε ops x st st' ∧ Step1 ε ops y st' st2 := by
  obtain ⟨k1, k2, k3⟩ := frOk_of hp
  obtain ⟨oy, vy, ts, hoy, rfl, sy⟩ := step_frz hu k1 hy
  obtain ⟨ox, c, hox, rfl, hn, hc, sx⟩ := step_al k2 k3 hx
  rw [hoy, hox] at hap
  obtain ⟨a1, a2, a3⟩ := Oper.apart_spec (show oy.apart ops ox = true from hap)
  have hlen : st.recs.length = ((st.freeze ts).put oy.dst vy).recs.length := by
    obtain ⟨F, L, hF, hfr⟩ := freeze_fn ts st.lsts
    rw [put_recs, hfr st rfl]; simp
  refine ⟨alSet c ox.dst st, sx st hlen, ?_⟩
  have := sy (alSet c ox.dst st) (fun i hi => al_slots fun e he h => a3 e he (h ▸ hi)) (by unfold alSet; rw [put_lsts])
  rwa [frz_al hc a2] at this
include hu in
theorem swap12 {y x : It} {st st1 st2 : St} (hap : (match ops[y.idx]?, ops[x.idx]? with | some p, some q => p.apart ops q | _, _ => false) = true) (hp : frOk x y = true) (hy : Step1 ε ops y st st1) (hx : Step1 ε ops x st1 st2) : ∃ st', Step1 ε ops x st st' ∧ Step1 ε ops y st' st2 := by
  obtain ⟨k1, k2, k3⟩ := frOk_of hp
  obtain ⟨oy, c, hoy, rfl, hn, hc, sy⟩ := step_al k2 k3 hy
  obtain ⟨ox, vx, ts, hox, rfl, sx⟩ := step_frz hu k1 hx
  rw [hoy, hox] at hap
  obtain ⟨a1, a2, a3⟩ := Oper.apart_spec (show oy.apart ops ox = true from hap)
  refine ⟨(st.freeze ts).put ox.dst vx, sx st (fun i hi => (al_slots fun e he h => a1 e he (h ▸ hi)).symm) (by unfold alSet; rw [put_lsts]), ?_⟩
  rw [frz_al hc fun d h h' => a2 d h' h]
  refine sy _ ?_
  obtain ⟨F, L, hF, hfr⟩ := freeze_fn ts st.lsts
  rw [put_recs, hfr st rfl]; simp
theorem apOk_of {y x : It} (h : apOk y x = true) : y.kind = 4 ∧ x.kind = 1 ∧ x.al = true ∧ .r x.n ∉ y.touch := by
  unfold apOk at h
  simp only [Bool.and_eq_true, Bool.not_eq_true'] at h
  exact ⟨by simpa using h.1.1.1, by simpa using h.1.1.2, h.1.2, hasR_mem h.2⟩
theorem step_app2 {it : It} {st st1 : St} (hk : it.kind = 4) (h : Step1 ε ops it st st1) : ∃ (o : Oper) (av : AV) (t : Nat) (l : LObj), ops[it.idx]? = some o ∧ st1 = (killSet t l st).put o.dst av ∧
    ∀ st', (∀ i ∈ o.looksAt ops, st'.slots[i]? = st.slots[i]?) → (∀ l ∈ it.touch, Look st st' l) → Step1 ε ops it st' ((killSet t l st').put o.dst av) := by
  obtain ⟨o, ho, h⟩ := h
  rcases h with ⟨hw, e1, e2, e3, e4, av, st2, hev, rfl, hcl, hmf⟩ | ⟨hw, e1, e2, rfl⟩
  · obtain ⟨t, l, htg, hlv, rfl, hs⟩ := evOp_shift4 (by rw [← e1]; exact hk) hev
    refine ⟨o, av, t, l, ho, rfl, fun st' h1 h2 => ?_⟩
    obtain ⟨g1, g2, g3⟩ := hs st' ⟨ev_agree h1, fun l hl => h2 l (by rw [e2]; exact hl)⟩
    exact ⟨o, ho, .inl ⟨by rw [want_agree h1]; exact hw, by rw [g1]; exact hk, by rw [g2]; exact e2, fun h => by omega, fun h => by omega, av, _, g3, rfl, fun h => by have := (hcl h).1; omega, hmf.move (ev_agree h1)⟩⟩
  · omega
theorem kill_fix (t : Nat) : FixF (AV.kill t) := by
  have h1 : ∀ v, (ofConst1 v).kill t = ofConst1 v := fun v => by unfold ofConst1; split <;> simp [AV.kill]
  have h2 : ∀ l : List Value, killL t (l.map ofConst1) = l.map ofConst1 := by
    intro l
    induction l with
    | nil => rfl
    | cons v l ih => simp only [List.map_cons, killL, h1, ih]
  refine ⟨rfl, fun _ _ => rfl, rfl, rfl, fun _ _ => rfl, fun _ => rfl, fun v => ?_, fun f => rfl⟩
  unfold ofConst; split
  · simp only [AV.kill, h2]
  · exact h1 _
theorem kill_al {st : St} {t : Nat} {l : LObj} {c : List AV} {x y : Option Nat} {vy : AV} (hc : ∀ F, FixF F → c.map F = c) (hne : ∀ d, y = some d → x ≠ some d) :
    (killSet t l (alSet c x st)).put y vy = alSet c x ((killSet t l st).put y vy) := by
  have hF := kill_fix t
  obtain ⟨a, b, q⟩ := st
  unfold alSet killSet St.mapAV
  cases x with
  | none =>
    cases y with
    | none => simp [St.put, hc _ hF]
    | some y => simp [St.put, hc _ hF]
  | some x =>
    cases y with
    | none => simp [St.put, hc _ hF, List.map_set, hF.ptr]
    | some y =>
      have hxy : x ≠ y := fun e => hne y rfl (by rw [e])
      simp [St.put, hc _ hF, List.map_set, hF.ptr]
      rw [List.set_comm _ _ hxy]
theorem al_look {c : List AV} {dst : Option Nat} {st : St} {l : Loc} (h : l ≠ .r st.recs.length) : Look st (alSet c dst st) l := by
  unfold alSet
  cases l with
  | r r => simp only [Look, put_recs]; exact getL_app_ne fun e => h (by rw [e])
  | l t => simp only [Look, put_lsts]
  | n k => trivial
theorem swap13 {y x : It} {st st1 st2 : St} (hap : (match ops[y.idx]?, ops[x.idx]? with | some p, some q => p.apart ops q | _, _ => false) = true) (hp : apOk y x = true) (hy : Step1 ε ops y st st1) (hx : Step1 ε ops x st1 st2) : ∃ st', Step1 ε ops x st st' ∧ Step1 ε ops y st' st2 := by
  obtain ⟨k1, k2, k3, k4⟩ := apOk_of hp
  obtain ⟨oy, vy, t, l, hoy, rfl, sy⟩ := step_app2 k1 hy
  obtain ⟨ox, c, hox, rfl, hn, hc, sx⟩ := step_al k2 k3 hx
  rw [hoy, hox] at hap
  obtain ⟨a1, a2, a3⟩ := Oper.apart_spec (show oy.apart ops ox = true from hap)
  have hlen : st.recs.length = ((killSet t l st).put oy.dst vy).recs.length := by rw [put_recs]; simp [killSet, St.mapAV]
  refine ⟨alSet c ox.dst st, sx st hlen, ?_⟩
  have := sy (alSet c ox.dst st) (fun i hi => al_slots fun e he h => a3 e he (h ▸ hi)) (fun q hq => al_look fun e => k4 (by rw [hn, ← hlen, ← e]; exact hq))
  rwa [kill_al hc a2] at this
theorem swap14 {y x : It} {st st1 st2 : St} (hap : (match ops[y.idx]?, ops[x.idx]? with | some p, some q => p.apart ops q | _, _ => false) = true) (hp : apOk x y = true) (hy : Step1 ε ops y st st1) (hx : Step1 ε ops x st1 st2) : ∃ st', Step1 ε ops x st st' ∧ Step1 ε ops y st' st2 := by
  obtain ⟨k1, k2, k3, k4⟩ := apOk_of hp
  obtain ⟨oy, c, hoy, rfl, hn, hc, sy⟩ := step_al k2 k3 hy
  obtain ⟨ox, vx, t, l, hox, rfl, sx⟩ := step_app2 k1 hx
  rw [hoy, hox] at hap
  obtain ⟨a1, a2, a3⟩ := Oper.apart_spec (show oy.apart ops ox = true from hap)
  refine ⟨(killSet t l st).put ox.dst vx, sx st (fun i hi => (al_slots fun e he h => a1 e he (h ▸ hi)).symm) (fun q hq => (al_look fun e => k4 (by rw [hn, ← e]; exact hq)).symm), ?_⟩
  rw [kill_al hc fun d h h' => a2 d h' h]
  refine sy _ ?_
  rw [put_recs]; simp [killSet, St.mapAV]
include hu in
theorem swap {y x : It} {st st1 st2 : St} (hp : pairOk ops y x = true) (hy : Step1 ε ops y st st1) (hx : Step1 ε ops x st1 st2) : ∃ st', Step1 ε ops x st st' ∧ Step1 ε ops y st' st2 := by
  unfold pairOk at hp
  rw [Bool.and_eq_true, Bool.or_eq_true, Bool.or_eq_true, Bool.or_eq_true, Bool.or_eq_true, Bool.or_eq_true, Bool.or_eq_true, Bool.or_eq_true, Bool.or_eq_true, Bool.or_eq_true, Bool.or_eq_true, Bool.or_eq_true, Bool.or_eq_true, Bool.or_eq_true] at hp
  rcases hp with ⟨hap, ((((((((((((h | h) | h) | h) | h) | h) | h) | h) | h) | h) | h) | h) | h) | h⟩
  · exact swap1 hu hap h hy hx
  · rw [Bool.and_eq_true] at h; exact swap2 hu hap (by simpa using h.1) h.2 hy hx
  · rw [Bool.and_eq_true] at h; exact swap3 hu hap h.1 (by simpa using h.2) hy hx
  · rw [Bool.and_eq_true] at h; exact swap4 hu hap (by simpa using h.1) h.2 hy hx
  · rw [Bool.and_eq_true] at h; exact swap5 hu hap h.1 (by simpa using h.2) hy hx
  · exact swap6 hu hap h hy hx
  · exact swap7 hu hap h hy hx
  · exact swap8 hap h hy hx
  · exact swap9 hap h hy hx
  · exact swap10 hap h hy hx
  · exact swap11 hu hap h hy hx
  · exact swap12 hu hap h hy hx
  · exact swap13 hap h hy hx
  · exact swap14 hap h hy hx

include hu in
theorem bubble {x : It} {R2 : List It} {stn : St} : ∀ {R1 : List It} {st : St}, (∀ y ∈ R1, pairOk ops y x = true) → Tr ε ops (R1 ++ x :: R2) st stn → ∃ st', Step1 ε ops x st st' ∧ Tr ε ops (R1 ++ R2) st' stn
  | [], st, _, h => h
  | y :: R1, st, hp, h => by
    obtain ⟨st1, hy, h⟩ := h
    obtain ⟨st2, hx, h⟩ := bubble (fun z hz => hp z (by simp [hz])) h
    obtain ⟨st3, hx', hy'⟩ := swap hu (hp y (by simp)) hy hx
    exact ⟨st3, hx', st2, hy', h⟩

include hu in
theorem evD_trace {S : Type} {K : St → Option S} {r : S} : ∀ (l : List Nat) (done : List It) (st : St), Fine ops done → evD ε ops l (tabOf done) done st K = some r →
    ∃ its stn, its.map It.idx = l ∧ Tr ε ops its st stn ∧ K stn = some r ∧ Fine ops (its.reverse ++ done)
  | [], done, st, hf, h => ⟨[], st, rfl, rfl, h, hf⟩
  | i :: rest, done, st, hf, h => by
    simp only [evD, putN_eq, normIt_eq] at h
    split at h
    · cases h
    · rename_i o ho
      split at h
      · cases h
      · rename_i anc hanc
        rw [ancOfT_eq i] at hanc
        have go : ∀ st0, want ops o st0 = some true → (evOp ε st0 o fun v st' => match pairsOkT ops i anc (itOf ε st0 o i anc v) (tabOf done) done with | true => evD ε ops rest ((i, anc) :: tabOf done) (itOf ε st0 o i anc v :: done) (st'.put o.dst v) K | false => none) = some r →
            ∃ its stn, its.map It.idx = i :: rest ∧ Tr ε ops its st0 stn ∧ K stn = some r ∧ Fine ops (its.reverse ++ done) := by
          intro st0 hw h
          rw [evOp_nat hu] at h
          obtain ⟨⟨av, st1⟩, hev, h⟩ := Option.bind_eq_some_iff.1 h
          simp only [un2] at h
          split at h
          · rename_i hp
            replace hp := (pairsOkT_eq ops (itOf ε st0 o i anc av) done).symm.trans hp
            obtain ⟨its, stn, e1, e2, e3, e4⟩ := evD_trace rest (itOf ε st0 o i anc av :: done) _ ⟨hf, hp, o, ho, hanc⟩ h
            refine ⟨itOf ε st0 o i anc av :: its, stn, by simp [e1, itOf], ⟨_, ⟨o, ho, .inl ⟨hw, rfl, rfl, fun hk => ?_, fun hk => ?_, av, st1, hev, rfl, (fun hc => ?_), (fun hc => ?_), (fun hc => ?_), (fun hc => ?_), fun hc => hc⟩⟩, e2⟩, e3, by simpa using e4⟩
            · simp only [itOf] at hk ⊢; simp only [hk]
            · simp only [itOf] at hk ⊢; simp only [hk]
            · simp only [itOf, Bool.and_eq_true] at hc ⊢; exact ⟨by simpa using hc.1.1, hc.1.2, hc.2⟩
            · simp only [itOf, Bool.and_eq_true, Bool.or_eq_true] at hc ⊢; exact ⟨by simpa using hc.1, hc.2⟩
            · simp only [itOf, Bool.and_eq_true] at hc ⊢; exact ⟨by simpa using hc.1.1, hc.1.2, hc.2⟩
            · simp only [itOf] at hc ⊢
              split
              · rename_i e; rw [e] at hc; omega
              · rename_i e; rw [e] at hc; omega
              · rfl
          · cases h
        have skip : ∀ st0, want ops o st0 = some false → (match pairsOkT ops i anc (itSkip i anc) (tabOf done) done with | true => evD ε ops rest ((i, anc) :: tabOf done) (itSkip i anc :: done) (st0.put o.dst (.tup [])) K | false => none) = some r →
            ∃ its stn, its.map It.idx = i :: rest ∧ Tr ε ops its st0 stn ∧ K stn = some r ∧ Fine ops (its.reverse ++ done) := by
          intro st0 hw h
          split at h
          · rename_i hp
            replace hp := (pairsOkT_eq ops (itSkip i anc) done).symm.trans hp
            obtain ⟨its, stn, e1, e2, e3, e4⟩ := evD_trace rest (itSkip i anc :: done) _ ⟨hf, hp, o, ho, hanc⟩ h
            exact ⟨itSkip i anc :: its, stn, by simp [e1, itSkip], ⟨_, ⟨o, ho, .inr ⟨hw, rfl, rfl, rfl⟩⟩, e2⟩, e3, by simpa using e4⟩
          · cases h
        split at h
        · rename_i hg
          exact go st (by simp [want, hg]) h
        · rename_i j w hg
          split at h
          · cases h
          · rename_i d hj
            split at h
            · rename_i hs
              exact skip st (by simp [want, hg, hj, hs]) h
            · rename_i b hb
              have hset : ∀ b', b = b' → ({ st with slots := st.slots.set d (.d .bool b') } : St) = st := by
                intro b' e; subst e
                have h1 : st.slots.set d (.d .bool b) = st.slots := by
                  apply List.ext_getElem?
                  intro k
                  by_cases e : k = d
                  · subst e; rw [List.getElem?_set_self (List.getElem?_eq_some_iff.1 hb).1, hb]
                  · rw [List.getElem?_set_ne (Ne.symm e)]
                rw [h1]
              cases b with
              | true =>
                simp only [cond_true] at h
                rw [hset true rfl] at h
                cases w with
                | true => exact go st (by simp [want, hg, hj, hb]) h
                | false => exact skip st (by simp [want, hg, hj, hb]) h
              | false =>
                simp only [cond_false] at h
                rw [hset false rfl] at h
                cases w with
                | true => exact skip st (by simp [want, hg, hj, hb]) h
                | false => exact go st (by simp [want, hg, hj, hb]) h
            · cases h
end
end Go.Pe
end
section
namespace Go.Pe
open Go.RowKit
set_option linter.unusedSectionVars false
variable [GI]
set_option linter.unusedSimpArgs false
set_option linter.unusedVariables false

theorem ancAt_mem {i m : Nat} : ∀ {done : List It}, ancAt done i = some m → ∃ z ∈ done, z.idx = i ∧ z.anc = m
  | y :: r, h => by
    simp only [ancAt] at h
    split at h
    · rename_i e
      cases h
      exact ⟨y, .head _, by simpa using e, rfl⟩
    · obtain ⟨z, hz, h1, h2⟩ := ancAt_mem h; exact ⟨z, .tail _ hz, h1, h2⟩
theorem ancOf_bits {done : List It} {i : Nat} : ∀ {es : List Edge} {m : Nat}, ancOf done i es = some m →
    (∀ e ∈ es, Region.binds .any e = true → ∃ z ∈ done, z.idx = e.on) ∧ ∀ b, m.testBit b = true → ∃ e ∈ es, Region.binds .any e = true ∧ ∃ z ∈ done, z.idx = e.on ∧ (b = e.on ∨ z.anc.testBit b = true)
  | [], m, h => by
    simp only [ancOf, Option.some.injEq] at h; subst h
    exact ⟨fun e he => (by cases he), fun b hb => (by simp at hb)⟩
  | e :: es, m, h => by
    simp only [ancOf] at h
    split at h
    · rename_i hb
      obtain ⟨h1, h2⟩ := ancOf_bits h
      refine ⟨fun e' he' hb' => ?_, fun b hbit => ?_⟩
      · rcases List.mem_cons.1 he' with rfl | h3
        · rw [hb] at hb'; cases hb'
        · exact h1 e' h3 hb'
      · obtain ⟨e', g1, g2⟩ := h2 b hbit; exact ⟨e', .tail _ g1, g2⟩
    · rename_i hb
      split at h
      · rename_i m1 hm1
        split at h
        · rename_i k hk
          cases h
          obtain ⟨h1, h2⟩ := ancOf_bits hk
          obtain ⟨z, hz, hzi, rfl⟩ := ancAt_mem hm1
          refine ⟨fun e' he' hb' => ?_, fun b hbit => ?_⟩
          · rcases List.mem_cons.1 he' with rfl | h3
            · exact ⟨z, hz, hzi⟩
            · exact h1 e' h3 hb'
          · have hbit : ((Nat.shiftLeft 1 e.on ||| z.anc) ||| k).testBit b = true := hbit
            rw [Nat.testBit_or, Nat.testBit_or, Bool.or_eq_true, Bool.or_eq_true] at hbit
            rcases hbit with (hbit | hbit) | hbit
            · refine ⟨e, .head _, hb, z, hz, hzi, .inl ?_⟩
              have hbit : (1 <<< e.on).testBit b = true := hbit
              rw [Nat.testBit_shiftLeft] at hbit
              simp only [Bool.and_eq_true, decide_eq_true_eq] at hbit
              have h0 : b - e.on = 0 := by
                rcases Nat.eq_zero_or_pos (b - e.on) with h | h
                · exact h
                · have := hbit.2
                  rw [Nat.testBit_one_eq_true_iff_self_eq_zero] at this
                  exact this
              omega
            · exact ⟨e, .head _, hb, z, hz, hzi, .inr hbit⟩
            · obtain ⟨e', g1, g2⟩ := h2 b hbit; exact ⟨e', .tail _ g1, g2⟩
        · cases h
      · cases h
theorem pairsOk_mem {ops : Array Oper} {x : It} : ∀ {done : List It}, pairsOk ops x done = true → ∀ y ∈ done, x.anc.testBit y.idx = true ∨ pairOk ops y x = true
  | z :: r, h, y, hy => by
    simp only [pairsOk, Bool.and_eq_true, Bool.or_eq_true] at h
    rcases List.mem_cons.1 hy with rfl | h3
    · exact h.1
    · exact pairsOk_mem h.2 y h3
theorem Fine.suffix {ops : Array Oper} : ∀ {l m : List It}, Fine ops (l ++ m) → Fine ops m
  | [], _, h => h
  | _ :: l, _, h => Fine.suffix (l := l) h.1

section
variable {P : Program} {A0 : Dom} {Dk : List Deferred → Prop} {w0 : World} {S : Type}
variable {ε : Env} (hε : EnvOk P ε) (hu : ∀ f G sc, ε.fn f = some (G, sc) → PFun.Uni @G)
include hε hu

omit hε hu in
theorem wanted_want {ops : Array Oper} {o : Oper} {st : St} {a : Act} {c : Cx} {b : Bool} (hs : RepAVs c st.slots a.tmps.toList) (h : want ops o st = some b) : Region.wanted o (yielded ops a.tmps) = b := by
  unfold want at h
  unfold Region.wanted
  split at h
  · rename_i hg; rw [hg]; simpa using h
  · rename_i j w hg
    rw [hg]
    dsimp only
    split at h
    · cases h
    · rename_i d hj
      split at h
      · rename_i b' hb
        obtain ⟨v, hv, hr⟩ := hs.get d _ hb
        simp only [RepAV, Rep, List.cons.injEq, and_true] at hr
        subst hr
        have : a.tmps[d]? = some (.bool b') := by simpa using hv
        have hy : yielded ops a.tmps j = some b' := by simp [yielded, hj, this]
        rw [hy]
        cases h
        cases b' <;> cases w <;> rfl
      · rename_i hb
        obtain ⟨v, hv, hr⟩ := hs.get d _ hb
        simp only [RepAV, RepAVs] at hr
        obtain ⟨us, rfl, _⟩ := hr
        have : a.tmps[d]? = some (.tuple us) := by simpa using hv
        have hy : yielded ops a.tmps j = none := by simp [yielded, hj, this]
        rw [hy]; cases h; rfl
      · cases h

omit hu in
theorem step_run {ρ : Option Nat} {n : Nat} {ops : Array Oper} {x : It} {st st' : St} {Q : Exit → Act → World → Prop} {K : Act → World → Prop} (hx : Step1 ε ops x st st') {a : Act} {w : World} {μ : Mu} (hs : Sim A0 w0 st a.tmps w μ) (hd : Dk a.defers)
    (hK : ∀ a' w' μ', Sim A0 w0 st' a'.tmps w' μ' → Dk a'.defers → K a' w') : wpOpIn (Fr ρ) n P ops Q x.idx K a w := by
  obtain ⟨o, ho, hx⟩ := hx
  unfold wpOpIn
  simp only [ho]
  rcases hx with ⟨hw, _, _, _, _, av, st1, hev, rfl, _⟩ | ⟨hw, _, _, rfl⟩
  · rw [wanted_want hs.slots hw]
    simp only [if_true]
    obtain ⟨av', st2, h1, hop⟩ := evOp_sound hε hs o two _ hev
    cases h1
    exact hop ρ n _ _ fun v w' ⟨μ', hrep, hsim⟩ => hK _ _ μ' (Sim.put (a := a) hsim o.dst hrep) (by rw [put_defers]; exact hd)
  · rw [wanted_want hs.slots hw]
    simp only [Bool.false_eq_true, if_false]
    refine ⟨fun _ _ => trivial, ?_⟩
    exact hK _ _ μ (Sim.put (a := a) hs o.dst (by simp only [RepAV, RepAVs]; exact ⟨#[], rfl, rfl⟩)) (by rw [put_defers]; exact hd)

theorem wpAny_trace {ρ : Option Nat} {n : Nat} {ops : Array Oper} {Q : Exit → Act → World → Prop} {all : List It} (hfine : Fine ops all.reverse) (hidx : all.map It.idx = List.range ops.size) {stn : St}
    (hQ : ∀ a' w' μ', Sim A0 w0 stn a'.tmps w' μ' → Dk a'.defers → Q .normal a' w') :
    ∀ (fuel : Nat) (R : List It) (listed : Array Bool) (st : St) (a : Act) (w : World) (μ : Mu), R.length ≤ fuel → R.Sublist all → listed.size = ops.size →
      (∀ i, i < ops.size → (listed.getD i true = true ↔ i ∉ R.map It.idx)) → (∀ x ∈ all, x ∉ R → ∀ b, x.anc.testBit b = true → b ∉ R.map It.idx) →
      Tr ε ops R st stn → Sim A0 w0 st a.tmps w μ → Dk a.defers → wpAnyIn (Fr ρ) n P .any ops Q fuel listed a w := by
  have hsorted : all.Pairwise fun x y => x.idx < y.idx := by
    have : (all.map It.idx).Pairwise (· < ·) := by rw [hidx]; exact List.pairwise_lt_range
    exact List.pairwise_map.1 this
  have hlt : ∀ x ∈ all, x.idx < ops.size := fun x hx => by
    have : x.idx ∈ all.map It.idx := List.mem_map_of_mem hx
    rw [hidx] at this
    exact List.mem_range.1 this
  -- what comes before x
  have before : ∀ x ∈ all, ∃ L, (∀ y ∈ all, y.idx < x.idx → y ∈ L) ∧ (∀ y ∈ L, y ∈ all ∧ y.idx < x.idx) ∧ pairsOk ops x L = true ∧ ∃ o, ops[x.idx]? = some o ∧ ancOf L x.idx o.after.toList = some x.anc := by
    intro x hx
    obtain ⟨L, R', e⟩ := List.append_of_mem hx
    have hf := hfine
    rw [e, List.reverse_append, List.reverse_cons, List.append_assoc] at hf
    obtain ⟨_, h2, h3⟩ := hf.suffix
    rw [e] at hsorted
    obtain ⟨p1, p2, p3⟩ := List.pairwise_append.1 hsorted
    refine ⟨L.reverse, fun y hy hlt => ?_, fun y hy => ⟨by rw [e]; simp at hy ⊢; exact .inl hy, p3 y (by simpa using hy) x (by simp)⟩, h2, h3⟩
    rw [e] at hy
    rcases List.mem_append.1 hy with h | h
    · simpa using h
    · rcases List.mem_cons.1 h with rfl | h
      · omega
      · have := (List.pairwise_cons.1 p2).1 y h; omega
  have nil : ∀ (R : List It) (listed : Array Bool), R.Sublist all → listed.size = ops.size → (∀ i, i < ops.size → (listed.getD i true = true ↔ i ∉ R.map It.idx)) → Region.ready .any ops listed = [] → R = [] := by
    intro R listed hsub hsz hl hr
    cases R with
    | nil => rfl
    | cons x R =>
      exfalso
      have hxa : x ∈ all := hsub.subset (by simp)
      have hRs := hsorted.sublist hsub
      obtain ⟨L, hL1, hL2, _, o, ho, hanc⟩ := before x hxa
      have hx0 : listed.getD x.idx true = false := by
        have := (hl x.idx (hlt x hxa)).1
        cases hb : listed.getD x.idx true with
        | false => rfl
        | true => exact absurd (this hb) (by simp)
      have : x.idx ∈ Region.ready .any ops listed := by
        refine mem_ready.2 ⟨hx0, o, ho, fun e he hb => ?_⟩
        obtain ⟨z, hz, hzi⟩ := (ancOf_bits hanc).1 e (by simpa using he) hb
        obtain ⟨hz1, hz2⟩ := hL2 z hz
        have h1 : listed.getD z.idx true = true := by
          refine (hl z.idx (hlt z hz1)).2 fun hm => ?_
          obtain ⟨y, hy, hyi⟩ := List.mem_map.1 hm
          rcases List.mem_cons.1 hy with rfl | hy
          · omega
          · have := (List.pairwise_cons.1 hRs).1 y hy; omega
        have h2 := hlt z hz1
        rw [← hsz] at h2
        rw [← hzi]
        simpa [Array.getD, h2] using h1
      rw [hr] at this; cases this
  intro fuel
  induction fuel with
  | zero =>
    intro R listed st a w μ hlen hsub hsz hl hdc htr hs hd
    have : R = [] := by cases R with | nil => rfl | cons x R => simp at hlen
    subst this
    refine ⟨?_, ?_⟩
    · cases hr : Region.ready .any ops listed with
      | nil => rfl
      | cons i is =>
        exfalso
        obtain ⟨h1, o, ho, _⟩ := mem_ready.1 (show i ∈ Region.ready .any ops listed by rw [hr]; simp)
        have := (hl i (Array.getElem?_eq_some_iff.1 ho).1).2 (by simp)
        rw [h1] at this; cases this
    · simp only [Tr] at htr; subst htr; exact hQ a w μ hs hd
  | succ fuel ih =>
    intro R listed st a w μ hlen hsub hsz hl hdc htr hs hd
    refine ⟨fun hr => ?_, fun i hi => ?_⟩
    · have := nil R listed hsub hsz hl hr
      subst this
      simp only [Tr] at htr; subst htr; exact hQ a w μ hs hd
    · obtain ⟨h0, o, ho, hedges⟩ := mem_ready.1 hi
      have hisz := (Array.getElem?_eq_some_iff.1 ho).1
      have hiR : i ∈ R.map It.idx := by
        rcases Classical.em (i ∈ R.map It.idx) with h | h
        · exact h
        · have := (hl i hisz).2 h; rw [h0] at this; cases this
      obtain ⟨x, hxR, rfl⟩ := List.mem_map.1 hiR
      have hxa := hsub.subset hxR
      obtain ⟨R1, R2, rfl⟩ := List.append_of_mem hxR
      have hRs := hsorted.sublist hsub
      obtain ⟨p1, p2, p3⟩ := List.pairwise_append.1 hRs
      obtain ⟨L, hL1, hL2, hpairs, o', ho', hanc⟩ := before x hxa
      rw [ho] at ho'; cases ho'
      -- what x waits for is listed
      have hbits : ∀ b, x.anc.testBit b = true → b ∉ (R1 ++ x :: R2).map It.idx := by
        intro b hb
        obtain ⟨e, he, hbind, z, hz, hzi, hor⟩ := (ancOf_bits hanc).2 b hb
        have hle := hedges e (by simpa using he) hbind
        have hz1 := (hL2 z hz).1
        have hzs := hlt z hz1
        have hzl : listed.getD z.idx true = true := by
          rw [hzi]
          rw [← hsz, hzi] at hzs
          simpa [Array.getD, hzs] using hle
        have hzR := (hl z.idx (hlt z hz1)).1 hzl
        rcases hor with rfl | hor
        · rw [← hzi]; exact hzR
        · exact hdc z hz1 (fun hm => hzR (List.mem_map_of_mem hm)) b hor
      have hp : ∀ y ∈ R1, pairOk ops y x = true := by
        intro y hy
        have hyx := p3 y hy x (by simp)
        rcases pairsOk_mem hpairs y (hL1 y (hsub.subset (by simp [hy])) hyx) with h | h
        · exact absurd (List.mem_map_of_mem (by simp [hy])) (hbits y.idx h)
        · exact h
      obtain ⟨st', hx, htr'⟩ := bubble hu hp htr
      have hnot : x.idx ∉ (R1 ++ R2).map It.idx := by
        intro hm
        obtain ⟨y, hy, hyi⟩ := List.mem_map.1 hm
        rcases List.mem_append.1 hy with h | h
        · have := p3 y h x (by simp); omega
        · have := (List.pairwise_cons.1 p2).1 y h; omega
      refine step_run hε hx hs hd fun a' w' μ' hs' hd' => ?_
      refine ih (R1 ++ R2) _ st' a' w' μ' (by simp at hlen ⊢; omega) ((List.Sublist.append_left (List.sublist_cons_self x R2) R1).trans hsub) (by simpa using hsz) (fun j hj => ?_) (fun z hz hzR b hb => ?_) htr' hs' hd'
      · by_cases e : j = x.idx
        · subst e
          have : (listed.setIfInBounds x.idx true).getD x.idx true = true := by simp [Array.getD, hsz, hisz]
          exact ⟨fun _ => hnot, fun _ => this⟩
        · rw [getD_set_ne true (Ne.symm e), hl j hj]
          simp only [List.map_append, List.map_cons, List.mem_append, List.mem_cons]
          constructor
          · exact fun h h' => h (h'.imp id .inr)
          · exact fun h h' => h (h'.imp id fun h'' => h''.resolve_left e)
      · have key : b ∉ (R1 ++ x :: R2).map It.idx := by
          rcases Classical.em (z ∈ R1 ++ x :: R2) with h | h
          · have : z = x := by
              rcases List.mem_append.1 h with h | h
              · exact absurd (List.mem_append_left _ h) hzR
              · rcases List.mem_cons.1 h with h | h
                · exact h
                · exact absurd (List.mem_append_right _ h) hzR
            subst this; exact hbits b hb
          · exact hdc z hz h b hb
        intro hm
        apply key
        simp only [List.map_append, List.map_cons, List.mem_append, List.mem_cons] at hm ⊢
        exact hm.imp id .inr

theorem evD_sound {ρ : Option Nat} {n : Nat} (hm : P.follows .mixedOrders = true) {ops : Array Oper} {id : Nat} {Q : Exit → Act → World → Prop} {K : St → Option S} {r : S}
    (hK : ∀ st' a' w' μ', K st' = some r → Sim A0 w0 st' a'.tmps w' μ' → Dk a'.defers → Q .normal a' w') (st : St) (a : Act) (w : World) (μ : Mu) (h : evD ε ops (List.range ops.size) [] [] st K = some r)
    (hs : Sim A0 w0 st a.tmps w μ) (hd : Dk a.defers) : (Code.region id ops true).wpIn (Fr ρ) n P Q a w := by
  obtain ⟨its, stn, hidx, htr, hKn, hfine⟩ := evD_trace hu (List.range ops.size) [] st trivial h
  refine wpIn_region_any hm ?_
  have hlen : its.length = ops.size := by have := congrArg List.length hidx; simpa using this
  have hb : Below w.heap.size w { w with drawn := w.drawn + 1 } := below_drew w
  refine wpAny_trace hε hu (all := its) (by simpa using hfine) hidx (stn := stn) (fun a' w' μ' h1 h2 => hK stn a' w' μ' hKn h1 h2) _ its _ st a _ μ (by omega) (List.Sublist.refl _) (by simp) (fun i hi => ?_) (fun x hx hx' => absurd hx hx') htr (hs.ext hb) hd
  rw [hidx]
  simp [Array.getD, hi]
end
end Go.Pe
end
