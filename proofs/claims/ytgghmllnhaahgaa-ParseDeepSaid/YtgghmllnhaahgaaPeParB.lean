/- A row begins. -/
import Derived.Test.YtgghmllnhaahgaaPeFun
namespace Go.Pe
open Go.RowKit
set_option linter.unusedSectionVars false
variable [GI]
set_option linter.unusedSimpArgs false
set_option linter.unusedVariables false
theorem RepAVs.setAt {c : Cx} {x : AV} : ∀ {l : List AV} {vs : List Value} {j : Nat} {y : AV} {v : Value}, RepAVs c l vs → vs[j]? = some v → RepAV c x v → RepAVs c (l.set j x) vs
  | [], vs, j, y, v, h, _, _ => by simpa using h
  | a :: l, vs, 0, y, v, h, hv, hx => by
    obtain ⟨u, us, rfl, h1, h2⟩ := h.cons'
    simp at hv; subst hv
    exact RepAVs.cons hx h2
  | a :: l, vs, j + 1, y, v, h, hv, hx => by
    obtain ⟨u, us, rfl, h1, h2⟩ := h.cons'
    simp at hv
    exact RepAVs.cons h1 (RepAVs.setAt (y := y) h2 hv hx)
theorem start_sound {A0 : Dom} {w0 w : World} {st : St} {tmps : Array Value} {μ : Mu} (hs : Sim A0 w0 st tmps w μ) {q j : Nat} {c : List AV} (hq : getL st.recs q = some c) (hmk : isMark c = false) (hj : c[j]? = some .nilS) (hnb : isBld c = false) (hj0 : j ≠ 0) :
    ∃ μ', Sim A0 w0 ⟨mapSL (fun _ => .dead) st.slots, (mapSR (fun _ => .dead) st.recs).set q (some ((mapSL (fun _ => .dead) c).set j (.sx (.stk [])))), st.lsts⟩ tmps w μ' := by
  have hm := hs.mem
  obtain ⟨c1, hc1⟩ : ∃ c1, c1 = (mapSL (fun _ => AV.dead) c).set j (.sx (.stk [])) := ⟨_, rfl⟩
  obtain ⟨recs', hrecs'⟩ : ∃ x, x = (mapSR (fun _ => AV.dead) st.recs).set q (some c1) := ⟨_, rfl⟩
  obtain ⟨μ', hμ'⟩ : ∃ μ' : Mu, μ' = ⟨fun x => match x with | .n _ => none | x => μ.at_ x, μ.cap, some ⟨none, 0, []⟩⟩ := ⟨_, rfl⟩
  have hatr : ∀ r, μ'.at_ (.r r) = μ.at_ (.r r) := fun r => by rw [hμ']
  have hatl : ∀ r, μ'.at_ (.l r) = μ.at_ (.l r) := fun r => by rw [hμ']
  have hatn : ∀ r, μ'.at_ (.n r) = none := fun r => by rw [hμ']
  have hsub : ∀ x b, μ'.at_ x = some b → μ.at_ x = some b := fun x b h => by
    cases x with
    | r r => rw [hatr] at h; exact h
    | l r => rw [hatl] at h; exact h
    | n r => rw [hatn] at h; cases h
  have hcp : μ'.cap = μ.cap := by rw [hμ']
  have hdp : μ'.dp = some ⟨none, 0, []⟩ := by rw [hμ']
  clear hμ'
  have hql : q < st.recs.length := getL_lt hq
  have hrl : recs'.length = st.recs.length := by rw [hrecs', List.length_set, mapSR_length]
  have hgq : getL recs' q = some c1 := by rw [hrecs']; unfold getL; rw [List.getElem?_set_self (by rw [mapSR_length]; exact hql)]
  have hgo : ∀ {r}, r ≠ q → getL recs' r = getL (mapSR (fun _ => AV.dead) st.recs) r := fun h => by rw [hrecs']; unfold getL; rw [List.getElem?_set_ne (Ne.symm h)]
  have hgr : ∀ {r c'}, getL recs' r = some c' → (r = q ∧ c' = c1) ∨ (r ≠ q ∧ ∃ c0, getL st.recs r = some c0 ∧ isMark c0 = false ∧ c' = mapSL (fun _ => .dead) c0) := by
    intro r c' h
    by_cases e : r = q
    · subst e; rw [hgq] at h; cases h; exact .inl ⟨rfl, rfl⟩
    · rw [hgo e] at h; exact .inr ⟨e, mapSR_some h⟩
  have hsrc : ∀ {r}, (getL recs' r).isSome = true → (getL st.recs r).isSome = true := by
    intro r h
    obtain ⟨c', hc'⟩ := Option.isSome_iff_exists.1 h
    rcases hgr hc' with ⟨rfl, _⟩ | ⟨_, c0, g, _⟩
    · rw [hq]; rfl
    · rw [g]; rfl
  have hc1m : isMark c1 = false := by
    rw [hc1]
    cases c with
    | nil => rfl
    | cons a l =>
      cases j with
      | zero => exact absurd rfl hj0
      | succ j =>
        simp only [mapSL, List.set_cons_succ]
        cases a <;> simp only [AV.mapS] <;> rfl
  have hc1b : isBld c1 = false := by
    rw [hc1]
    cases c with
    | nil => rfl
    | cons a l =>
      cases j with
      | zero => exact absurd rfl hj0
      | succ j =>
        simp only [mapSL, List.set_cons_succ]
        cases a <;> simp only [AV.mapS] <;> first | rfl | (simp [isBld] at hnb)
  refine ⟨μ', ?_⟩
  rw [← hc1, ← hrecs']
  have hImm : ∀ k, Imm A0 w0 μ w k → Imm A0 w0 μ' w k := fun k hk => ⟨hk.1, hk.2.1, fun x hx => hk.2.2 x (hsub _ _ hx)⟩
  have hle : (cx A0 w0 st.recs st.lsts w μ).LeS (cx A0 w0 recs' st.lsts w μ') :=
    ⟨hImm, fun _ _ => rfl, by simp only [cx, hrl]; exact Nat.le_refl _, Nat.le_refl _,
     fun r hr hsome => ⟨hsrc hsome, by simp only [cx, hatr]⟩,
     fun t o' ht ho => ⟨o', ho, rfl, rfl, by simp only [cx, hatl], by simp only [cx, hcp]⟩⟩
  have hfx : ∀ x v, RepSX (cx A0 w0 st.recs st.lsts w μ).μ (cx A0 w0 st.recs st.lsts w μ).keep x v → RepAV (cx A0 w0 recs' st.lsts w μ') ((fun _ => AV.dead) x) v := fun x v _ => by simp only [RepAV]
  refine ⟨hs.slots.mapS hle hfx, ?_⟩
  constructor
  · intro r cells hr hk
    rcases hgr hr with ⟨rfl, rfl⟩ | ⟨_, c0, g1, g2, rfl⟩
    · obtain ⟨b', vs', hb', ho, hv⟩ := hm.hrec r c hq hmk
      obtain ⟨u, hu, hur⟩ := hv.get j _ hj
      simp only [RepAV] at hur
      refine ⟨b', vs', by rw [hatr]; exact hb', ho, ?_⟩
      rw [hc1]
      refine RepAVs.setAt (y := .dead) (hv.mapS hle hfx) hu ?_
      simp only [RepAV, RepSX, cx]
      exact ⟨0, hdp, by unfold hdrV; rw [hatn, hur], fun _ => by first | rfl | trivial⟩
    · obtain ⟨b', vs', hb', ho, hv⟩ := hm.hrec r c0 g1 g2
      exact ⟨b', vs', by rw [hatr]; exact hb', ho, hv.mapS hle hfx⟩
  · intro t o ho
    rcases hm.hlst t o ho with ⟨g1, g2⟩ | ⟨b', vs', hb', ho', hsz, hc, us, rest, e, hr'⟩
    · exact .inl ⟨by simp only [cx, hatl]; exact g1, g2⟩
    · exact .inr ⟨b', vs', by simp only [cx, hatl]; exact hb', ho', by simp only [cx, hcp]; exact hsz, by simp only [cx, hcp]; exact hc, us, rest, e, hr'.imp fun x u hx => hx.mono hImm fun _ _ => rfl⟩
  · intro x b' hx
    obtain ⟨g1, g2, g3⟩ := hm.live x b' (hsub _ _ hx)
    refine ⟨g1, g2, ?_⟩
    cases x with
    | n k => rw [hatn] at hx; cases hx
    | l t => exact g3
    | r r =>
      obtain ⟨c0, hc0⟩ := Option.isSome_iff_exists.1 g3
      simp only
      by_cases e : r = q
      · subst e; rw [hgq]; rfl
      · rw [hgo e, getL_mapSR, hc0, Option.bind_some, hm.plain hc0 (hsub _ _ hx)]; rfl
  · intro x y b' hx hy; exact hm.inj _ _ _ (hsub _ _ hx) (hsub _ _ hy)
  · exact hm.below
  · intro k hk
    obtain ⟨g1, g2, g3⟩ := hm.fr k hk
    exact ⟨g1, g2, fun x hx => g3 x (hsub _ _ hx)⟩
  · intro k hk
    obtain ⟨g1, g3⟩ := hm.xo k hk
    exact ⟨g1, fun x hx => g3 x (hsub _ _ hx)⟩
  · have := hm.np; rw [hrl]; exact this
  · intro r k hk
    obtain ⟨g1, g2⟩ := hm.pins r k hk
    exact ⟨g1, fun hsome => by rw [hatr]; exact g2 (hsrc hsome)⟩
  · exact hm.gi
  · refine ⟨fun r' c' g1 g2 b' hb' => ?_, fun t' o' g1 g2 b' hb' => ?_⟩
    · rcases hgr g1 with ⟨rfl, rfl⟩ | ⟨_, c0, k1, k2, rfl⟩
      · rw [hc1b] at g2; cases g2
      · rw [hatr] at hb'
        exact hm.bty.r r' c0 k1 (mapSL_bld (fun x q => by simp) g2) b' hb'
    · rw [hatl] at hb'
      exact hm.bty.l t' o' g1 g2 b' hb'
  · intro r c' hc
    rcases hgr hc with ⟨rfl, e⟩ | ⟨_, c0, k1, k2, k3⟩
    · rw [← e] at hc1m; simp [isMark] at hc1m
    · exact absurd k3.symm (mapSL_mark (fun x => by simp))
  · intro d' hd'
    rw [hdp] at hd'; cases hd'
    exact ⟨fun q hq => (by cases hq), fun k b' hk => (by simp only [cx, hatn] at hk; cases hk), .inl ⟨by simp only [cx, hatn], rfl, rfl⟩⟩
end Go.Pe
