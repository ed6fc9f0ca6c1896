/- A row of values that hold lists of their own: it grows; nothing more is told of what named it before. -/
import Derived.Test.YtgghmllnhaahgaaPeMem2
namespace Go.Pe
open Go.RowKit
set_option linter.unusedSectionVars false
variable [GI]
set_option linter.unusedSimpArgs false
set_option linter.unusedVariables false

/-- From one state to another, but for what names such a row. -/
structure Cx.LeS (c c' : Cx) : Prop where
  A : ∀ b, c.A b → c'.A b
  w : ∀ b, c.A b → c'.w.heap[b]? = c.w.heap[b]?
  nr : c.recs.length ≤ c'.recs.length
  nl : c.lsts.length ≤ c'.lsts.length
  r : ∀ r, r < c.recs.length → (getL c'.recs r).isSome = true → (getL c.recs r).isSome = true ∧ c'.μ.at_ (.r r) = c.μ.at_ (.r r)
  l : ∀ t o', t < c.lsts.length → getL c'.lsts t = some o' → ∃ o, getL c.lsts t = some o ∧ o'.e = o.e ∧ o'.xs.length = o.xs.length ∧ c'.μ.at_ (.l t) = c.μ.at_ (.l t) ∧ c'.μ.cap t = c.μ.cap t
mutual
/-- What names such a row, told anew. -/
def AV.mapS (f : SX → AV) : AV → AV
  | .sx x => f x
  | .pim l => .pim (mapSL f l)
  | .agg l => .agg (mapSL f l)
  | .ifc q l => .ifc q (mapSL f l)
  | .tup l => .tup (mapSL f l)
  | .fn g a b => .fn g (mapSL f a) (mapSL f b)
  | v => v
def mapSL (f : SX → AV) : List AV → List AV
  | [] => []
  | v :: l => v.mapS f :: mapSL f l
end
mutual
theorem RepAV.mapS {c c' : Cx} {f : SX → AV} (h : c.LeS c') (hs : ∀ x v, RepSX c.μ c.keep x v → RepAV c' (f x) v) : ∀ {av v}, RepAV c av v → RepAV c' (av.mapS f) v
  | .d t x, v, hr => by simp only [RepAV, AV.mapS] at hr ⊢; exact hr.mono h.A h.w
  | .full e x, v, hr => by simp only [RepAV, AV.mapS] at hr ⊢; exact ⟨hr.1, hr.2.mono h.A h.w⟩
  | .nilS, v, hr => by simpa only [RepAV, AV.mapS] using hr
  | .whole t, v, hr => by
    simp only [RepAV, AV.mapS] at hr ⊢
    refine ⟨Nat.lt_of_lt_of_le hr.1 h.nl, hr.2.1, fun o' ho' => ?_⟩
    obtain ⟨o, ho, he, hl, hμ, hcap⟩ := h.l t o' hr.1 ho'
    have := hr.2.2 o ho
    unfold WholeAt at this ⊢
    rw [hμ, hcap, hl]; exact this
  | .ptr r off, v, hr => by
    simp only [RepAV, AV.mapS] at hr ⊢
    refine ⟨Nat.lt_of_lt_of_le hr.1 h.nr, hr.2.1, fun hs => ?_⟩
    obtain ⟨h1, h2⟩ := h.r r hr.1 hs
    rw [h2]; exact hr.2.2 h1
  | .bld r, v, hr => by
    simp only [RepAV, AV.mapS] at hr ⊢
    refine ⟨Nat.lt_of_lt_of_le hr.1 h.nr, hr.2.1, fun hs => ?_⟩
    obtain ⟨h1, h2⟩ := h.r r hr.1 hs
    rw [h2]; exact hr.2.2 h1
  | .eptr t i off, v, hr => by
    simp only [RepAV, AV.mapS] at hr ⊢
    refine ⟨Nat.lt_of_lt_of_le hr.1 h.nl, hr.2.1, fun o' ho' => ?_⟩
    obtain ⟨o, ho, he, hl, hμ, hcap⟩ := h.l t o' hr.1 ho'
    rw [hμ, he]; exact hr.2.2 o ho
  | .pim cells, v, hr => by
    simp only [RepAV, AV.mapS] at hr ⊢
    obtain ⟨ad, us, e, hsp, hA, hc, hu⟩ := hr
    exact ⟨ad, us, e, hsp, h.A _ hA, hc.mono (h.w _ hA), hu.mapS h hs⟩
  | .agg l, v, hr => by simp only [RepAV, AV.mapS] at hr ⊢; obtain ⟨us, e, hu⟩ := hr; exact ⟨us, e, hu.mapS h hs⟩
  | .ifc q l, v, hr => by simp only [RepAV, AV.mapS] at hr ⊢; obtain ⟨us, e, hu⟩ := hr; exact ⟨us, e, hu.mapS h hs⟩
  | .tup l, v, hr => by simp only [RepAV, AV.mapS] at hr ⊢; obtain ⟨us, e, hu⟩ := hr; exact ⟨us, e, hu.mapS h hs⟩
  | .fn f a b, v, hr => by simp only [RepAV, AV.mapS] at hr ⊢; obtain ⟨a', b', e, h1, h2⟩ := hr; exact ⟨a', b', e, h1.mapS h hs, h2.mapS h hs⟩
  | .nilP, v, hr => by simpa only [RepAV, AV.mapS] using hr
  | .sx x, v, hr => by simp only [AV.mapS]; simp only [RepAV] at hr; exact hs x v hr
  | .dead, v, _ => by simp only [RepAV, AV.mapS]
theorem RepAVs.mapS {c c' : Cx} {f : SX → AV} (h : c.LeS c') (hs : ∀ x v, RepSX c.μ c.keep x v → RepAV c' (f x) v) : ∀ {l vs}, RepAVs c l vs → RepAVs c' (mapSL f l) vs
  | [], _, hr => by simpa only [RepAVs, mapSL] using hr
  | x :: xs, _, hr => by
    simp only [RepAVs, mapSL] at hr ⊢
    obtain ⟨v, us, e, h1, h2⟩ := hr
    exact ⟨v, us, e, h1.mapS h hs, h2.mapS h hs⟩
end
mutual
theorem killS_map : ∀ v : AV, v.killS = v.mapS fun _ => .dead
  | .sx x => rfl
  | .pim l => by simp only [AV.killS, AV.mapS, killSL_map l]
  | .agg l => by simp only [AV.killS, AV.mapS, killSL_map l]
  | .ifc q l => by simp only [AV.killS, AV.mapS, killSL_map l]
  | .tup l => by simp only [AV.killS, AV.mapS, killSL_map l]
  | .fn f a b => by simp only [AV.killS, AV.mapS, killSL_map a, killSL_map b]
  | .d _ _ | .full _ _ | .nilS | .nilP | .ptr _ _ | .bld _ | .whole _ | .eptr _ _ _ | .dead => by simp only [AV.killS, AV.mapS]
theorem killSL_map : ∀ l : List AV, killSL l = mapSL (fun _ => .dead) l
  | [] => rfl
  | v :: l => by simp only [killSL, mapSL, killS_map v, killSL_map l]
end
theorem mapS_bld {f : SX → AV} (hf : ∀ x r, f x ≠ .bld r) {x : AV} {r : Nat} (h : x.mapS f = .bld r) : x = .bld r := by
  cases x <;> simp only [AV.mapS] at h <;> first | exact h | exact absurd h (hf _ _) | cases h
theorem mapSL_bld {f : SX → AV} (hf : ∀ x r, f x ≠ .bld r) : ∀ {l : List AV}, isBld (mapSL f l) = true → isBld l = true
  | [], h => by simp [mapSL, isBld] at h
  | x :: l, h => by
    obtain ⟨r, l', e⟩ := isBld_some h
    simp only [mapSL, List.cons.injEq] at e
    rw [mapS_bld hf e.1]; rfl
/-- The records, told anew; such a record itself is told no more. -/
def mapSR (f : SX → AV) (recs : List (Option (List AV))) : List (Option (List AV)) := recs.map fun r => match r with
  | some c => (match isMark c with | true => none | false => some (mapSL f c))
  | none => none
theorem killSR_map (recs : List (Option (List AV))) : killSR recs = mapSR (fun _ => .dead) recs := by
  unfold killSR mapSR
  congr 1; funext r; cases r with
  | none => rfl
  | some c => simp only [killSL_map]; cases isMark c <;> rfl
theorem getL_mapSR (f : SX → AV) (recs : List (Option (List AV))) (r : Nat) : getL (mapSR f recs) r = (getL recs r).bind fun c => match isMark c with | true => none | false => some (mapSL f c) := by
  unfold getL mapSR
  rw [List.getElem?_map]
  cases h : recs[r]? with
  | none => rfl
  | some x => cases x with
    | none => rfl
    | some c => cases hk : isMark c <;> simp [hk]
theorem mapSR_length (f : SX → AV) (recs : List (Option (List AV))) : (mapSR f recs).length = recs.length := by simp [mapSR]
theorem mapSR_some {f : SX → AV} {recs : List (Option (List AV))} {r : Nat} {c : List AV} (h : getL (mapSR f recs) r = some c) : ∃ c0, getL recs r = some c0 ∧ isMark c0 = false ∧ c = mapSL f c0 := by
  rw [getL_mapSR, Option.bind_eq_some_iff] at h
  obtain ⟨c0, h1, h2⟩ := h
  split at h2
  · cases h2
  · rename_i hk; cases h2; exact ⟨c0, h1, hk, rfl⟩

section
variable {A0 : Dom} {w0 w : World} {recs : List (Option (List AV))} {lsts : List (Option LObj)} {μ : Mu}

def Mu.push (μ : Mu) (b r cap : Nat) (fs : List V) : Mu := { μ with at_ := fun x => if x = .n 0 then some b else μ.at_ x, dp := some ⟨some r, cap, fs⟩ }
/-- Such a row has grown by one, which is a record by itself. -/
theorem Mem.grown (hm : Mem A0 w0 recs lsts w μ) {fs : List V} {cap : Nat} (hd : μ.dp = some ⟨none, cap, fs⟩) {w' : World} {b cap' : Nat} {vs' : Array Value} {c5 : List AV} {u5 pre rest : List Value}
    (hsize : w.heap.size ≤ w'.heap.size) (hbel : Below w0.heap.size w w') (hblk : ∀ k, k < w.heap.size → μ.at_ (.n 0) ≠ some k → w'.heap[k]? = w.heap[k]?)
    (hb1 : w0.heap.size ≤ b) (hb2 : b < w'.heap.size) (hb3 : μ.at_ (.n 0) = some b ∨ w.heap.size ≤ b)
    (hown : Own w' b vs') (hvs : vs'.size = cap' * 5) (hcap : fs.length + 1 ≤ cap') (hpre : FramesAt (cx A0 w0 recs lsts w μ) 0 fs pre) (e : vs'.toList = pre ++ (u5 ++ rest)) (h5 : u5.length = 5)
    (hr : ∀ c' : Cx, (∀ k, Imm A0 w0 μ w k → c'.A k) → (∀ k, Imm A0 w0 μ w k → c'.w.heap[k]? = w.heap[k]?) → RepAVs c' c5 u5) :
    Mem A0 w0 (mapSR (fun _ => .dead) recs ++ [some (.sx .mark :: c5)]) lsts w' (μ.push b recs.length cap' fs) ∧
    (cx A0 w0 recs lsts w μ).LeS (cx A0 w0 (mapSR (fun _ => .dead) recs ++ [some (.sx .mark :: c5)]) lsts w' (μ.push b recs.length cap' fs)) := by
  have hat : ∀ x, x ≠ .n 0 → (μ.push b recs.length cap' fs).at_ x = μ.at_ x := fun x hx => by simp only [Mu.push]; rw [if_neg hx]
  have hat0 : (μ.push b recs.length cap' fs).at_ (.n 0) = some b := by simp [Mu.push]
  have hImm : ∀ k, Imm A0 w0 μ w k → Imm A0 w0 (μ.push b recs.length cap' fs) w' k := by
    intro k hk
    refine ⟨hk.1, Nat.lt_of_lt_of_le hk.2.1 hsize, fun x hx => ?_⟩
    by_cases ex : x = .n 0
    · subst ex
      rw [hat0] at hx; cases hx
      rcases hb3 with h | h
      · exact hk.2.2 _ h
      · exact absurd hk.2.1 (by omega)
    · rw [hat x ex] at hx; exact hk.2.2 x hx
  have hgr : ∀ {r c}, getL (mapSR (fun _ => .dead) recs ++ [some (.sx .mark :: c5)]) r = some c → (r < recs.length ∧ ∃ c0, getL recs r = some c0 ∧ isMark c0 = false ∧ c = mapSL (fun _ => .dead) c0) ∨ (r = recs.length ∧ c = .sx .mark :: c5) := by
    intro r c h
    rcases Nat.lt_trichotomy r recs.length with hlt | heq | hgt
    · rw [getL_app (by rw [mapSR_length]; exact hlt)] at h
      exact .inl ⟨hlt, mapSR_some h⟩
    · subst heq
      have : getL (mapSR (fun _ => .dead) recs ++ [some (.sx .mark :: c5)]) (mapSR (fun _ => .dead) recs).length = _ := getL_new
      rw [mapSR_length] at this
      rw [this] at h; cases h
      exact .inr ⟨rfl, rfl⟩
    · have := getL_lt h; simp [mapSR_length] at this; omega
  have hle : (cx A0 w0 recs lsts w μ).LeS (cx A0 w0 (mapSR (fun _ => .dead) recs ++ [some (.sx .mark :: c5)]) lsts w' (μ.push b recs.length cap' fs)) :=
    ⟨hImm, fun k hk => hblk k hk.2.1 (fun e => hk.2.2 _ e), by simp [cx, mapSR_length], Nat.le_refl _,
     fun r hr' hs => by
       obtain ⟨c, hc⟩ := Option.isSome_iff_exists.1 hs
       rcases hgr hc with ⟨_, c0, h1, _⟩ | ⟨h1, _⟩
       · exact ⟨by simp only [cx]; rw [h1]; rfl, hat _ (by simp)⟩
       · have : r < recs.length := hr'
         omega,
     fun t o' ht ho => ⟨o', ho, rfl, rfl, hat _ (by simp), rfl⟩⟩
  have hdead : ∀ x v, RepSX (cx A0 w0 recs lsts w μ).μ (cx A0 w0 recs lsts w μ).keep x v → RepAV (cx A0 w0 (mapSR (fun _ => .dead) recs ++ [some (.sx .mark :: c5)]) lsts w' (μ.push b recs.length cap' fs)) ((fun _ => .dead) x) v := fun _ _ _ => by simp only [RepAV]
  have hsame : ∀ x b', x ≠ .n 0 → μ.at_ x = some b' → w'.heap[b']? = w.heap[b']? := fun x b' hx hb' => hblk b' (hm.live _ _ hb').2.1 fun e2 => hx (hm.inj _ _ _ hb' e2)
  have h1 : (cx A0 w0 recs lsts w μ).Deep1 (cx A0 w0 (mapSR (fun _ => .dead) recs ++ [some (.sx .mark :: c5)]) lsts w' (μ.push b recs.length cap' fs)) := ⟨hImm, hle.w, fun k hk => hat _ (by simpa using hk), fun k b' hk hb' => hsame _ _ (by simpa using hk) hb'⟩
  refine ⟨?_, hle⟩
  constructor
  · intro r cells h hk
    rcases hgr h with ⟨_, c0, g1, g2, rfl⟩ | ⟨_, rfl⟩
    · obtain ⟨b', vs, hb', ho, hv⟩ := hm.hrec r c0 g1 g2
      exact ⟨b', vs, by rw [hat _ (by simp)]; exact hb', ho.ext (hsame _ _ (by simp) hb'), hv.mapS hle hdead⟩
    · simp [isMark] at hk
  · intro t o ht
    rcases hm.hlst t o ht with ⟨g1, g2⟩ | ⟨b', vs, hb', ho, hsz, hc, us, rest, e, hr'⟩
    · exact .inl ⟨by rw [show (cx A0 w0 (mapSR (fun _ => .dead) recs ++ [some (.sx .mark :: c5)]) lsts w' (μ.push b recs.length cap' fs)).μ.at_ (.l t) = (μ.push b recs.length cap' fs).at_ (.l t) from rfl, hat _ (by simp)]; exact g1, g2⟩
    · exact .inr ⟨b', vs, by rw [show (cx A0 w0 (mapSR (fun _ => .dead) recs ++ [some (.sx .mark :: c5)]) lsts w' (μ.push b recs.length cap' fs)).μ.at_ (.l t) = (μ.push b recs.length cap' fs).at_ (.l t) from rfl, hat _ (by simp)]; exact hb', ho.ext (hsame _ _ (by simp) hb'), hsz, hc, us, rest, e, hr'.imp fun x u hx => hx.mono hle.A hle.w⟩
  · intro x b' hx
    by_cases ex : x = .n 0
    · subst ex
      rw [hat0] at hx; cases hx
      exact ⟨hb1, hb2, rfl⟩
    · rw [hat x ex] at hx
      obtain ⟨g1, g2, g3⟩ := hm.live x b' hx
      refine ⟨g1, Nat.lt_of_lt_of_le g2 hsize, ?_⟩
      cases x with
      | n k => rfl
      | l t => exact g3
      | r r =>
        obtain ⟨c, hc⟩ := Option.isSome_iff_exists.1 g3
        simp only
        rw [getL_app (by rw [mapSR_length]; exact getL_lt hc), getL_mapSR, hc, Option.bind_some, hm.plain hc hx]; rfl
  · intro x y b' hx hy
    by_cases ex : x = .n 0 <;> by_cases ey : y = .n 0
    · rw [ex, ey]
    · subst ex
      rw [hat0] at hx; cases hx
      rw [hat y ey] at hy
      rcases hb3 with h | h
      · exact hm.inj _ _ _ h hy
      · exact absurd (hm.live _ _ hy).2.1 (by omega)
    · subst ey
      rw [hat0] at hy; cases hy
      rw [hat x ex] at hx
      rcases hb3 with h | h
      · exact hm.inj _ _ _ hx h
      · exact absurd (hm.live _ _ hx).2.1 (by omega)
    · rw [hat x ex] at hx; rw [hat y ey] at hy; exact hm.inj _ _ _ hx hy
  · exact hm.below.trans hbel
  · intro k hk
    obtain ⟨g1, g2, g3⟩ := hm.fr k hk
    refine ⟨Nat.lt_of_lt_of_le g1 hsize, by rw [hblk k g1 (fun e => g3 _ e)]; exact g2, fun x hx => ?_⟩
    by_cases ex : x = .n 0
    · subst ex
      rw [hat0] at hx; cases hx
      rcases hb3 with h | h
      · exact g3 _ h
      · omega
    · rw [hat x ex] at hx; exact g3 x hx
  · intro k hk
    obtain ⟨g1, g3⟩ := hm.xo k hk
    refine ⟨Nat.lt_of_lt_of_le g1 hsize, fun x hx => ?_⟩
    by_cases ex : x = .n 0
    · subst ex
      rw [hat0] at hx; cases hx
      rcases hb3 with h | h
      · exact g3 _ h
      · omega
    · rw [hat x ex] at hx; exact g3 x hx
  · have := hm.np; simp [mapSR_length]; omega
  · intro r k hk
    obtain ⟨g1, g2⟩ := hm.pins r k hk
    refine ⟨g1, fun hs => ?_⟩
    have hr0 := Nat.lt_of_lt_of_le g1 hm.np
    rw [hat _ (by simp)]
    exact g2 (hle.r r hr0 hs).1
  · exact hm.gi
  · refine ⟨fun r' c' g1 g2 b' hb' => ?_, fun t' o' g1 g2 b' hb' => ?_⟩
    · rcases hgr g1 with ⟨_, c0, k1, k2, rfl⟩ | ⟨_, rfl⟩
      · rw [hat _ (by simp)] at hb'
        obtain ⟨vs, hv⟩ := hm.bty.r r' c0 k1 (mapSL_bld (fun _ _ h => by cases h) g2) b' hb'
        exact ⟨vs, (hsame _ _ (by simp) hb').trans hv⟩
      · simp [isBld] at g2
    · rw [hat _ (by simp)] at hb'
      obtain ⟨vs, hv⟩ := hm.bty.l t' o' g1 g2 b' hb'
      exact ⟨vs, (hsame _ _ (by simp) hb').trans hv⟩
  · intro r c h
    rcases hgr h with ⟨_, c0, k1, k2, k3⟩ | ⟨rfl, k3⟩
    · exfalso
      obtain ⟨v, l, rfl⟩ : ∃ v l, c0 = v :: l := by cases c0 with | nil => simp [mapSL] at k3 | cons v l => exact ⟨v, l, rfl⟩
      simp only [mapSL, List.cons.injEq] at k3
      have := k3.1
      cases v <;> simp [AV.mapS] at this
    · cases k3
      refine ⟨_, b, vs', rfl, rfl, hat0, hown, ?_⟩
      have hpl := hpre.length
      simp only
      rw [e, List.drop_append_of_le_length (by omega), List.drop_of_length_le (by omega), List.nil_append, List.take_append_of_le_length (by omega), List.take_of_length_le (by omega)]
      exact hr _ hImm hle.w
  · intro d' hd'
    cases hd'
    have hdeep := hm.deep _ hd
    refine ⟨fun q hq => ?_, fun k b' hk => ?_, .inr ⟨b, vs', pre, u5 ++ rest, hat0, hown, hvs, hcap, e, hpre.mono h1⟩⟩
    · cases hq
      refine ⟨by simp [cx, mapSR_length], ?_⟩
      show (μ.push b recs.length cap' fs).at_ _ = none
      rw [hat _ (by simp)]
      cases hx : μ.at_ (.r recs.length) with
      | none => rfl
      | some b' =>
        obtain ⟨c, hc⟩ := Option.isSome_iff_exists.1 (hm.live _ _ hx).2.2
        exact absurd (getL_lt hc) (Nat.lt_irrefl _)
    · by_cases hk0 : k = 0
      · omega
      · refine hdeep.lim k b' ?_
        have : (μ.push b recs.length cap' fs).at_ (.n k) = some b' := hk
        rw [hat _ (by simpa using hk0)] at this; exact this
end
end Go.Pe
