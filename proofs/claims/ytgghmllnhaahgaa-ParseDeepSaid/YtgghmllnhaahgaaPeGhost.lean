/- A row of values that hold lists of their own: its last one taken apart, and put together again. -/
import Derived.Test.YtgghmllnhaahgaaPeCode
namespace Go.Pe
open Go.RowKit
set_option linter.unusedSectionVars false
variable [GI]
set_option linter.unusedSimpArgs false
set_option linter.unusedVariables false

def lastOf : List V → Option (List V × V)
  | [] => none
  | [x] => some ([], x)
  | x :: y :: l => (lastOf (y :: l)).map fun p => (x :: p.1, p.2)
theorem lastOf_some : ∀ {fs : List V} {p : List V × V}, lastOf fs = some p → fs = p.1 ++ [p.2]
  | [], p, h => by simp [lastOf] at h
  | [x], p, h => by simp only [lastOf, Option.some.injEq] at h; subst h; rfl
  | x :: y :: l, p, h => by
    simp only [lastOf, Option.map_eq_some_iff] at h
    obtain ⟨q, hq, rfl⟩ := h
    have := lastOf_some hq
    simp only [List.cons_append]; rw [← this]
theorem lastOf_app : ∀ (l : List V) (x : V), lastOf (l ++ [x]) = some (l, x)
  | [], x => rfl
  | [y], x => rfl
  | y :: z :: l, x => by
    have := lastOf_app (z :: l) x
    simp only [List.cons_append] at this ⊢
    simp only [lastOf, this, Option.map_some]

inductive GS | focus (q j : Nat) | unfocus (q j : Nat) | drop (q j : Nat)
def focFx (r : Nat) (l : List V) : SX → AV | .stk _ => .sx (.foc r l) | _ => .dead
def unfFx (fs : List V) : SX → AV | .foc _ _ => .sx (.stk fs) | _ => .dead
def cutFx (fs : List V) : SX → AV | .cut _ _ => .sx (.stk fs) | _ => .dead
/-- Of a list of the call's own: its number. -/
def ownNo : AV → Option (List Nat) | .whole t => some [t] | .nilS => some [] | _ => none
mutual
/-- What names such a row, told anew; some lists of the call's own are told no more. -/
def AV.mapK (f : SX → AV) (ts : List Nat) : AV → AV
  | .sx x => f x
  | .whole t => (match hasN t ts with | true => .dead | false => .whole t)
  | .eptr t i o => (match hasN t ts with | true => .dead | false => .eptr t i o)
  | .pim l => .pim (mapKL f ts l)
  | .agg l => .agg (mapKL f ts l)
  | .ifc q l => .ifc q (mapKL f ts l)
  | .tup l => .tup (mapKL f ts l)
  | .fn g a b => .fn g (mapKL f ts a) (mapKL f ts b)
  | v => v
def mapKL (f : SX → AV) (ts : List Nat) : List AV → List AV
  | [] => []
  | v :: l => v.mapK f ts :: mapKL f ts l
end
def mapKR (f : SX → AV) (ts : List Nat) (recs : List (Option (List AV))) : List (Option (List AV)) := recs.map fun r => match r with
  | some c => (match isMark c with | true => none | false => some (mapKL f ts c))
  | none => none
def clr : List Nat → List (Option LObj) → List (Option LObj)
  | [], l => l
  | t :: ts, l => clr ts (l.set t none)
noncomputable def evG {S : Type} : GS → St → (St → Option S) → Option S
  | .focus q j, st, K => (match cellAt st.recs q j with
    | some (.stk fs) => (lastOf fs).bind fun p => normSt ⟨mapSL (focFx st.recs.length p.1) st.slots,
        mapSR (focFx st.recs.length p.1) st.recs ++ [some [.sx .mark, .d (.int .i64) p.2.kind, .d (.int .i64) p.2.n, .d .str p.2.s, .whole st.lsts.length, .whole (st.lsts.length + 1)]],
        st.lsts ++ [some ⟨.value, p.2.items⟩, some ⟨.str, p.2.keys⟩]⟩ K
    | _ => none)
  | .unfocus q j, st, K => (match cellAt st.recs q j with
    | some (.foc r fs) => (match topCells st.recs r with
      | some [c0, c1, c2, ci, ck] => (match ownNo ci, ownNo ck with
        | some t1, some t2 => (match nodupB (t1 ++ t2) with
          | true => (asTy [] (.int .i64) c0).bind fun k => (asTy [] (.int .i64) c1).bind fun n => (asTy [] .str c2).bind fun s => (asTy st.lsts (.list .value) ci).bind fun is => (asTy st.lsts (.list .str) ck).bind fun ks =>
              normSt ⟨mapKL (unfFx (fs ++ [V.mk k n s is ks])) (t1 ++ t2) st.slots, mapKR (unfFx (fs ++ [V.mk k n s is ks])) (t1 ++ t2) st.recs, clr (t1 ++ t2) st.lsts⟩ K
          | false => none)
        | _, _ => none)
      | _ => none)
    | _ => none)
  | .drop q j, st, K => (match cellAt st.recs q j with
    | some (.cut r fs) => normSt ⟨mapSL (cutFx fs) st.slots, mapSR (cutFx fs) st.recs, st.lsts⟩ K
    | _ => none)
noncomputable def evGs {S : Type} : List GS → St → (St → Option S) → Option S
  | [], st, K => K st
  | g :: l, st, K => evG g st fun st' => evGs l st' K

/-! ### What frames are told of -/
structure Cx.DeepN (N : Nat) (c c' : Cx) : Prop where
  A : ∀ b, c.A b → c'.A b
  w : ∀ b, c.A b → c'.w.heap[b]? = c.w.heap[b]?
  n : ∀ k, k ≠ 0 → k ≤ N → c'.μ.at_ (.n k) = c.μ.at_ (.n k)
  b : ∀ k b, k ≠ 0 → k ≤ N → c.μ.at_ (.n k) = some b → c'.w.heap[b]? = c.w.heap[b]?
theorem NestAt.monoN {N : Nat} {c c' : Cx} (h : c.DeepN N c') {k e xs v} (hk : k ≠ 0) (hN : k ≤ N) (hn : NestAt c k e xs v) : NestAt c' k e xs v := by
  rcases hn with ⟨h1, h2, h3⟩ | ⟨b, vs, cap, h1, h2, h3, h4, h5, us, rest, h6, h7⟩
  · exact .inl ⟨by rw [h.n _ hk hN]; exact h1, h2, h3⟩
  · exact .inr ⟨b, vs, cap, by rw [h.n _ hk hN]; exact h1, h2, h3.ext0 (h.b _ _ hk hN h1), h4, h5, us, rest, h6, h7.imp fun x u hx => hx.mono h.A h.w⟩
theorem FramesAt.monoN {N : Nat} {c c' : Cx} (h : c.DeepN N c') : ∀ {fs i us}, 2 * (i + fs.length) ≤ N → FramesAt c i fs us → FramesAt c' i fs us
  | [], _, _, _, hf => hf
  | f :: fs, i, us, hN, hf => by
    obtain ⟨iv, kv, us', h1, h2, h3, h4⟩ := hf
    simp only [List.length_cons] at hN
    exact ⟨iv, kv, us', h1, h2.monoN h (by omega) (by omega), h3.monoN h (by omega) (by omega), FramesAt.monoN h (by omega) h4⟩
theorem FramesAt.snoc {c : Cx} {f : V} : ∀ {l i us}, FramesAt c i (l ++ [f]) us ↔ ∃ us1 iv kv, us = us1 ++ [.int .i64 f.kind, .int .i64 f.n, .string ⟨f.s.toArray⟩, iv, kv] ∧ FramesAt c i l us1 ∧ NestAt c (2 * (i + l.length) + 1) .value f.items iv ∧ NestAt c (2 * (i + l.length) + 2) .str f.keys kv
  | [], i, us => by
    simp only [List.nil_append, FramesAt, List.length_nil, Nat.add_zero]
    constructor
    · rintro ⟨iv, kv, us', rfl, h2, h3, rfl⟩; exact ⟨[], iv, kv, rfl, rfl, h2, h3⟩
    · rintro ⟨us1, iv, kv, rfl, rfl, h2, h3⟩; exact ⟨iv, kv, [], rfl, h2, h3, rfl⟩
  | x :: l, i, us => by
    simp only [List.cons_append, FramesAt, List.length_cons]
    constructor
    · rintro ⟨iv, kv, us', rfl, h2, h3, h4⟩
      obtain ⟨us1, iv', kv', rfl, g1, g2, g3⟩ := FramesAt.snoc.1 h4
      have e : i + 1 + l.length = i + (l.length + 1) := by omega
      rw [e] at g2 g3
      exact ⟨_, iv', kv', rfl, ⟨iv, kv, us1, rfl, h2, h3, g1⟩, g2, g3⟩
    · rintro ⟨us1, iv', kv', rfl, ⟨iv, kv, us2, rfl, h2, h3, g1⟩, g2, g3⟩
      have e : i + 1 + l.length = i + (l.length + 1) := by omega
      rw [← e] at g2 g3
      exact ⟨iv, kv, _, rfl, h2, h3, FramesAt.snoc.2 ⟨us2, iv', kv', rfl, g1, g2, g3⟩⟩

section
variable {A0 : Dom} {w0 w : World} {recs : List (Option (List AV))} {lsts : List (Option LObj)} {μ : Mu} {st : St} {tmps : Array Value}

/-- Places, under other names. -/
structure Renamed (μ μ' : Mu) (σ : Loc → Option Loc) : Prop where
  at_ : ∀ x, μ'.at_ x = (σ x).bind μ.at_
  inj : ∀ x y z, σ x = some z → σ y = some z → x = y
theorem Renamed.src {μ' : Mu} {σ : Loc → Option Loc} (h : Renamed μ μ' σ) {x : Loc} {b : Nat} (hx : μ'.at_ x = some b) : ∃ y, σ x = some y ∧ μ.at_ y = some b := by
  rw [h.at_, Option.bind_eq_some_iff] at hx; exact hx
theorem Renamed.imm {μ' : Mu} {σ : Loc → Option Loc} (h : Renamed μ μ' σ) {b : Nat} (hb : Imm A0 w0 μ w b) : Imm A0 w0 μ' w b :=
  ⟨hb.1, hb.2.1, fun x hx => by obtain ⟨y, _, hy⟩ := h.src hx; exact hb.2.2 y hy⟩
theorem cellAt_some (hs : Sim A0 w0 st tmps w μ) {q j : Nat} {x : SX} (h : cellAt st.recs q j = some x) : ∃ v, RepSX μ A0.keep x v := by
  unfold cellAt at h
  split at h
  · rename_i c hc
    split at h
    · cases h
    · rename_i hk
      split at h
      · rename_i y hy
        cases h
        obtain ⟨b, vs, _, _, hv⟩ := hs.mem.hrec q c hc hk
        obtain ⟨u, _, hu⟩ := hv.get j _ hy
        simp only [RepAV, cx] at hu
        exact ⟨u, hu⟩
      · cases h
  · cases h
theorem mapSL_mark {f : SX → AV} (hf : ∀ x, f x ≠ .sx .mark) : ∀ {l c : List AV}, mapSL f l ≠ .sx .mark :: c
  | [], c, h => by simp [mapSL] at h
  | v :: l, c, h => by
    simp only [mapSL, List.cons.injEq] at h
    have := h.1
    cases v <;> simp only [AV.mapS] at this <;> first | (cases this; done) | exact hf _ this
theorem focFx_mark (r : Nat) (l : List V) (x : SX) : focFx r l x ≠ .sx .mark := by unfold focFx; split <;> simp
theorem unfFx_mark (l : List V) (x : SX) : unfFx l x ≠ .sx .mark := by unfold unfFx; split <;> simp
theorem cutFx_mark (l : List V) (x : SX) : cutFx l x ≠ .sx .mark := by unfold cutFx; split <;> simp
theorem focFx_bld (r : Nat) (l : List V) (x : SX) (q : Nat) : focFx r l x ≠ .bld q := by unfold focFx; split <;> simp
theorem unfFx_bld (l : List V) (x : SX) (q : Nat) : unfFx l x ≠ .bld q := by unfold unfFx; split <;> simp
theorem cutFx_bld (l : List V) (x : SX) (q : Nat) : cutFx l x ≠ .bld q := by unfold cutFx; split <;> simp

def focMu (μ : Mu) (r t n cap c1 c2 : Nat) (l : List V) : Mu where
  at_ x := if x = .l t then μ.at_ (.n (2 * n + 1)) else if x = .l (t + 1) then μ.at_ (.n (2 * n + 2)) else if x = .n (2 * n + 1) ∨ x = .n (2 * n + 2) then none else μ.at_ x
  cap s := if s = t then c1 else if s = t + 1 then c2 else μ.cap s
  dp := some ⟨some r, cap, l⟩
theorem focMu_ren (μ : Mu) (r t n cap c1 c2 : Nat) (l : List V) (h0 : μ.at_ (.l t) = none) (h1 : μ.at_ (.l (t + 1)) = none) : Renamed μ (focMu μ r t n cap c1 c2 l) (fun x => if x = .l t then some (.n (2 * n + 1)) else if x = .l (t + 1) then some (.n (2 * n + 2)) else if x = .n (2 * n + 1) ∨ x = .n (2 * n + 2) then none else some x) := by
  refine ⟨fun x => ?_, fun x y z hx hy => ?_⟩
  · simp only [focMu]
    split
    · rfl
    · split
      · rfl
      · split <;> rfl
  · grind
theorem NestAt.cap {c : Cx} {k : Nat} {e : Ty} {xs : List e.den} {v : Value} (h : NestAt c k e xs v) : ∃ cp, (c.μ.at_ (.n k) = none ∧ xs = [] ∧ v = .slice none 0 0) ∨
    ∃ b vs, c.μ.at_ (.n k) = some b ∧ v = .slice (some ⟨b, 0, none⟩) xs.length cp ∧ Own c.w b vs ∧ vs.size = cp * e.size ∧ xs.length ≤ cp ∧ ∃ us rest, vs.toList = us ++ rest ∧ RepAll (Rep c.A c.w e) xs us := by
  rcases h with h | ⟨b, vs, cap, h⟩
  · exact ⟨0, .inl h⟩
  · exact ⟨cap, .inr ⟨b, vs, h⟩⟩
theorem focus_sound {S : Type} (hs : Sim A0 w0 st tmps w μ) {q j : Nat} (K : St → Option S) (r : S) (h : evG (.focus q j) st K = some r) : ∃ st', K st' = some r ∧ ∃ μ', Sim A0 w0 st' tmps w μ' := by
  simp only [evG] at h
  split at h
  · rename_i fs hcell
    rw [Option.bind_eq_some_iff] at h
    obtain ⟨⟨l, f⟩, hp, h⟩ := h
    rw [normSt_eq] at h
    refine ⟨_, h, ?_⟩
    clear h
    obtain ⟨v, hv⟩ := cellAt_some hs hcell
    simp only [RepSX] at hv
    obtain ⟨cap, hd, rfl, _⟩ := hv
    have hfs := lastOf_some hp
    simp only at hfs
    subst hfs
    have hm := hs.mem
    have hdeep := hm.deep _ hd
    rcases hdeep.row with ⟨_, h2, _⟩ | ⟨b, vs, pre, rest, hb, hown, hsz, hcap, e1, hfr⟩
    · simp at h2
    replace hb : μ.at_ (.n 0) = some b := hb
    replace hown : Own w b vs := hown
    replace hcap : l.length + 1 ≤ cap := by simpa using hcap
    obtain ⟨us1, iv, kv, rfl, hfr1, hni, hnk⟩ := FramesAt.snoc.1 hfr
    simp only [Nat.zero_add] at hni hnk
    obtain ⟨c1, hni⟩ := hni.cap
    obtain ⟨c2, hnk⟩ := hnk.cap
    have hnt : ∀ t, st.lsts.length ≤ t → μ.at_ (.l t) = none := fun t ht => by
      cases hx : μ.at_ (.l t) with
      | none => rfl
      | some b' =>
        obtain ⟨o, ho⟩ := Option.isSome_iff_exists.1 (hm.live _ _ hx).2.2
        have := getL_lt ho; omega
    obtain ⟨μ', hμ'⟩ : ∃ μ', μ' = focMu μ st.recs.length st.lsts.length l.length cap c1 c2 l := ⟨_, rfl⟩
    have hren := focMu_ren μ st.recs.length st.lsts.length l.length cap c1 c2 l (hnt _ (Nat.le_refl _)) (hnt _ (by omega))
    rw [← hμ'] at hren
    have hati : μ'.at_ (.l st.lsts.length) = μ.at_ (.n (2 * l.length + 1)) := by rw [hμ']; simp [focMu]
    have hatk : μ'.at_ (.l (st.lsts.length + 1)) = μ.at_ (.n (2 * l.length + 2)) := by rw [hμ']; simp [focMu]
    have hatr : ∀ r, μ'.at_ (.r r) = μ.at_ (.r r) := fun r => by rw [hμ']; simp [focMu]
    have hatl : ∀ t, t < st.lsts.length → μ'.at_ (.l t) = μ.at_ (.l t) := fun t ht => by
      rw [hμ']; simp only [focMu]; rw [if_neg (by simp; omega), if_neg (by simp; omega), if_neg (by simp)]
    have hatn : ∀ k, k ≤ 2 * l.length → μ'.at_ (.n k) = μ.at_ (.n k) := fun k hk => by
      rw [hμ']; simp only [focMu]; rw [if_neg (by simp), if_neg (by simp), if_neg (by simp; omega)]
    have hatn2 : ∀ k, 2 * l.length < k → μ'.at_ (.n k) = none := fun k hk => by
      rw [hμ']; simp only [focMu]; rw [if_neg (by simp), if_neg (by simp)]
      split
      · rfl
      · rename_i hn
        simp only [Loc.n.injEq, not_or] at hn
        cases hx : μ.at_ (.n k) with
        | none => rfl
        | some b' => have := hdeep.lim k b' hx; simp at this; omega
    have hcapt : ∀ s, s < st.lsts.length → μ'.cap s = μ.cap s := fun s hs => by rw [hμ']; simp only [focMu]; rw [if_neg (by omega), if_neg (by omega)]
    have hcap1 : μ'.cap st.lsts.length = c1 := by rw [hμ']; simp [focMu]
    have hcap2 : μ'.cap (st.lsts.length + 1) = c2 := by rw [hμ']; simp [focMu]
    have hdp : μ'.dp = some ⟨some st.recs.length, cap, l⟩ := by rw [hμ']; rfl
    clear hμ'
    obtain ⟨recs', hrecs'⟩ : ∃ x, x = mapSR (focFx st.recs.length l) st.recs ++ [some [.sx .mark, .d (.int .i64) f.kind, .d (.int .i64) f.n, .d .str f.s, .whole st.lsts.length, .whole (st.lsts.length + 1)]] := ⟨_, rfl⟩
    obtain ⟨lsts', hlsts'⟩ : ∃ x : List (Option LObj), x = st.lsts ++ [some ⟨.value, f.items⟩, some ⟨.str, f.keys⟩] := ⟨_, rfl⟩
    have hgl : ∀ t, t < st.lsts.length → getL lsts' t = getL st.lsts t := fun t ht => by rw [hlsts']; exact by unfold getL; rw [List.getElem?_append_left ht]
    have hgi : getL lsts' st.lsts.length = some ⟨.value, f.items⟩ := by rw [hlsts']; unfold getL; rw [List.getElem?_append_right (Nat.le_refl _)]; simp
    have hgk : getL lsts' (st.lsts.length + 1) = some ⟨.str, f.keys⟩ := by rw [hlsts']; unfold getL; rw [List.getElem?_append_right (by omega)]; simp
    have hgn : ∀ t o, getL lsts' t = some o → t < st.lsts.length ∨ t = st.lsts.length ∨ t = st.lsts.length + 1 := fun t o ho => by
      have := getL_lt ho; rw [hlsts'] at this; simp at this; omega
    have hgr : ∀ {r c}, getL recs' r = some c → (r < st.recs.length ∧ ∃ c0, getL st.recs r = some c0 ∧ isMark c0 = false ∧ c = mapSL (focFx st.recs.length l) c0) ∨ (r = st.recs.length ∧ c = [.sx .mark, .d (.int .i64) f.kind, .d (.int .i64) f.n, .d .str f.s, .whole st.lsts.length, .whole (st.lsts.length + 1)]) := by
      intro r c h
      rw [hrecs'] at h
      rcases Nat.lt_trichotomy r st.recs.length with hlt | heq | hgt
      · rw [getL_app (by rw [mapSR_length]; exact hlt)] at h
        exact .inl ⟨hlt, mapSR_some h⟩
      · subst heq
        have : getL (mapSR (focFx st.recs.length l) st.recs ++ [some [.sx .mark, .d (.int .i64) f.kind, .d (.int .i64) f.n, .d .str f.s, .whole st.lsts.length, .whole (st.lsts.length + 1)]]) (mapSR (focFx st.recs.length l) st.recs).length = _ := getL_new
        rw [mapSR_length] at this
        rw [this] at h; cases h
        exact .inr ⟨rfl, rfl⟩
      · have := getL_lt h; simp [mapSR_length] at this; omega
    have hrl : recs'.length = st.recs.length + 1 := by rw [hrecs']; simp [mapSR_length]
    have hll : lsts'.length = st.lsts.length + 2 := by rw [hlsts']; simp
    refine ⟨μ', ?_⟩
    rw [← hrecs', ← hlsts']
    have hImm : ∀ k, Imm A0 w0 μ w k → Imm A0 w0 μ' w k := fun k hk => hren.imm hk
    have hle : (cx A0 w0 st.recs st.lsts w μ).LeS (cx A0 w0 recs' lsts' w μ') :=
      ⟨hImm, fun _ _ => rfl, by simp only [cx, hrl]; omega, by simp only [cx, hll]; omega,
       fun r hr hsome => by
         obtain ⟨c, hc⟩ := Option.isSome_iff_exists.1 hsome
         rcases hgr hc with ⟨_, c0, g1, _⟩ | ⟨g1, _⟩
         · exact ⟨by simp only [cx]; rw [g1]; rfl, hatr r⟩
         · have : r < st.recs.length := hr
           omega,
       fun t o' ht ho => by
         have ht' : t < st.lsts.length := ht
         have ho' : getL lsts' t = some o' := ho
         rw [hgl t ht'] at ho'
         exact ⟨o', ho', rfl, rfl, hatl t ht', hcapt t ht'⟩⟩
    have hfx : ∀ x v, RepSX (cx A0 w0 st.recs st.lsts w μ).μ (cx A0 w0 st.recs st.lsts w μ).keep x v → RepAV (cx A0 w0 recs' lsts' w μ') (focFx st.recs.length l x) v := by
      intro x v hx
      unfold focFx
      split
      · simp only [RepSX, cx] at hx
        obtain ⟨cap', g1, rfl, _⟩ := hx
        rw [hd] at g1; cases g1
        simp only [RepAV, RepSX, cx]
        exact ⟨cap, b, hdp, by rw [hatn 0 (by omega)]; exact hb, by unfold hdrV; rw [hb]; simp, hcap⟩
      · simp only [RepAV]
    have hN : (cx A0 w0 st.recs st.lsts w μ).DeepN (2 * l.length) (cx A0 w0 recs' lsts' w μ') := ⟨hImm, fun _ _ => rfl, fun k _ hk => hatn k hk, fun _ _ _ _ _ => rfl⟩
    have hlst : ∀ {k t : Nat} {e : Ty} {xs : List e.den} {v : Value} {cp : Nat}, μ'.at_ (.l t) = μ.at_ (.n k) → μ'.cap t = cp → t < lsts'.length → getL lsts' t = some ⟨e, xs⟩ →
        ((μ.at_ (.n k) = none ∧ xs = [] ∧ v = .slice none 0 0) ∨ ∃ b vs, μ.at_ (.n k) = some b ∧ v = .slice (some ⟨b, 0, none⟩) xs.length cp ∧ Own w b vs ∧ vs.size = cp * e.size ∧ xs.length ≤ cp ∧ ∃ us rest, vs.toList = us ++ rest ∧ RepAll (Rep (Imm A0 w0 μ w) w e) xs us) →
        LstAt (cx A0 w0 recs' lsts' w μ') t ⟨e, xs⟩ ∧ RepAV (cx A0 w0 recs' lsts' w μ') (.whole t) v := by
      intro k t e xs v cp g1 g2 g3 g4 g5
      rcases g5 with ⟨k1, k2, rfl⟩ | ⟨b', vs', k1, rfl, k3, k4, k5, us, rest, k6, k7⟩
      · refine ⟨.inl ⟨g1.trans k1, k2⟩, ?_⟩
        simp only [RepAV, cx]
        exact ⟨g3, rfl, fun o ho => by rw [g4] at ho; cases ho; exact .inl ⟨g1.trans k1, rfl⟩⟩
      · refine ⟨.inr ⟨b', vs', g1.trans k1, k3, by simp only [cx, g2]; exact k4, by simp only [cx, g2]; exact k5, us, rest, k6, k7.imp fun x u hx => hx.mono hImm fun _ _ => rfl⟩, ?_⟩
        simp only [RepAV, cx]
        exact ⟨g3, rfl, fun o ho => by rw [g4] at ho; cases ho; exact .inr ⟨b', g1.trans k1, by rw [g2]⟩⟩
    obtain ⟨hli, hwi⟩ := hlst hati hcap1 (by omega) hgi hni
    obtain ⟨hlk, hwk⟩ := hlst hatk hcap2 (by omega) hgk hnk
    refine ⟨hs.slots.mapS hle hfx, ?_⟩
    constructor
    · intro r cells hr hk
      rcases hgr hr with ⟨_, c0, g1, g2, rfl⟩ | ⟨_, rfl⟩
      · obtain ⟨b', vs', hb', ho, hv⟩ := hm.hrec r c0 g1 g2
        exact ⟨b', vs', by rw [hatr]; exact hb', ho, hv.mapS hle hfx⟩
      · simp [isMark] at hk
    · intro t o ho
      rcases hgn t o ho with ht | rfl | rfl
      · rw [hgl t ht] at ho
        rcases hm.hlst t o ho with ⟨g1, g2⟩ | ⟨b', vs', hb', ho', hsz, hc, us, rest, e, hr'⟩
        · exact .inl ⟨(hatl t ht).trans g1, g2⟩
        · exact .inr ⟨b', vs', (hatl t ht).trans hb', ho', by simp only [cx, hcapt t ht]; exact hsz, by simp only [cx, hcapt t ht]; exact hc, us, rest, e, hr'.imp fun x u hx => hx.mono hImm fun _ _ => rfl⟩
      · rw [hgi] at ho; cases ho; exact hli
      · rw [hgk] at ho; cases ho; exact hlk
    · intro x b' hx
      obtain ⟨y, hy, hby⟩ := hren.src hx
      obtain ⟨g1, g2, g3⟩ := hm.live y b' hby
      refine ⟨g1, g2, ?_⟩
      cases x with
      | n k => simp only [hdp]; rfl
      | l t =>
        simp only
        by_cases e : t = st.lsts.length
        · rw [e, hgi]; rfl
        · by_cases e' : t = st.lsts.length + 1
          · rw [e', hgk]; rfl
          · by_cases ht : t < st.lsts.length
            · rw [hatl t ht] at hx
              rw [hgl t ht]; exact (hm.live _ _ hx).2.2
            · exfalso
              have h0 := hnt t (by omega)
              simp only [Loc.l.injEq, e, e', if_false, reduceCtorEq, or_self, Option.some.injEq] at hy
              subst hy; rw [h0] at hby; cases hby
      | r r =>
        rw [hatr] at hx
        obtain ⟨c, hc⟩ := Option.isSome_iff_exists.1 (hm.live _ _ hx).2.2
        simp only
        rw [hrecs', getL_app (by rw [mapSR_length]; exact getL_lt hc), getL_mapSR, hc, Option.bind_some, hm.plain hc hx]; rfl
    · intro x y b' hx hy
      obtain ⟨x', hx', hbx⟩ := hren.src hx
      obtain ⟨y', hy', hby⟩ := hren.src hy
      have := hm.inj _ _ _ hbx hby
      subst this
      exact hren.inj _ _ _ hx' hy'
    · exact hm.below
    · intro k hk
      obtain ⟨g1, g2, g3⟩ := hm.fr k hk
      exact ⟨g1, g2, fun x hx => by obtain ⟨y, _, hy⟩ := hren.src hx; exact g3 y hy⟩
    · intro k hk
      obtain ⟨g1, g3⟩ := hm.xo k hk
      exact ⟨g1, fun x hx => by obtain ⟨y, _, hy⟩ := hren.src hx; exact g3 y hy⟩
    · have := hm.np; rw [hrl]; omega
    · intro r k hk
      obtain ⟨g1, g2⟩ := hm.pins r k hk
      refine ⟨g1, fun hsome => ?_⟩
      rw [hatr]
      exact g2 (hle.r r (Nat.lt_of_lt_of_le g1 hm.np) hsome).1
    · exact hm.gi
    · refine ⟨fun r' c' g1 g2 b' hb' => ?_, fun t' o' g1 g2 b' hb' => ?_⟩
      · rcases hgr g1 with ⟨_, c0, k1, k2, rfl⟩ | ⟨_, rfl⟩
        · rw [hatr] at hb'
          exact hm.bty.r r' c0 k1 (mapSL_bld (fun x q => focFx_bld _ _ x q) g2) b' hb'
        · simp [isBld] at g2
      · rcases hgn t' o' g1 with ht | rfl | rfl
        · rw [hgl t' ht] at g1
          rw [hatl t' ht] at hb'
          exact hm.bty.l t' o' g1 g2 b' hb'
        · rw [hgi] at g1; cases g1; cases g2
        · rw [hgk] at g1; cases g1; cases g2
    · intro r c hc
      rcases hgr hc with ⟨_, c0, k1, k2, k3⟩ | ⟨rfl, k3⟩
      · exact absurd k3.symm (mapSL_mark (focFx_mark _ _))
      · cases k3
        refine ⟨_, b, vs, hdp, rfl, (hatn 0 (by omega)).trans hb, hown, ?_⟩
        have hpl := hfr1.length
        simp only
        rw [e1, List.append_assoc, List.drop_append_of_le_length (by omega), List.drop_of_length_le (by omega), List.nil_append, List.take_append_of_le_length (by simp), List.take_of_length_le (by simp)]
        refine RepAVs.cons (by simp only [RepAV, Rep]) (RepAVs.cons (by simp only [RepAV, Rep]) (RepAVs.cons (by simp only [RepAV, Rep]) (RepAVs.cons hwi (RepAVs.one hwk))))
    · intro d' hd'
      rw [hdp] at hd'; cases hd'
      refine ⟨fun q hq => ?_, fun k b' hk => ?_, .inr ⟨b, vs, us1, [.int .i64 f.kind, .int .i64 f.n, .string ⟨f.s.toArray⟩, iv, kv] ++ rest, (hatn 0 (by omega)).trans hb, hown, hsz, hcap, by rw [e1, List.append_assoc], hfr1.monoN hN (show 2 * (0 + l.length) ≤ 2 * l.length by omega)⟩⟩
      · cases hq
        refine ⟨by simp only [cx, hrl]; omega, ?_⟩
        show μ'.at_ _ = none
        rw [hatr]
        cases hx : μ.at_ (.r st.recs.length) with
        | none => rfl
        | some b' =>
          obtain ⟨c, hc⟩ := Option.isSome_iff_exists.1 (hm.live _ _ hx).2.2
          exact absurd (getL_lt hc) (Nat.lt_irrefl _)
      · by_cases hk0 : k ≤ 2 * l.length
        · exact hk0
        · have : μ'.at_ (.n k) = some b' := hk
          rw [hatn2 k (by omega)] at this; cases this
  · cases h
theorem drop_sound {S : Type} (hs : Sim A0 w0 st tmps w μ) {q j : Nat} (K : St → Option S) (r : S) (h : evG (.drop q j) st K = some r) : ∃ st', K st' = some r ∧ ∃ μ', Sim A0 w0 st' tmps w μ' := by
  simp only [evG] at h
  split at h
  · rename_i r' fs hcell
    rw [normSt_eq] at h
    refine ⟨_, h, ?_⟩
    clear h
    obtain ⟨v, hv⟩ := cellAt_some hs hcell
    simp only [RepSX] at hv
    obtain ⟨cap, b, hd, hb, rfl⟩ := hv
    have hm := hs.mem
    have hdeep := hm.deep _ hd
    obtain ⟨recs', hrecs'⟩ : ∃ x, x = mapSR (cutFx fs) st.recs := ⟨_, rfl⟩
    obtain ⟨μ', hμ'⟩ : ∃ μ' : Mu, μ' = { μ with dp := some ⟨none, cap, fs⟩ } := ⟨_, rfl⟩
    have hat : μ'.at_ = μ.at_ := by rw [hμ']
    have hcp : μ'.cap = μ.cap := by rw [hμ']
    have hdp : μ'.dp = some ⟨none, cap, fs⟩ := by rw [hμ']
    clear hμ'
    have hrl : recs'.length = st.recs.length := by rw [hrecs', mapSR_length]
    have hgr : ∀ {r c}, getL recs' r = some c → ∃ c0, getL st.recs r = some c0 ∧ isMark c0 = false ∧ c = mapSL (cutFx fs) c0 := fun h => by rw [hrecs'] at h; exact mapSR_some h
    refine ⟨μ', ?_⟩
    rw [← hrecs']
    have hImm : ∀ k, Imm A0 w0 μ w k → Imm A0 w0 μ' w k := fun k hk => ⟨hk.1, hk.2.1, fun x hx => hk.2.2 x (by rw [hat] at hx; exact hx)⟩
    have hle : (cx A0 w0 st.recs st.lsts w μ).LeS (cx A0 w0 recs' st.lsts w μ') :=
      ⟨hImm, fun _ _ => rfl, by simp only [cx, hrl]; exact Nat.le_refl _, Nat.le_refl _,
       fun r hr hsome => by
         obtain ⟨c, hc⟩ := Option.isSome_iff_exists.1 hsome
         obtain ⟨c0, g1, _⟩ := hgr hc
         exact ⟨by simp only [cx]; rw [g1]; rfl, by simp only [cx, hat]⟩,
       fun t o' ht ho => ⟨o', ho, rfl, rfl, by simp only [cx, hat], by simp only [cx, hcp]⟩⟩
    have hfx : ∀ x v, RepSX (cx A0 w0 st.recs st.lsts w μ).μ (cx A0 w0 st.recs st.lsts w μ).keep x v → RepAV (cx A0 w0 recs' st.lsts w μ') (cutFx fs x) v := by
      intro x v hx
      unfold cutFx
      split
      · simp only [RepSX, cx] at hx
        obtain ⟨cap', b', g1, g2, rfl⟩ := hx
        rw [hd] at g1; cases g1
        rw [hb] at g2; cases g2
        simp only [RepAV, RepSX, cx]
        exact ⟨cap, hdp, by unfold hdrV; rw [hat, hb], fun h => by rw [hat, hb] at h; cases h⟩
      · simp only [RepAV]
    have hN : (cx A0 w0 st.recs st.lsts w μ).Deep1 (cx A0 w0 recs' st.lsts w μ') := ⟨hImm, fun _ _ => rfl, fun k _ => by simp only [cx, hat], fun _ _ _ _ => rfl⟩
    refine ⟨hs.slots.mapS hle hfx, ?_⟩
    constructor
    · intro r cells hr hk
      obtain ⟨c0, g1, g2, rfl⟩ := hgr hr
      obtain ⟨b', vs', hb', ho, hv⟩ := hm.hrec r c0 g1 g2
      exact ⟨b', vs', by rw [hat]; exact hb', ho, hv.mapS hle hfx⟩
    · intro t o ho
      rcases hm.hlst t o ho with ⟨g1, g2⟩ | ⟨b', vs', hb', ho', hsz, hc, us, rest, e, hr'⟩
      · exact .inl ⟨by simp only [cx, hat]; exact g1, g2⟩
      · exact .inr ⟨b', vs', by simp only [cx, hat]; exact hb', ho', by simp only [cx, hcp]; exact hsz, by simp only [cx, hcp]; exact hc, us, rest, e, hr'.imp fun x u hx => hx.mono hImm fun _ _ => rfl⟩
    · intro x b' hx
      rw [hat] at hx
      obtain ⟨g1, g2, g3⟩ := hm.live x b' hx
      refine ⟨g1, g2, ?_⟩
      cases x with
      | n k => simp only [hdp]; rfl
      | l t => exact g3
      | r r =>
        obtain ⟨c, hc⟩ := Option.isSome_iff_exists.1 g3
        simp only
        rw [hrecs', getL_mapSR, hc, Option.bind_some, hm.plain hc hx]; rfl
    · intro x y b' hx hy; rw [hat] at hx hy; exact hm.inj _ _ _ hx hy
    · exact hm.below
    · intro k hk
      obtain ⟨g1, g2, g3⟩ := hm.fr k hk
      exact ⟨g1, g2, fun x hx => g3 x (by rw [hat] at hx; exact hx)⟩
    · intro k hk
      obtain ⟨g1, g3⟩ := hm.xo k hk
      exact ⟨g1, fun x hx => g3 x (by rw [hat] at hx; exact hx)⟩
    · have := hm.np; rw [hrl]; exact this
    · intro r k hk
      obtain ⟨g1, g2⟩ := hm.pins r k hk
      refine ⟨g1, fun hsome => ?_⟩
      rw [hat]
      exact g2 (hle.r r (Nat.lt_of_lt_of_le g1 hm.np) hsome).1
    · exact hm.gi
    · refine ⟨fun r' c' g1 g2 b' hb' => ?_, fun t' o' g1 g2 b' hb' => ?_⟩
      · obtain ⟨c0, k1, k2, rfl⟩ := hgr g1
        rw [hat] at hb'
        exact hm.bty.r r' c0 k1 (mapSL_bld (fun x q => cutFx_bld _ x q) g2) b' hb'
      · rw [hat] at hb'
        exact hm.bty.l t' o' g1 g2 b' hb'
    · intro r c hc
      obtain ⟨c0, k1, k2, k3⟩ := hgr hc
      exact absurd k3.symm (mapSL_mark (cutFx_mark _))
    · intro d' hd'
      rw [hdp] at hd'; cases hd'
      refine ⟨fun q hq => (by cases hq), fun k b' hk => hdeep.lim k b' (by simp only [cx, hat] at hk; exact hk), ?_⟩
      rcases hdeep.row with ⟨g2, _⟩ | ⟨b2, vs, pre, rest, g2, g3, g4, g5, g6, g7⟩
      · rw [show (cx A0 w0 st.recs st.lsts w μ).μ.at_ (.n 0) = μ.at_ (.n 0) from rfl, hb] at g2; cases g2
      · exact .inr ⟨b2, vs, pre, rest, by simp only [cx, hat]; exact g2, g3, g4, by simp at g5 ⊢; omega, g6, g7.mono hN⟩
  · cases h

/-! ### Put together again -/
structure Cx.LeK (ts : List Nat) (c c' : Cx) : Prop where
  A : ∀ b, c.A b → c'.A b
  w : ∀ b, c.A b → c'.w.heap[b]? = c.w.heap[b]?
  nr : c.recs.length ≤ c'.recs.length
  nl : c.lsts.length ≤ c'.lsts.length
  r : ∀ r, r < c.recs.length → (getL c'.recs r).isSome = true → (getL c.recs r).isSome = true ∧ c'.μ.at_ (.r r) = c.μ.at_ (.r r)
  l : ∀ t o', hasN t ts = false → t < c.lsts.length → getL c'.lsts t = some o' → ∃ o, getL c.lsts t = some o ∧ o'.e = o.e ∧ o'.xs.length = o.xs.length ∧ c'.μ.at_ (.l t) = c.μ.at_ (.l t) ∧ c'.μ.cap t = c.μ.cap t
mutual
theorem RepAV.mapK {c c' : Cx} {f : SX → AV} {ts : List Nat} (h : c.LeK ts c') (hs : ∀ x v, RepSX c.μ c.keep x v → RepAV c' (f x) v) : ∀ {av v}, RepAV c av v → RepAV c' (av.mapK f ts) v
  | .d t x, v, hr => by simp only [RepAV, AV.mapK] at hr ⊢; exact hr.mono h.A h.w
  | .full e x, v, hr => by simp only [RepAV, AV.mapK] at hr ⊢; exact ⟨hr.1, hr.2.mono h.A h.w⟩
  | .nilS, v, hr => by simpa only [RepAV, AV.mapK] using hr
  | .whole t, v, hr => by
    simp only [AV.mapK]
    split
    · simp only [RepAV]
    · rename_i hn
      simp only [RepAV] at hr ⊢
      refine ⟨Nat.lt_of_lt_of_le hr.1 h.nl, hr.2.1, fun o' ho' => ?_⟩
      obtain ⟨o, ho, he, hl, hμ, hcap⟩ := h.l t o' hn hr.1 ho'
      have := hr.2.2 o ho
      unfold WholeAt at this ⊢
      rw [hμ, hcap, hl]; exact this
  | .ptr r off, v, hr => by
    simp only [RepAV, AV.mapK] at hr ⊢
    refine ⟨Nat.lt_of_lt_of_le hr.1 h.nr, hr.2.1, fun hs => ?_⟩
    obtain ⟨h1, h2⟩ := h.r r hr.1 hs
    rw [h2]; exact hr.2.2 h1
  | .bld r, v, hr => by
    simp only [RepAV, AV.mapK] at hr ⊢
    refine ⟨Nat.lt_of_lt_of_le hr.1 h.nr, hr.2.1, fun hs => ?_⟩
    obtain ⟨h1, h2⟩ := h.r r hr.1 hs
    rw [h2]; exact hr.2.2 h1
  | .eptr t i off, v, hr => by
    simp only [AV.mapK]
    split
    · simp only [RepAV]
    · rename_i hn
      simp only [RepAV] at hr ⊢
      refine ⟨Nat.lt_of_lt_of_le hr.1 h.nl, hr.2.1, fun o' ho' => ?_⟩
      obtain ⟨o, ho, he, hl, hμ, hcap⟩ := h.l t o' hn hr.1 ho'
      rw [hμ, he]; exact hr.2.2 o ho
  | .pim cells, v, hr => by
    simp only [RepAV, AV.mapK] at hr ⊢
    obtain ⟨ad, us, e, hsp, hA, hc, hu⟩ := hr
    exact ⟨ad, us, e, hsp, h.A _ hA, hc.mono (h.w _ hA), hu.mapK h hs⟩
  | .agg l, v, hr => by simp only [RepAV, AV.mapK] at hr ⊢; obtain ⟨us, e, hu⟩ := hr; exact ⟨us, e, hu.mapK h hs⟩
  | .ifc q l, v, hr => by simp only [RepAV, AV.mapK] at hr ⊢; obtain ⟨us, e, hu⟩ := hr; exact ⟨us, e, hu.mapK h hs⟩
  | .tup l, v, hr => by simp only [RepAV, AV.mapK] at hr ⊢; obtain ⟨us, e, hu⟩ := hr; exact ⟨us, e, hu.mapK h hs⟩
  | .fn f a b, v, hr => by simp only [RepAV, AV.mapK] at hr ⊢; obtain ⟨a', b', e, h1, h2⟩ := hr; exact ⟨a', b', e, h1.mapK h hs, h2.mapK h hs⟩
  | .nilP, v, hr => by simpa only [RepAV, AV.mapK] using hr
  | .sx x, v, hr => by simp only [AV.mapK]; simp only [RepAV] at hr; exact hs x v hr
  | .dead, v, _ => by simp only [RepAV, AV.mapK]
theorem RepAVs.mapK {c c' : Cx} {f : SX → AV} {ts : List Nat} (h : c.LeK ts c') (hs : ∀ x v, RepSX c.μ c.keep x v → RepAV c' (f x) v) : ∀ {l vs}, RepAVs c l vs → RepAVs c' (mapKL f ts l) vs
  | [], _, hr => by simpa only [RepAVs, mapKL] using hr
  | x :: xs, _, hr => by
    simp only [RepAVs, mapKL] at hr ⊢
    obtain ⟨v, us, e, h1, h2⟩ := hr
    exact ⟨v, us, e, h1.mapK h hs, h2.mapK h hs⟩
end
theorem getL_mapKR (f : SX → AV) (ts : List Nat) (recs : List (Option (List AV))) (r : Nat) : getL (mapKR f ts recs) r = (getL recs r).bind fun c => match isMark c with | true => none | false => some (mapKL f ts c) := by
  unfold getL mapKR
  rw [List.getElem?_map]
  cases h : recs[r]? with
  | none => rfl
  | some x => cases x with
    | none => rfl
    | some c => cases hk : isMark c <;> simp [hk]
theorem mapKR_length (f : SX → AV) (ts : List Nat) (recs : List (Option (List AV))) : (mapKR f ts recs).length = recs.length := by simp [mapKR]
theorem mapKR_some {f : SX → AV} {ts : List Nat} {recs : List (Option (List AV))} {r : Nat} {c : List AV} (h : getL (mapKR f ts recs) r = some c) : ∃ c0, getL recs r = some c0 ∧ isMark c0 = false ∧ c = mapKL f ts c0 := by
  rw [getL_mapKR, Option.bind_eq_some_iff] at h
  obtain ⟨c0, h1, h2⟩ := h
  split at h2
  · cases h2
  · rename_i hk; cases h2; exact ⟨c0, h1, hk, rfl⟩
theorem mapKL_mark {f : SX → AV} {ts : List Nat} (hf : ∀ x, f x ≠ .sx .mark) : ∀ {l c : List AV}, mapKL f ts l ≠ .sx .mark :: c
  | [], c, h => by simp [mapKL] at h
  | v :: l, c, h => by
    simp only [mapKL, List.cons.injEq] at h
    have := h.1
    cases v <;> simp only [AV.mapK] at this <;> first | (cases this; done) | exact hf _ this | (split at this <;> cases this)
theorem mapKL_bld {f : SX → AV} {ts : List Nat} (hf : ∀ x r, f x ≠ .bld r) : ∀ {l : List AV}, isBld (mapKL f ts l) = true → isBld l = true
  | [], h => by simp [mapKL, isBld] at h
  | x :: l, h => by
    obtain ⟨r, l', e⟩ := isBld_some h
    simp only [mapKL, List.cons.injEq] at e
    have := e.1
    cases x <;> simp only [AV.mapK] at this <;> first | rfl | (cases this; done) | exact absurd this (hf _ _) | (split at this <;> cases this)
theorem clr_length : ∀ (ts : List Nat) (l : List (Option LObj)), (clr ts l).length = l.length
  | [], _ => rfl
  | t :: ts, l => by simp only [clr]; rw [clr_length ts]; simp
theorem hasN_self (q : Nat) (ts : List Nat) : hasN q (q :: ts) = true := by simp [hasN]
theorem hasN_ne {q t : Nat} {ts : List Nat} (h : t ≠ q) : hasN q (t :: ts) = hasN q ts := by
  have : Nat.beq t q = false := by
    cases hb : Nat.beq t q with
    | false => rfl
    | true => exact absurd (Nat.eq_of_beq_eq_true hb) h
  simp [hasN, this]
theorem getL_clr : ∀ (ts : List Nat) (l : List (Option LObj)) (q : Nat), getL (clr ts l) q = if hasN q ts = true then none else getL l q
  | [], _, _ => by simp [clr, hasN]
  | t :: ts, l, q => by
    simp only [clr]
    rw [getL_clr ts]
    by_cases e : t = q
    · subst e
      rw [hasN_self]
      have hs : getL (l.set t none) t = none := by
        unfold getL
        by_cases hlt : t < l.length
        · rw [List.getElem?_set_self hlt]
        · rw [List.getElem?_eq_none (by simp; omega)]
      rw [hs]; simp
    · rw [hasN_ne e]
      have hs : getL (l.set t none) q = getL l q := by unfold getL; rw [List.getElem?_set_ne e]
      rw [hs]
theorem ownNo_some {v : AV} {ts : List Nat} (h : ownNo v = some ts) : (∃ t, v = .whole t ∧ ts = [t]) ∨ (v = .nilS ∧ ts = []) := by
  unfold ownNo at h
  split at h
  · cases h; exact .inl ⟨_, rfl, rfl⟩
  · cases h; exact .inr ⟨rfl, rfl⟩
  · cases h
def unfSrc (n : Nat) (t1 t2 : List Nat) : Loc → Option Loc
  | .n k => if k = 2 * n + 1 then t1.head?.map .l else if k = 2 * n + 2 then t2.head?.map .l else some (.n k)
  | .l t => if hasN t (t1 ++ t2) = true then none else some (.l t)
  | .r r => some (.r r)
theorem unfSrc_inj {n : Nat} {t1 t2 : List Nat} (h1 : ∀ t, t1.head? = some t → hasN t (t1 ++ t2) = true) (h2 : ∀ t, t2.head? = some t → hasN t (t1 ++ t2) = true) (h12 : ∀ t, t1.head? = some t → t2.head? ≠ some t) :
    ∀ x y z, unfSrc n t1 t2 x = some z → unfSrc n t1 t2 y = some z → x = y := by
  intro x y z hx hy
  have key : ∀ x z, unfSrc n t1 t2 x = some z → (x = z ∧ (∀ t, z = .l t → hasN t (t1 ++ t2) = false) ∧ z ≠ .n (2 * n + 1) ∧ z ≠ .n (2 * n + 2)) ∨ (x = .n (2 * n + 1) ∧ ∃ t, z = .l t ∧ t1.head? = some t) ∨ (x = .n (2 * n + 2) ∧ ∃ t, z = .l t ∧ t2.head? = some t) := by
    intro x z hx
    cases x with
    | n k =>
      simp only [unfSrc] at hx
      split at hx
      · rename_i e
        obtain ⟨t, ht, rfl⟩ := Option.map_eq_some_iff.1 hx
        subst e; exact .inr (.inl ⟨rfl, t, rfl, ht⟩)
      · split at hx
        · rename_i e
          obtain ⟨t, ht, rfl⟩ := Option.map_eq_some_iff.1 hx
          subst e; exact .inr (.inr ⟨rfl, t, rfl, ht⟩)
        · cases hx
          exact .inl ⟨rfl, fun t h => (by cases h), (by simpa using ‹¬ k = 2 * n + 1›), (by simpa using ‹¬ k = 2 * n + 2›)⟩
    | l t =>
      simp only [unfSrc] at hx
      split at hx
      · cases hx
      · cases hx
        exact .inl ⟨rfl, fun t h => (by cases h; simpa using ‹¬ hasN t (t1 ++ t2) = true›), (by simp), (by simp)⟩
    | r r => simp only [unfSrc] at hx; cases hx; exact .inl ⟨rfl, fun t h => (by cases h), (by simp), (by simp)⟩
  rcases key x z hx with ⟨rfl, a1, a2, a3⟩ | ⟨rfl, t, rfl, ht⟩ | ⟨rfl, t, rfl, ht⟩ <;> rcases key y _ hy with ⟨rfl, b1, b2, b3⟩ | ⟨rfl, t', e, ht'⟩ | ⟨rfl, t', e, ht'⟩
  · rfl
  · subst e; have := h1 t' ht'; rw [a1 t' rfl] at this; cases this
  · subst e; have := h2 t' ht'; rw [a1 t' rfl] at this; cases this
  · have := h1 t ht; rw [b1 t rfl] at this; cases this
  · rfl
  · cases e; exact absurd ht' (h12 t ht)
  · have := h2 t ht; rw [b1 t rfl] at this; cases this
  · cases e; exact absurd ht (h12 t ht')
  · rfl
theorem nest_of (hm : Mem A0 w0 recs lsts w μ) {t1 : List Nat} {k : Nat} {e : Ty} {xs : List e.den} {ci : AV} {iv : Value} (ho : ownNo ci = some t1) (ha : asTy lsts (.list e) ci = some xs) (hr : RepAV (cx A0 w0 recs lsts w μ) ci iv)
    {c' : Cx} (hA : ∀ b, Imm A0 w0 μ w b → c'.A b) (hw : c'.w = w) (hat : c'.μ.at_ (.n k) = (t1.head?).bind fun t => μ.at_ (.l t)) : NestAt c' k e xs iv := by
  rcases ownNo_some ho with ⟨t, rfl, rfl⟩ | ⟨rfl, rfl⟩
  · simp only [asTy] at ha
    split at ha
    · rename_i o ho'
      split at ha
      · rename_i he
        obtain ⟨e', xs'⟩ := o
        cases he
        simp only [Option.some.injEq] at ha
        subst ha
        simp only [RepAV, cx] at hr
        have hwh := hr.2.2 _ ho'
        simp only [List.head?_cons, Option.bind_some] at hat
        rcases hm.hlst t _ ho' with ⟨g1, g2⟩ | ⟨b, vs, g1, g2, g3, g4, us, rest, g5, g6⟩
        · rcases hwh with ⟨_, rfl⟩ | ⟨b, hb, _⟩
          · exact .inl ⟨hat.trans g1, g2, rfl⟩
          · rw [show (cx A0 w0 recs lsts w μ).μ.at_ (.l t) = μ.at_ (.l t) from rfl, hb] at g1; cases g1
        · rcases hwh with ⟨h3, _⟩ | ⟨b', hb', rfl⟩
          · rw [show (cx A0 w0 recs lsts w μ).μ.at_ (.l t) = μ.at_ (.l t) from rfl, h3] at g1; cases g1
          · rw [show (cx A0 w0 recs lsts w μ).μ.at_ (.l t) = μ.at_ (.l t) from rfl, hb'] at g1; cases g1
            refine .inr ⟨_, vs, μ.cap t, hat.trans hb', rfl, by rw [hw]; exact g2, g3, g4, us, rest, g5, g6.imp fun x u hx => hx.mono hA fun b hb => by rw [hw]; rfl⟩
      · cases ha
    · cases ha
  · simp only [asTy, Option.some.injEq] at ha
    simp only [RepAV] at hr
    subst ha; subst hr
    exact .inl ⟨by simpa using hat, rfl, rfl⟩
theorem unfocus_sound {S : Type} (hs : Sim A0 w0 st tmps w μ) {q j : Nat} (K : St → Option S) (r0 : S) (h : evG (.unfocus q j) st K = some r0) : ∃ st', K st' = some r0 ∧ ∃ μ', Sim A0 w0 st' tmps w μ' := by
  simp only [evG] at h
  split at h
  · rename_i r fs hcell
    split at h
    · rename_i c0 c1 c2 ci ck hcells
      split at h
      · rename_i t1 t2 hti htk
        split at h
        · rename_i hnd
          simp only [Option.bind_eq_some_iff] at h
          obtain ⟨kd, hkd, n, hn, s, hss, is, his, ks, hks, h⟩ := h
          rw [normSt_eq] at h
          refine ⟨_, h, ?_⟩
          clear h
          obtain ⟨f, hf⟩ : ∃ f, f = V.mk kd n s is ks := ⟨_, rfl⟩
          rw [← hf]
          obtain ⟨v, hv⟩ := cellAt_some hs hcell
          simp only [RepSX] at hv
          obtain ⟨cap, b, hd, hb, rfl, hcap⟩ := hv
          have hm := hs.mem
          have hdeep := hm.deep _ hd
          have hg := topCells_some hcells
          obtain ⟨d, b', vs, h3, h4, h5, hown, hrep⟩ := hm.htop r _ hg
          rw [show (cx A0 w0 st.recs st.lsts w μ).μ.dp = μ.dp from rfl, hd] at h3; cases h3
          rw [show (cx A0 w0 st.recs st.lsts w μ).μ.at_ (.n 0) = μ.at_ (.n 0) from rfl, hb] at h5; cases h5
          replace hown : Own w b vs := hown
          rcases hdeep.row with ⟨h6, _⟩ | ⟨b2, vs2, pre, rest, h6, h7, hsz, _, e1, hfr⟩
          · rw [show (cx A0 w0 st.recs st.lsts w μ).μ.at_ (.n 0) = μ.at_ (.n 0) from rfl, hb] at h6; cases h6
          rw [show (cx A0 w0 st.recs st.lsts w μ).μ.at_ (.n 0) = μ.at_ (.n 0) from rfl, hb] at h6; cases h6
          obtain rfl : vs = vs2 := by
            obtain ⟨_, k1⟩ := hown; obtain ⟨_, k2⟩ := h7
            rw [show (cx A0 w0 st.recs st.lsts w μ).w = w from rfl, k1] at k2; cases k2; rfl
          replace hrep : RepAVs (cx A0 w0 st.recs st.lsts w μ) [c0, c1, c2, ci, ck] ((vs.toList.drop (fs.length * 5)).take 5) := hrep
          have hpl : pre.length = fs.length * 5 := hfr.length
          have hdr : vs.toList.drop (fs.length * 5) = rest := by rw [e1, List.drop_append_of_le_length (by omega), List.drop_of_length_le (by omega), List.nil_append]
          rw [hdr] at hrep
          obtain ⟨v0, _, hu0, r1, hrep1⟩ := hrep.cons'
          obtain ⟨v1, _, rfl, r2, hrep2⟩ := hrep1.cons'
          obtain ⟨v2, _, rfl, r3, hrep3⟩ := hrep2.cons'
          obtain ⟨iv, _, rfl, r4, hrep4⟩ := hrep3.cons'
          obtain ⟨kv, rfl, r5⟩ := hrep4.one'
          have hrest : rest = [v0, v1, v2, iv, kv] ++ rest.drop 5 := by rw [← hu0, List.take_append_drop]
          have q0 := asTy_rep (c := cx A0 w0 st.recs st.lsts w μ) (A' := Imm A0 w0 μ w) (lsts := []) (fun _ h => h) (fun t o v h => no_lists t o v h) hkd r1
          have q1 := asTy_rep (c := cx A0 w0 st.recs st.lsts w μ) (A' := Imm A0 w0 μ w) (lsts := []) (fun _ h => h) (fun t o v h => no_lists t o v h) hn r2
          have q2 := asTy_rep (c := cx A0 w0 st.recs st.lsts w μ) (A' := Imm A0 w0 μ w) (lsts := []) (fun _ h => h) (fun t o v h => no_lists t o v h) hss r3
          simp only [Rep, List.cons.injEq, and_true] at q0 q1 q2
          subst q0; subst q1; subst q2
          obtain ⟨μ', hμ'⟩ : ∃ μ' : Mu, μ' = { μ with at_ := fun x => (unfSrc fs.length t1 t2 x).bind μ.at_, dp := some ⟨none, cap, fs ++ [f]⟩ } := ⟨_, rfl⟩
          have h1 : ∀ t, t1.head? = some t → hasN t (t1 ++ t2) = true := by
            intro t ht
            rcases ownNo_some hti with ⟨t', _, rfl⟩ | ⟨_, rfl⟩
            · simp at ht; subst ht; exact hasN_self _ _
            · simp at ht
          have h2 : ∀ t, t2.head? = some t → hasN t (t1 ++ t2) = true := by
            intro t ht
            rcases ownNo_some htk with ⟨t', _, rfl⟩ | ⟨_, rfl⟩
            · simp at ht; subst ht
              rcases ownNo_some hti with ⟨t'', _, rfl⟩ | ⟨_, rfl⟩
              · by_cases e : t'' = t'
                · subst e; exact hasN_self _ _
                · rw [List.cons_append, hasN_ne e]; exact hasN_self _ _
              · exact hasN_self _ _
            · simp at ht
          have h12 : ∀ t, t1.head? = some t → t2.head? ≠ some t := by
            intro t ht ht'
            rcases ownNo_some hti with ⟨t', _, rfl⟩ | ⟨_, rfl⟩ <;> rcases ownNo_some htk with ⟨t'', _, rfl⟩ | ⟨_, rfl⟩ <;> simp at ht ht'
            subst ht; subst ht'
            simp [nodupB, idx] at hnd
          have hren : Renamed μ μ' (unfSrc fs.length t1 t2) := ⟨fun x => by rw [hμ'], unfSrc_inj h1 h2 h12⟩
          have hatr : ∀ r, μ'.at_ (.r r) = μ.at_ (.r r) := fun r => by rw [hren.at_]; rfl
          have hatl : ∀ t, hasN t (t1 ++ t2) = false → μ'.at_ (.l t) = μ.at_ (.l t) := fun t ht => by rw [hren.at_]; simp [unfSrc, ht]
          have hatn : ∀ k, k ≤ 2 * fs.length → μ'.at_ (.n k) = μ.at_ (.n k) := fun k hk => by
            rw [hren.at_]; simp only [unfSrc]; rw [if_neg (by omega), if_neg (by omega)]; rfl
          have hati : μ'.at_ (.n (2 * fs.length + 1)) = (t1.head?).bind fun t => μ.at_ (.l t) := by
            rw [hren.at_]; simp only [unfSrc, if_true]; cases t1.head? <;> rfl
          have hatk : μ'.at_ (.n (2 * fs.length + 2)) = (t2.head?).bind fun t => μ.at_ (.l t) := by
            rw [hren.at_]; simp only [unfSrc, if_true]; rw [if_neg (by omega)]; cases t2.head? <;> rfl
          have hcp : μ'.cap = μ.cap := by rw [hμ']
          have hdp : μ'.dp = some ⟨none, cap, fs ++ [f]⟩ := by rw [hμ']
          clear hμ'
          obtain ⟨ts, hts⟩ : ∃ ts, ts = t1 ++ t2 := ⟨_, rfl⟩
          replace hatl : ∀ t, hasN t ts = false → μ'.at_ (.l t) = μ.at_ (.l t) := fun t ht => hatl t (by rw [← hts]; exact ht)
          rw [← hts]
          obtain ⟨recs', hrecs'⟩ : ∃ x, x = mapKR (unfFx (fs ++ [f])) ts st.recs := ⟨_, rfl⟩
          obtain ⟨lsts', hlsts'⟩ : ∃ x, x = clr ts st.lsts := ⟨_, rfl⟩
          have hrl : recs'.length = st.recs.length := by rw [hrecs', mapKR_length]
          have hll : lsts'.length = st.lsts.length := by rw [hlsts', clr_length]
          have hgr : ∀ {r c}, getL recs' r = some c → ∃ c0, getL st.recs r = some c0 ∧ isMark c0 = false ∧ c = mapKL (unfFx (fs ++ [f])) ts c0 := fun h => by rw [hrecs'] at h; exact mapKR_some h
          have hgl : ∀ {t o}, getL lsts' t = some o → hasN t ts = false ∧ getL st.lsts t = some o := fun {t o} h => by
            rw [hlsts', getL_clr] at h
            split at h
            · cases h
            · rename_i hh; exact ⟨by simpa using hh, h⟩
          refine ⟨μ', ?_⟩
          rw [← hrecs', ← hlsts']
          have hImm : ∀ k, Imm A0 w0 μ w k → Imm A0 w0 μ' w k := fun k hk => hren.imm hk
          have hle : (cx A0 w0 st.recs st.lsts w μ).LeK ts (cx A0 w0 recs' lsts' w μ') :=
            ⟨hImm, fun _ _ => rfl, by simp only [cx, hrl]; exact Nat.le_refl _, by simp only [cx, hll]; exact Nat.le_refl _,
             fun r hr hsome => by
               obtain ⟨c, hc⟩ := Option.isSome_iff_exists.1 hsome
               obtain ⟨c0, g1, _⟩ := hgr hc
               exact ⟨by simp only [cx]; rw [g1]; rfl, hatr r⟩,
             fun t o' hh ht ho => ⟨o', (hgl ho).2, rfl, rfl, hatl t hh, by simp only [cx, hcp]⟩⟩
          have hfx : ∀ x v, RepSX (cx A0 w0 st.recs st.lsts w μ).μ (cx A0 w0 st.recs st.lsts w μ).keep x v → RepAV (cx A0 w0 recs' lsts' w μ') (unfFx (fs ++ [f]) x) v := by
            intro x v hx
            unfold unfFx
            split
            · simp only [RepSX, cx] at hx
              obtain ⟨cap', b', g1, g2, rfl, _⟩ := hx
              rw [hd] at g1; cases g1
              rw [hb] at g2; cases g2
              simp only [RepAV, RepSX, cx]
              exact ⟨cap, hdp, by unfold hdrV; rw [hatn 0 (by omega), hb]; simp, fun h => by rw [hatn 0 (by omega), hb] at h; cases h⟩
            · simp only [RepAV]
          have hN : (cx A0 w0 st.recs st.lsts w μ).DeepN (2 * fs.length) (cx A0 w0 recs' lsts' w μ') := ⟨hImm, fun _ _ => rfl, fun k _ hk => hatn k hk, fun _ _ _ _ _ => rfl⟩
          refine ⟨hs.slots.mapK hle hfx, ?_⟩
          constructor
          · intro r cells hr hk
            obtain ⟨c0, g1, g2, rfl⟩ := hgr hr
            obtain ⟨b', vs', hb', ho, hv⟩ := hm.hrec r c0 g1 g2
            exact ⟨b', vs', by rw [hatr]; exact hb', ho, hv.mapK hle hfx⟩
          · intro t o ho
            obtain ⟨hh, ho⟩ := hgl ho
            rcases hm.hlst t o ho with ⟨g1, g2⟩ | ⟨b', vs', hb', ho', hsz, hc, us, rest, e, hr'⟩
            · exact .inl ⟨(hatl t hh).trans g1, g2⟩
            · exact .inr ⟨b', vs', (hatl t hh).trans hb', ho', by simp only [cx, hcp]; exact hsz, by simp only [cx, hcp]; exact hc, us, rest, e, hr'.imp fun x u hx => hx.mono hImm fun _ _ => rfl⟩
          · intro x b' hx
            obtain ⟨y, hy, hby⟩ := hren.src hx
            obtain ⟨g1, g2, g3⟩ := hm.live y b' hby
            refine ⟨g1, g2, ?_⟩
            cases x with
            | n k => simp only [hdp]; rfl
            | l t =>
              simp only [unfSrc, ← hts] at hy
              split at hy
              · cases hy
              · rename_i hh
                cases hy
                simp only
                rw [hlsts', getL_clr, if_neg hh]; exact g3
            | r r =>
              rw [hatr] at hx
              obtain ⟨c, hc⟩ := Option.isSome_iff_exists.1 (hm.live _ _ hx).2.2
              simp only
              rw [hrecs', getL_mapKR, hc, Option.bind_some, hm.plain hc hx]; rfl
          · intro x y b' hx hy
            obtain ⟨x', hx', hbx⟩ := hren.src hx
            obtain ⟨y', hy', hby⟩ := hren.src hy
            have := hm.inj _ _ _ hbx hby
            subst this
            exact hren.inj _ _ _ hx' hy'
          · exact hm.below
          · intro k hk
            obtain ⟨g1, g2, g3⟩ := hm.fr k hk
            exact ⟨g1, g2, fun x hx => by obtain ⟨y, _, hy⟩ := hren.src hx; exact g3 y hy⟩
          · intro k hk
            obtain ⟨g1, g3⟩ := hm.xo k hk
            exact ⟨g1, fun x hx => by obtain ⟨y, _, hy⟩ := hren.src hx; exact g3 y hy⟩
          · have := hm.np; rw [hrl]; exact this
          · intro r k hk
            obtain ⟨g1, g2⟩ := hm.pins r k hk
            refine ⟨g1, fun hsome => ?_⟩
            rw [hatr]
            exact g2 (hle.r r (Nat.lt_of_lt_of_le g1 hm.np) hsome).1
          · exact hm.gi
          · refine ⟨fun r' c' g1 g2 b' hb' => ?_, fun t' o' g1 g2 b' hb' => ?_⟩
            · obtain ⟨c0, k1, k2, rfl⟩ := hgr g1
              rw [hatr] at hb'
              exact hm.bty.r r' c0 k1 (mapKL_bld (fun x q => unfFx_bld _ x q) g2) b' hb'
            · obtain ⟨hh, ho⟩ := hgl g1
              rw [hatl t' hh] at hb'
              exact hm.bty.l t' o' ho g2 b' hb'
          · intro r c hc
            obtain ⟨c0, k1, k2, k3⟩ := hgr hc
            exact absurd k3.symm (mapKL_mark (unfFx_mark _))
          · intro d' hd'
            rw [hdp] at hd'; cases hd'
            refine ⟨fun q hq => (by cases hq), fun k b' hk => ?_, .inr ⟨b, vs, pre ++ [.int .i64 f.kind, .int .i64 f.n, .string ⟨f.s.toArray⟩, iv, kv], rest.drop 5, (hatn 0 (by omega)).trans hb, hown, hsz, by simp; exact hcap, ?_, FramesAt.snoc.2 ⟨pre, iv, kv, rfl, hfr.monoN hN (show 2 * (0 + fs.length) ≤ 2 * fs.length by omega), ?_, ?_⟩⟩⟩
            · have hk' : μ'.at_ (.n k) = some b' := hk
              simp only [List.length_append, List.length_singleton]
              by_cases e2 : k ≤ 2 * fs.length + 2
              · omega
              · exfalso
                rw [hren.at_] at hk'
                simp only [unfSrc] at hk'
                rw [if_neg (by omega), if_neg (by omega)] at hk'
                have := hdeep.lim k b' hk'
                simp at this; omega
            · rw [e1, hf]; simp only [V.kind, V.n, V.s]; rw [List.append_assoc]; congr 1
            · rw [hf]; simp only [V.items, Nat.zero_add]
              exact nest_of hm hti his r4 hImm rfl hati
            · rw [hf]; simp only [V.keys, Nat.zero_add]
              exact nest_of hm htk hks r5 hImm rfl hatk
        · cases h
      · cases h
    · cases h
  · cases h
theorem evG_sound {S : Type} (hs : Sim A0 w0 st tmps w μ) (g : GS) (K : St → Option S) (r : S) (h : evG g st K = some r) : ∃ st', K st' = some r ∧ ∃ μ', Sim A0 w0 st' tmps w μ' := by
  cases g with
  | focus q j => exact focus_sound hs K r h
  | unfocus q j => exact unfocus_sound hs K r h
  | drop q j => exact drop_sound hs K r h
theorem evGs_sound {S : Type} : ∀ (l : List GS) {st : St} {μ : Mu} (_ : Sim A0 w0 st tmps w μ) (K : St → Option S) (r : S), evGs l st K = some r → ∃ st', K st' = some r ∧ ∃ μ', Sim A0 w0 st' tmps w μ'
  | [], st, μ, hs, K, r, h => ⟨st, h, μ, hs⟩
  | g :: l, st, μ, hs, K, r, h => by
    obtain ⟨st1, h1, μ1, hs1⟩ := evG_sound hs g _ r h
    exact evGs_sound l hs1 K r h1
end
end Go.Pe
