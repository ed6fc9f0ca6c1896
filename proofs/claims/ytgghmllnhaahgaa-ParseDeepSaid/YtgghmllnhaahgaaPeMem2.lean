/- Own memory written, grown, closed. -/
import Derived.Test.YtgghmllnhaahgaaPeMem
namespace Go.Pe
open Go.RowKit
set_option linter.unusedSectionVars false
variable [GI]
set_option linter.unusedSimpArgs false
set_option linter.unusedVariables false

theorem setRow_size (w : World) (g : Nat) (cs : Array Value) : (w.setRow g cs).heap.size = w.heap.size := by simp [World.setRow]
theorem setRow_other (w : World) (g : Nat) (cs : Array Value) {k : Nat} (h : k ≠ g) : (w.setRow g cs).heap[k]? = w.heap[k]? := by
  simp only [World.setRow, Array.getElem?_modify]; rw [if_neg (by omega)]
theorem Own.setRow {w : World} {b : Nat} {vs : Array Value} (h : Own w b vs) (cs : Array Value) : Own (w.setRow b cs) b cs := by
  obtain ⟨el, e⟩ := h; exact ⟨el, setRow_heap w b vs cs el _ e⟩
theorem Below.setRow {B : Nat} {a w : World} (h : Below B a w) {g : Nat} (hg : B ≤ g) (cs : Array Value) : Below B a (w.setRow g cs) :=
  h.trans ⟨rfl, rfl, rfl, by rw [setRow_size]; exact Nat.le_refl _, fun k hk => setRow_other w g cs (by omega)⟩

section
variable {A0 : Dom} {w0 w : World} {recs : List (Option (List AV))} {lsts : List (Option LObj)} {μ : Mu}

theorem imm_setRow {b : Nat} {cs : Array Value} {k : Nat} : Imm A0 w0 μ (w.setRow b cs) k ↔ Imm A0 w0 μ w k := by
  unfold Imm; rw [setRow_size]

/-- One record written. -/
theorem le_setRec {r b : Nat} {cells' : List AV} {cs : Array Value} (hr : r < recs.length) (hlv : (getL recs r).isSome = true) (hb : μ.at_ (.r r) = some b) :
    (cx A0 w0 recs lsts w μ).Le (cx A0 w0 (recs.set r (some cells')) lsts (w.setRow b cs) μ) :=
  ⟨fun _ h => imm_setRow.2 h, fun k hk => setRow_other w b cs (fun e => hk.2.2 (.r r) (by rw [e]; exact hb)), by simp [cx], Nat.le_refl _,
   fun q hq hs => ⟨by
     simp only [cx, getL_set hr] at hs ⊢
     split at hs
     · rename_i e; subst e; exact hlv
     · exact hs, rfl⟩,
   fun t o' ht ho => ⟨o', ho, rfl, rfl, rfl, rfl⟩, fun _ _ h => h⟩
theorem row_kept {b k : Nat} {cs vs : Array Value} {T : TypeId} (h : w.heap[k]? = some (.cells vs T (0, 0))) : ∃ vs', (w.setRow b cs).heap[k]? = some (.cells vs' T (0, 0)) := by
  by_cases e : k = b
  · subst e; exact ⟨cs, setRow_heap w k vs cs T _ h⟩
  · exact ⟨vs, (setRow_other w b cs e).trans h⟩
theorem isBld_some {l : List AV} (h : isBld l = true) : ∃ r l', l = .bld r :: l' := by
  unfold isBld at h; split at h
  · exact ⟨_, _, rfl⟩
  · cases h
theorem kill_bld {t r : Nat} {x : AV} (h : x.kill t = .bld r) : x = .bld r := by
  cases x <;> simp only [AV.kill] at h <;> (try split at h) <;> first | exact h | cases h
theorem froze_bld {t r : Nat} {o : LObj} {x : AV} (h : x.froze t o = .bld r) : x = .bld r := by
  cases x <;> simp only [AV.froze] at h <;> (try split at h) <;> first | exact h | cases h
theorem kill_mark {t : Nat} {x : AV} (h : x.kill t = .sx .mark) : x = .sx .mark := by
  cases x <;> simp only [AV.kill] at h <;> (try split at h) <;> first | exact h | cases h
theorem froze_mark {t : Nat} {o : LObj} {x : AV} (h : x.froze t o = .sx .mark) : x = .sx .mark := by
  cases x <;> simp only [AV.froze] at h <;> (try split at h) <;> first | exact h | cases h
theorem markOf {f : AV → AV} (hf : ∀ {x}, f x = .sx .mark → x = .sx .mark) {c : List AV} {l : List AV} (h : c.map f = .sx .mark :: l) : ∃ c', c = .sx .mark :: c' := by
  cases c with
  | nil => cases h
  | cons x c =>
    simp only [List.map_cons, List.cons.injEq] at h
    exact ⟨c, by rw [hf h.1]⟩
theorem isBld_map {f : AV → AV} (hf : ∀ {x r}, f x = .bld r → x = .bld r) (l : List AV) (h : isBld (l.map f) = true) : isBld l = true := by
  obtain ⟨r, l', e⟩ := isBld_some h
  cases l with
  | nil => cases e
  | cons x l =>
    rw [List.map_cons, List.cons.injEq] at e
    rw [hf e.1]; rfl
theorem Mem.setRec (hm : Mem A0 w0 recs lsts w μ) {r b : Nat} {cells cells' : List AV} {vs cs : Array Value} (hr : getL recs r = some cells) (hb : μ.at_ (.r r) = some b) (ho : Own w b vs)
    (hv : RepAVs (cx A0 w0 recs lsts w μ) cells' cs.toList) (hbl : isBld cells' = true → isBld cells = true) : Mem A0 w0 (recs.set r (some cells')) lsts (w.setRow b cs) μ := by
  have hnm : ∀ l, cells' ≠ .sx .mark :: l := by
    rintro l rfl
    obtain ⟨v, vs, _, h, _⟩ := hv.cons'
    simp only [RepAV, RepSX] at h
  have hoth : ∀ k b', μ.at_ (.n k) = some b' → (w.setRow b cs).heap[b']? = w.heap[b']? := fun k b' hb' => setRow_other w b cs fun e => by
    subst e; have := hm.inj _ _ _ hb' hb; cases this
  have hle := le_setRec (A0 := A0) (w0 := w0) (w := w) (recs := recs) (lsts := lsts) (μ := μ) (cells' := cells') (cs := cs) (getL_lt hr) (by rw [hr]; rfl) hb
  constructor
  · intro q cells0 h hk
    rw [getL_set (getL_lt hr)] at h
    split at h
    · rename_i e; subst e; cases h
      exact ⟨b, cs, hb, ho.setRow cs, hv.mono hle⟩
    · rename_i e
      obtain ⟨b', vs', hb', ho', hv'⟩ := hm.hrec q cells0 h hk
      refine ⟨b', vs', hb', ho'.ext (setRow_other w b cs fun e' => e ?_), hv'.mono hle⟩
      subst e'; have := hm.inj _ _ _ hb' hb; cases this; rfl
  · intro t o ht
    rcases hm.hlst t o ht with h1 | ⟨b', vs', hb', ho', hsz, hcap, us', rest, e, hr'⟩
    · exact .inl h1
    · refine .inr ⟨b', vs', hb', ho'.ext (setRow_other w b cs fun e' => ?_), hsz, hcap, us', rest, e, hr'.imp fun x u hx => hx.mono hle.A hle.w⟩
      subst e'; have := hm.inj _ _ _ hb' hb; cases this
  · intro x b' hx
    obtain ⟨h1, h2, h3⟩ := hm.live x b' hx
    refine ⟨h1, by rw [setRow_size]; exact h2, ?_⟩
    cases x with
    | r q => simp only [getL_set (getL_lt hr)]; split <;> simp_all
    | n k => exact h3
    | l t => exact h3
  · exact hm.inj
  · exact Below.setRow hm.below (hm.live _ _ hb).1 cs
  · intro k hk
    obtain ⟨h1, h2, h3⟩ := hm.fr k hk
    exact ⟨by rw [setRow_size]; exact h1, by rw [setRow_other w b cs (fun e => h3 _ (by rw [e]; exact hb))]; exact h2, h3⟩
  · intro k hk
    obtain ⟨h1, h3⟩ := hm.xo k hk
    exact ⟨by rw [setRow_size]; exact h1, h3⟩
  · have := hm.np; simpa using this
  · intro q k hk
    obtain ⟨h1, h2⟩ := hm.pins q k hk
    refine ⟨h1, fun hs => h2 ?_⟩
    rw [getL_set (getL_lt hr)] at hs
    split at hs
    · rename_i e; subst e; rw [hr]; rfl
    · exact hs
  · exact hm.gi
  · refine hm.bty.map (fun r' c' h1 h2 b' hb' => .inl ?_) (fun t' o' h1 h2 b' hb' => .inl ⟨t', o', h1, h2, hb'⟩) fun x b' vs' T _ h => row_kept h
    rw [getL_set (getL_lt hr)] at h1
    split at h1
    · rename_i e; subst e; cases h1
      exact ⟨_, cells, hr, hbl h2, hb'⟩
    · exact ⟨r', c', h1, h2, hb'⟩
  · intro q c h
    rw [getL_set (getL_lt hr)] at h
    split at h
    · exact absurd (Option.some.inj h) (hnm c)
    · exact (hm.htop q c h).imp (c := cx A0 w0 recs lsts w μ) rfl rfl (fun b' hb' => hoth 0 b' hb') fun us hu => hu.mono hle
  · intro d hd
    exact (hm.deep d hd).mono (c := cx A0 w0 recs lsts w μ) ⟨hle.A, hle.w, fun k => rfl, fun k b' hb' => hoth k b' hb', hle.nr, fun r hr h => h⟩

/-- The record behind a row of values that hold lists of their own, written. -/
theorem Mem.setTop (hm : Mem A0 w0 recs lsts w μ) {r b : Nat} {d : DP} {cells cells' : List AV} {vs cs : Array Value} {u' : List Value} (hr : getL recs r = some (.sx .mark :: cells)) (hd : μ.dp = some d) (hdt : d.top = some r) (hb : μ.at_ (.n 0) = some b) (ho : Own w b vs)
    (hv : RepAVs (cx A0 w0 recs lsts w μ) cells' u') (hu : u'.length = 5) (hlt : d.fs.length * 5 + 5 ≤ vs.size) (hcs : cs.toList = vs.toList.take (d.fs.length * 5) ++ u' ++ vs.toList.drop (d.fs.length * 5 + 5)) :
    Mem A0 w0 (recs.set r (some (.sx .mark :: cells'))) lsts (w.setRow b cs) μ ∧ (cx A0 w0 recs lsts w μ).Le (cx A0 w0 (recs.set r (some (.sx .mark :: cells'))) lsts (w.setRow b cs) μ) := by
  have hrl := getL_lt hr
  have hle : (cx A0 w0 recs lsts w μ).Le (cx A0 w0 (recs.set r (some (.sx .mark :: cells'))) lsts (w.setRow b cs) μ) :=
    ⟨fun _ h => imm_setRow.2 h, fun k hk => setRow_other w b cs (fun e => hk.2.2 (.n 0) (by rw [e]; exact hb)), by simp [cx], Nat.le_refl _,
     fun q hq hs => ⟨by
       simp only [cx, getL_set hrl] at hs ⊢
       split at hs
       · rename_i e; subst e; rw [hr]; rfl
       · exact hs, rfl⟩,
     fun t o' ht ho => ⟨o', ho, rfl, rfl, rfl, rfl⟩, fun _ _ h => h⟩
  have hoth : ∀ x b', x ≠ .n 0 → μ.at_ x = some b' → (w.setRow b cs).heap[b']? = w.heap[b']? := fun x b' hx hb' => setRow_other w b cs fun e => by
    subst e; exact hx (hm.inj _ _ _ hb' hb)
  have hsz : cs.size = vs.size := by
    have := congrArg List.length hcs
    simp only [List.length_append, List.length_take, List.length_drop, Array.length_toList, hu] at this
    omega
  refine ⟨?_, hle⟩
  constructor
  · intro q cells0 h hk
    rw [getL_set hrl] at h
    split at h
    · cases h; simp [isMark] at hk
    · obtain ⟨b', vs', hb', ho', hv'⟩ := hm.hrec q cells0 h hk
      exact ⟨b', vs', hb', ho'.ext (hoth _ _ (by simp) hb'), hv'.mono hle⟩
  · intro t o ht
    rcases hm.hlst t o ht with h1 | ⟨b', vs', hb', ho', hsz, hcap, us', rest, e, hr'⟩
    · exact .inl h1
    · exact .inr ⟨b', vs', hb', ho'.ext (hoth _ _ (by simp) hb'), hsz, hcap, us', rest, e, hr'.imp fun x u hx => hx.mono hle.A hle.w⟩
  · intro x b' hx
    obtain ⟨h1, h2, h3⟩ := hm.live x b' hx
    refine ⟨h1, by rw [setRow_size]; exact h2, ?_⟩
    cases x with
    | r q => simp only [getL_set hrl]; split <;> simp_all
    | n k => exact h3
    | l t => exact h3
  · exact hm.inj
  · exact Below.setRow hm.below (hm.live _ _ hb).1 cs
  · intro k hk
    obtain ⟨h1, h2, h3⟩ := hm.fr k hk
    exact ⟨by rw [setRow_size]; exact h1, by rw [setRow_other w b cs (fun e => h3 _ (by rw [e]; exact hb))]; exact h2, h3⟩
  · intro k hk
    obtain ⟨h1, h3⟩ := hm.xo k hk
    exact ⟨by rw [setRow_size]; exact h1, h3⟩
  · have := hm.np; simpa using this
  · intro q k hk
    obtain ⟨h1, h2⟩ := hm.pins q k hk
    refine ⟨h1, fun hs => h2 ?_⟩
    rw [getL_set hrl] at hs
    split at hs
    · rename_i e; subst e; rw [hr]; rfl
    · exact hs
  · exact hm.gi
  · refine hm.bty.map (fun r' c' h1 h2 b' hb' => .inl ?_) (fun t' o' h1 h2 b' hb' => .inl ⟨t', o', h1, h2, hb'⟩) fun x b' vs' T _ h => row_kept h
    rw [getL_set hrl] at h1
    split at h1
    · cases h1; simp [isBld] at h2
    · exact ⟨r', c', h1, h2, hb'⟩
  · intro q c h
    rw [getL_set hrl] at h
    split at h
    · rename_i e; subst e; cases h
      refine ⟨d, b, cs, hd, hdt, hb, ho.setRow cs, ?_⟩
      have hl : (vs.toList.take (d.fs.length * 5)).length = d.fs.length * 5 := by simp; omega
      rw [hcs, List.append_assoc, List.drop_append_of_le_length (by omega), List.drop_of_length_le (by omega), List.nil_append, List.take_append_of_le_length (by omega), List.take_of_length_le (by omega)]
      exact hv.mono hle
    · rename_i e
      obtain ⟨d', b', vs', h1, h2, _⟩ := hm.htop q c h
      rw [show (cx A0 w0 recs lsts w μ).μ.dp = μ.dp from rfl, hd] at h1; cases h1
      rw [hdt] at h2; cases h2; exact absurd rfl e
  · intro d' hd'
    rw [hd] at hd'; cases hd'
    have hdeep := hm.deep d hd
    have h1 : (cx A0 w0 recs lsts w μ).Deep1 (cx A0 w0 (recs.set r (some (.sx .mark :: cells'))) lsts (w.setRow b cs) μ) := ⟨hle.A, hle.w, fun _ _ => rfl, fun k b' hk hb' => hoth _ _ (by simpa using hk) hb'⟩
    refine ⟨fun q hq => ⟨Nat.lt_of_lt_of_le (hdeep.top q hq).1 hle.nr, (hdeep.top q hq).2⟩, hdeep.lim, ?_⟩
    rcases hdeep.row with ⟨h2, _⟩ | ⟨b', vs', pre, rest, h2, h3, h4, h5, h6, h7⟩
    · rw [show (cx A0 w0 recs lsts w μ).μ.at_ (.n 0) = μ.at_ (.n 0) from rfl, hb] at h2; cases h2
    · rw [show (cx A0 w0 recs lsts w μ).μ.at_ (.n 0) = μ.at_ (.n 0) from rfl, hb] at h2; cases h2
      obtain rfl : vs = vs' := by
        obtain ⟨_, e1⟩ := ho; obtain ⟨_, e2⟩ := h3
        rw [show (cx A0 w0 recs lsts w μ).w = w from rfl, e1] at e2; cases e2; rfl
      have hpl := h7.length
      refine .inr ⟨b, cs, pre, u' ++ vs.toList.drop (d.fs.length * 5 + 5), hb, ho.setRow cs, by rw [hsz]; exact h4, h5, ?_, h7.mono h1⟩
      rw [hcs, h6, List.take_append_of_le_length (by omega), List.take_of_length_le (by omega), List.append_assoc]

/-- One element of a list written. -/
theorem le_setLst {q b : Nat} {o : LObj} {xs' : List o.e.den} {cs : Array Value} (hq : getL lsts q = some o) (hl : xs'.length = o.xs.length) (hb : μ.at_ (.l q) = some b) :
    (cx A0 w0 recs lsts w μ).Le (cx A0 w0 recs (lsts.set q (some ⟨o.e, xs'⟩)) (w.setRow b cs) μ) :=
  ⟨fun _ h => imm_setRow.2 h, fun k hk => setRow_other w b cs (fun e => hk.2.2 (.l q) (by rw [e]; exact hb)), Nat.le_refl _, by simp [cx],
   fun r hr hs => ⟨hs, rfl⟩,
   fun t o' ht ho => by
     simp only [cx, getL_set (getL_lt hq)] at ho
     split at ho
     · rename_i e; subst e; cases ho; exact ⟨o, hq, rfl, hl, rfl, rfl⟩
     · exact ⟨o', ho, rfl, rfl, rfl, rfl⟩, fun _ _ h => h⟩
theorem Mem.setLst (hm : Mem A0 w0 recs lsts w μ) {q b : Nat} {o : LObj} {xs' : List o.e.den} {vs cs : Array Value} (hq : getL lsts q = some o) (hl : xs'.length = o.xs.length) (hb : μ.at_ (.l q) = some b) (ho : Own w b vs)
    (hsz : cs.size = vs.size) (hvsz : vs.size = μ.cap q * o.e.size) (hcap : o.xs.length ≤ μ.cap q) {us rest : List Value} (hcs : cs.toList = us ++ rest) (hr : RepAll (Rep (Imm A0 w0 μ w) w o.e) xs' us) :
    Mem A0 w0 recs (lsts.set q (some ⟨o.e, xs'⟩)) (w.setRow b cs) μ := by
  have hle := le_setLst (A0 := A0) (w0 := w0) (w := w) (recs := recs) (lsts := lsts) (μ := μ) (cs := cs) hq hl hb
  have hoth : ∀ k b', μ.at_ (.n k) = some b' → (w.setRow b cs).heap[b']? = w.heap[b']? := fun k b' hb' => setRow_other w b cs fun e => by
    subst e; have := hm.inj _ _ _ hb' hb; cases this
  constructor
  · intro r cells0 h hk
    obtain ⟨b', vs', hb', ho', hv'⟩ := hm.hrec r cells0 h hk
    refine ⟨b', vs', hb', ho'.ext (setRow_other w b cs fun e' => ?_), hv'.mono hle⟩
    subst e'; have := hm.inj _ _ _ hb' hb; cases this
  · intro t o' ht
    rw [getL_set (getL_lt hq)] at ht
    split at ht
    · rename_i e; subst e; cases ht
      exact .inr ⟨b, cs, hb, ho.setRow cs, by rw [hsz]; exact hvsz, by show xs'.length ≤ _; rw [hl]; exact hcap, us, rest, hcs, hr.imp fun x u hx => hx.mono hle.A hle.w⟩
    · rename_i e
      rcases hm.hlst t o' ht with h1 | ⟨b', vs', hb', ho', hsz', hcap', us', rest', e1, hr'⟩
      · exact .inl h1
      · refine .inr ⟨b', vs', hb', ho'.ext (setRow_other w b cs fun e' => e ?_), hsz', hcap', us', rest', e1, hr'.imp fun x u hx => hx.mono hle.A hle.w⟩
        subst e'; have := hm.inj _ _ _ hb' hb; cases this; rfl
  · intro x b' hx
    obtain ⟨h1, h2, h3⟩ := hm.live x b' hx
    refine ⟨h1, by rw [setRow_size]; exact h2, ?_⟩
    cases x with
    | r q => exact h3
    | n k => exact h3
    | l t => simp only [getL_set (getL_lt hq)]; split <;> simp_all
  · exact hm.inj
  · exact Below.setRow hm.below (hm.live _ _ hb).1 cs
  · intro k hk
    obtain ⟨h1, h2, h3⟩ := hm.fr k hk
    exact ⟨by rw [setRow_size]; exact h1, by rw [setRow_other w b cs (fun e => h3 _ (by rw [e]; exact hb))]; exact h2, h3⟩
  · intro k hk
    obtain ⟨h1, h3⟩ := hm.xo k hk
    exact ⟨by rw [setRow_size]; exact h1, h3⟩
  · exact hm.np
  · exact hm.pins
  · exact hm.gi
  · refine hm.bty.map (fun r' c' h1 h2 b' hb' => .inl ⟨r', c', h1, h2, hb'⟩) (fun t' o' h1 h2 b' hb' => .inl ?_) fun x b' vs' T _ h => row_kept h
    rw [getL_set (getL_lt hq)] at h1
    split at h1
    · rename_i e; subst e; cases h1
      exact ⟨_, o, hq, h2, hb'⟩
    · exact ⟨t', o', h1, h2, hb'⟩
  · intro q c h
    exact (hm.htop q c h).imp (c := cx A0 w0 recs lsts w μ) rfl rfl (fun b' hb' => hoth 0 b' hb') fun us hu => hu.mono hle
  · intro d hd
    exact (hm.deep d hd).mono (c := cx A0 w0 recs lsts w μ) ⟨hle.A, hle.w, fun k => rfl, fun k b' hb' => hoth k b' hb', hle.nr, fun r hr h => h⟩
end

/-! ### All but one list -/
structure Cx.LeBut (t0 : Nat) (c c' : Cx) : Prop where
  A : ∀ b, c.A b → c'.A b
  w : ∀ b, c.A b → c'.w.heap[b]? = c.w.heap[b]?
  nr : c.recs.length ≤ c'.recs.length
  nl : c.lsts.length ≤ c'.lsts.length
  r : ∀ r, r < c.recs.length → (getL c'.recs r).isSome = true → (getL c.recs r).isSome = true ∧ c'.μ.at_ (.r r) = c.μ.at_ (.r r)
  l : ∀ t o', t ≠ t0 → t < c.lsts.length → getL c'.lsts t = some o' → ∃ o, getL c.lsts t = some o ∧ o'.e = o.e ∧ o'.xs.length = o.xs.length ∧ c'.μ.at_ (.l t) = c.μ.at_ (.l t) ∧ c'.μ.cap t = c.μ.cap t
  s : ∀ x v, RepSX c.μ c.keep x v → RepSX c'.μ c'.keep x v

mutual
theorem RepAV.kill {t0 : Nat} {c c' : Cx} (h : c.LeBut t0 c') : ∀ {av v}, RepAV c av v → RepAV c' (av.kill t0) v
  | .d t x, v, hr => by simp only [RepAV, AV.kill] at hr ⊢; exact hr.mono h.A h.w
  | .full e x, v, hr => by simp only [RepAV, AV.kill] at hr ⊢; exact ⟨hr.1, hr.2.mono h.A h.w⟩
  | .nilS, v, hr => by simpa only [RepAV, AV.kill] using hr
  | .whole t, v, hr => by
    simp only [AV.kill]
    split
    · simp only [RepAV]
    · rename_i hne
      simp only [RepAV] at hr ⊢
      refine ⟨Nat.lt_of_lt_of_le hr.1 h.nl, hr.2.1, fun o' ho' => ?_⟩
      obtain ⟨o, ho, he, hl, hμ, hcap⟩ := h.l t o' hne hr.1 ho'
      have := hr.2.2 o ho
      unfold WholeAt at this ⊢
      rw [hμ, hcap, hl]; exact this
  | .ptr r off, v, hr => by
    simp only [RepAV, AV.kill] at hr ⊢
    refine ⟨Nat.lt_of_lt_of_le hr.1 h.nr, hr.2.1, fun hs => ?_⟩
    obtain ⟨h1, h2⟩ := h.r r hr.1 hs
    rw [h2]; exact hr.2.2 h1
  | .bld r, v, hr => by
    simp only [RepAV, AV.kill] at hr ⊢
    refine ⟨Nat.lt_of_lt_of_le hr.1 h.nr, hr.2.1, fun hs => ?_⟩
    obtain ⟨h1, h2⟩ := h.r r hr.1 hs
    rw [h2]; exact hr.2.2 h1
  | .eptr t i off, v, hr => by
    simp only [AV.kill]
    split
    · simp only [RepAV]
    · rename_i hne
      simp only [RepAV] at hr ⊢
      refine ⟨Nat.lt_of_lt_of_le hr.1 h.nl, hr.2.1, fun o' ho' => ?_⟩
      obtain ⟨o, ho, he, hl, hμ, hcap⟩ := h.l t o' hne hr.1 ho'
      rw [hμ, he]; exact hr.2.2 o ho
  | .pim cells, v, hr => by
    simp only [RepAV, AV.kill] at hr ⊢
    obtain ⟨ad, us, e, hsp, hA, hc, hu⟩ := hr
    exact ⟨ad, us, e, hsp, h.A _ hA, hc.mono (h.w _ hA), hu.kill h⟩
  | .agg l, v, hr => by simp only [RepAV, AV.kill] at hr ⊢; obtain ⟨us, e, hu⟩ := hr; exact ⟨us, e, hu.kill h⟩
  | .ifc q l, v, hr => by simp only [RepAV, AV.kill] at hr ⊢; obtain ⟨us, e, hu⟩ := hr; exact ⟨us, e, hu.kill h⟩
  | .tup l, v, hr => by simp only [RepAV, AV.kill] at hr ⊢; obtain ⟨us, e, hu⟩ := hr; exact ⟨us, e, hu.kill h⟩
  | .fn f a b, v, hr => by simp only [RepAV, AV.kill] at hr ⊢; obtain ⟨a', b', e, h1, h2⟩ := hr; exact ⟨a', b', e, h1.kill h, h2.kill h⟩
  | .nilP, v, hr => by simpa only [RepAV, AV.kill] using hr
  | .sx x, v, hr => by simp only [RepAV, AV.kill] at hr ⊢; exact h.s x v hr
  | .dead, v, _ => by simp only [RepAV, AV.kill]
theorem RepAVs.kill {t0 : Nat} {c c' : Cx} (h : c.LeBut t0 c') : ∀ {l vs}, RepAVs c l vs → RepAVs c' (killL t0 l) vs
  | [], _, hr => by simpa only [RepAVs, killL] using hr
  | x :: xs, _, hr => by
    simp only [RepAVs, killL] at hr ⊢
    obtain ⟨v, us, e, h1, h2⟩ := hr
    exact ⟨v, us, e, h1.kill h, h2.kill h⟩
end
mutual
theorem RepAV.froze {t0 : Nat} {o0 : LObj} {c c' : Cx} (h : c.LeBut t0 c') (h0 : getL c.lsts t0 = some o0) (hF : ∀ v, WholeAt c.μ t0 o0 v → Rep c'.A c'.w (.list o0.e) o0.xs [v]) : ∀ {av v}, RepAV c av v → RepAV c' (av.froze t0 o0) v
  | .d t x, v, hr => by simp only [RepAV, AV.froze] at hr ⊢; exact hr.mono h.A h.w
  | .full e x, v, hr => by simp only [RepAV, AV.froze] at hr ⊢; exact ⟨hr.1, hr.2.mono h.A h.w⟩
  | .nilS, v, hr => by simpa only [RepAV, AV.froze] using hr
  | .whole t, v, hr => by
    simp only [AV.froze]
    split
    · rename_i e; subst e
      simp only [RepAV] at hr ⊢
      exact hF v (hr.2.2 o0 h0)
    · rename_i hne
      simp only [RepAV] at hr ⊢
      refine ⟨Nat.lt_of_lt_of_le hr.1 h.nl, hr.2.1, fun o' ho' => ?_⟩
      obtain ⟨o, ho, he, hl, hμ, hcap⟩ := h.l t o' hne hr.1 ho'
      have := hr.2.2 o ho
      unfold WholeAt at this ⊢
      rw [hμ, hcap, hl]; exact this
  | .ptr r off, v, hr => by
    simp only [RepAV, AV.froze] at hr ⊢
    refine ⟨Nat.lt_of_lt_of_le hr.1 h.nr, hr.2.1, fun hs => ?_⟩
    obtain ⟨h1, h2⟩ := h.r r hr.1 hs
    rw [h2]; exact hr.2.2 h1
  | .bld r, v, hr => by
    simp only [RepAV, AV.froze] at hr ⊢
    refine ⟨Nat.lt_of_lt_of_le hr.1 h.nr, hr.2.1, fun hs => ?_⟩
    obtain ⟨h1, h2⟩ := h.r r hr.1 hs
    rw [h2]; exact hr.2.2 h1
  | .eptr t i off, v, hr => by
    simp only [AV.froze]
    split
    · simp only [RepAV]
    · rename_i hne
      simp only [RepAV] at hr ⊢
      refine ⟨Nat.lt_of_lt_of_le hr.1 h.nl, hr.2.1, fun o' ho' => ?_⟩
      obtain ⟨o, ho, he, hl, hμ, hcap⟩ := h.l t o' hne hr.1 ho'
      rw [hμ, he]; exact hr.2.2 o ho
  | .pim cells, v, hr => by
    simp only [RepAV, AV.froze] at hr ⊢
    obtain ⟨ad, us, e, hsp, hA, hc, hu⟩ := hr
    exact ⟨ad, us, e, hsp, h.A _ hA, hc.mono (h.w _ hA), hu.froze h h0 hF⟩
  | .agg l, v, hr => by simp only [RepAV, AV.froze] at hr ⊢; obtain ⟨us, e, hu⟩ := hr; exact ⟨us, e, hu.froze h h0 hF⟩
  | .ifc q l, v, hr => by simp only [RepAV, AV.froze] at hr ⊢; obtain ⟨us, e, hu⟩ := hr; exact ⟨us, e, hu.froze h h0 hF⟩
  | .tup l, v, hr => by simp only [RepAV, AV.froze] at hr ⊢; obtain ⟨us, e, hu⟩ := hr; exact ⟨us, e, hu.froze h h0 hF⟩
  | .fn f a b, v, hr => by simp only [RepAV, AV.froze] at hr ⊢; obtain ⟨a', b', e, h1, h2⟩ := hr; exact ⟨a', b', e, h1.froze h h0 hF, h2.froze h h0 hF⟩
  | .nilP, v, hr => by simpa only [RepAV, AV.froze] using hr
  | .sx x, v, hr => by simp only [RepAV, AV.froze] at hr ⊢; exact h.s x v hr
  | .dead, v, _ => by simp only [RepAV, AV.froze]
theorem RepAVs.froze {t0 : Nat} {o0 : LObj} {c c' : Cx} (h : c.LeBut t0 c') (h0 : getL c.lsts t0 = some o0) (hF : ∀ v, WholeAt c.μ t0 o0 v → Rep c'.A c'.w (.list o0.e) o0.xs [v]) : ∀ {l vs}, RepAVs c l vs → RepAVs c' (frozeL t0 o0 l) vs
  | [], _, hr => by simpa only [RepAVs, frozeL] using hr
  | x :: xs, _, hr => by
    simp only [RepAVs, frozeL] at hr ⊢
    obtain ⟨v, us, e, h1, h2⟩ := hr
    exact ⟨v, us, e, h1.froze h h0 hF, h2.froze h h0 hF⟩
end
theorem killL_map (t : Nat) : ∀ l, killL t l = l.map (AV.kill t)
  | [] => rfl
  | x :: xs => by simp [killL, killL_map t xs]
theorem frozeL_map (t : Nat) (o : LObj) : ∀ l, frozeL t o l = l.map (AV.froze t o)
  | [] => rfl
  | x :: xs => by simp [frozeL, frozeL_map t o xs]
theorem getL_map {f : List AV → List AV} (recs : List (Option (List AV))) (r : Nat) : getL (recs.map fun x => x.map f) r = (getL recs r).map f := by
  unfold getL
  rw [List.getElem?_map]
  cases recs[r]? with
  | none => rfl
  | some x => cases x <;> rfl

section
variable {A0 : Dom} {w0 w : World} {recs : List (Option (List AV))} {lsts : List (Option LObj)} {μ : Mu}

/-- A list of the call's own is changed as one likes: its other tellings are told no more. -/
theorem Mem.regrow (hm : Mem A0 w0 recs lsts w μ) {t : Nat} {o o' : LObj} (ht : getL lsts t = some o) {w' : World} {μ' : Mu}
    (hsize : w.heap.size ≤ w'.heap.size) (hbel : Below w0.heap.size w w') (hblk : ∀ k, k < w.heap.size → μ.at_ (.l t) ≠ some k → w'.heap[k]? = w.heap[k]?)
    (hat : ∀ x, x ≠ .l t → μ'.at_ x = μ.at_ x) (hcap : ∀ s, s ≠ t → μ'.cap s = μ.cap s) (hdp : μ'.dp = μ.dp)
    (hnew : ∀ b, μ'.at_ (.l t) = some b → w0.heap.size ≤ b ∧ b < w'.heap.size ∧ ((μ.at_ (.l t) = some b) ∨ w.heap.size ≤ b))
    (hl : LstAt ⟨Imm A0 w0 μ' w', w', μ', recs, lsts, A0.keep⟩ t o') (hu8 : o'.e = .int .u8 → ∀ b, μ'.at_ (.l t) = some b → ∃ vs, w'.heap[b]? = some (.cells vs GI.u8 (0, 0))) :
    Mem A0 w0 (recs.map fun r => r.map fun l => l.map (AV.kill t)) (lsts.set t (some o')) w' μ' ∧
    (cx A0 w0 recs lsts w μ).LeBut t (cx A0 w0 (recs.map fun r => r.map fun l => l.map (AV.kill t)) (lsts.set t (some o')) w' μ') := by
  have hImm : ∀ b, Imm A0 w0 μ w b → Imm A0 w0 μ' w' b := by
    intro b hb
    refine ⟨hb.1, Nat.lt_of_lt_of_le hb.2.1 hsize, fun x hx => ?_⟩
    by_cases e : x = .l t
    · subst e
      obtain ⟨h1, h2, h3⟩ := hnew b hx
      rcases h3 with h3 | h3
      · exact hb.2.2 _ h3
      · exact absurd hb.2.1 (by omega)
    · rw [hat x e] at hx; exact hb.2.2 x hx
  have hle : (cx A0 w0 recs lsts w μ).LeBut t (cx A0 w0 (recs.map fun r => r.map fun l => l.map (AV.kill t)) (lsts.set t (some o')) w' μ') :=
    ⟨hImm, fun b hb => hblk b hb.2.1 (fun e => hb.2.2 _ e), by simp [cx], by simp [cx],
     fun r hr hs => ⟨by simp only [cx, getL_map] at hs ⊢; simpa using hs, hat _ (by simp)⟩,
     fun s o1 hs hlt ho => by
       simp only [cx, getL_set (getL_lt ht)] at ho
       rw [if_neg hs] at ho
       exact ⟨o1, ho, rfl, rfl, hat _ (by simpa using hs), hcap s hs⟩, fun x v h => h.congr hdp (hat _ (by simp))⟩
  refine ⟨?_, hle⟩
  constructor
  · intro r cells h hk
    rw [getL_map, Option.map_eq_some_iff] at h
    obtain ⟨cells0, h0, rfl⟩ := h
    obtain ⟨b, vs, hb, ho, hv⟩ := hm.hrec r cells0 h0 (by cases hk0 : isMark cells0 with | false => rfl | true => obtain ⟨l, rfl⟩ := isMark_some hk0; simp [AV.kill, isMark] at hk)
    refine ⟨b, vs, by rw [hat _ (by simp)]; exact hb, ho.ext (hblk b (hm.live _ _ hb).2.1 fun e => ?_), ?_⟩
    · have := hm.inj _ _ _ e hb; cases this
    · rw [← killL_map]; exact hv.kill hle
  · intro s o1 h
    rw [getL_set (getL_lt ht)] at h
    split at h
    · rename_i e; subst e; cases h
      exact hl
    · rename_i hs
      rcases hm.hlst s o1 h with ⟨h1, h2⟩ | ⟨b, vs, hb, ho, hsz, hc, us, rest, e, hr⟩
      · exact .inl ⟨by show μ'.at_ _ = none; rw [hat _ (by simpa using hs)]; exact h1, h2⟩
      · have hb' : μ.at_ (.l s) = some b := hb
        refine .inr ⟨b, vs, by show μ'.at_ _ = some b; rw [hat _ (by simpa using hs)]; exact hb', ho.ext (hblk b (hm.live _ _ hb').2.1 fun e => ?_), ?_, ?_, us, rest, e, hr.imp fun x u hx => hx.mono hle.A hle.w⟩
        · have := hm.inj _ _ _ e hb'; cases this; exact hs rfl
        · show vs.size = μ'.cap s * _; rw [hcap s hs]; exact hsz
        · show _ ≤ μ'.cap s; rw [hcap s hs]; exact hc
  · intro x b hx
    by_cases e : x = .l t
    · subst e
      obtain ⟨h1, h2, h3⟩ := hnew b hx
      exact ⟨h1, h2, by simp [getL_set (getL_lt ht)]⟩
    · rw [hat x e] at hx
      obtain ⟨h1, h2, h3⟩ := hm.live x b hx
      refine ⟨h1, Nat.lt_of_lt_of_le h2 hsize, ?_⟩
      cases x with
      | r r => simp only [getL_map] at h3 ⊢; simpa using h3
      | n k => simp only [hdp]; exact h3
      | l s => simp only [getL_set (getL_lt ht)]; rw [if_neg (by simpa using e)]; exact h3
  · intro x y b hx hy
    by_cases e : x = .l t <;> by_cases e' : y = .l t
    · rw [e, e']
    · subst e
      rw [hat y e'] at hy
      rcases (hnew b hx).2.2 with h3 | h3
      · exact hm.inj _ _ _ h3 hy
      · exact absurd (hm.live _ _ hy).2.1 (by omega)
    · subst e'
      rw [hat x e] at hx
      rcases (hnew b hy).2.2 with h3 | h3
      · exact hm.inj _ _ _ hx h3
      · exact absurd (hm.live _ _ hx).2.1 (by omega)
    · rw [hat x e] at hx; rw [hat y e'] at hy; exact hm.inj _ _ _ hx hy
  · exact hm.below.trans hbel
  · intro b hb
    obtain ⟨h1, h2, h3⟩ := hm.fr b hb
    refine ⟨Nat.lt_of_lt_of_le h1 hsize, by rw [hblk b h1 (fun e => h3 _ e)]; exact h2, fun x hx => ?_⟩
    by_cases e : x = .l t
    · subst e
      rcases (hnew b hx).2.2 with h4 | h4
      · exact h3 _ h4
      · omega
    · rw [hat x e] at hx; exact h3 x hx
  · intro b hb
    obtain ⟨h1, h3⟩ := hm.xo b hb
    refine ⟨Nat.lt_of_lt_of_le h1 hsize, fun x hx => ?_⟩
    by_cases e : x = .l t
    · subst e
      rcases (hnew b hx).2.2 with h4 | h4
      · exact h3 _ h4
      · omega
    · rw [hat x e] at hx; exact h3 x hx
  · have := hm.np; simpa using this
  · intro r b hb
    obtain ⟨h1, h2⟩ := hm.pins r b hb
    exact ⟨h1, fun hs => by rw [hat _ (by simp)]; exact h2 (by rw [getL_map] at hs; simpa using hs)⟩
  · exact hm.gi
  · refine ⟨fun r' c' h1 h2 b hb => ?_, fun t' o2 h1 h2 b hb => ?_⟩
    · rw [getL_map, Option.map_eq_some_iff] at h1
      obtain ⟨c0, h0, rfl⟩ := h1
      rw [hat _ (by simp)] at hb
      obtain ⟨vs, hv⟩ := hm.bty.r r' c0 h0 (isBld_map kill_bld _ h2) b hb
      exact ⟨vs, (hblk b (hm.live _ _ hb).2.1 (fun e => by have := hm.inj _ _ _ hb e; cases this)).trans hv⟩
    · rw [getL_set (getL_lt ht)] at h1
      split at h1
      · rename_i e; subst e; cases h1
        exact hu8 h2 b hb
      · rename_i e
        rw [hat _ (by intro e2; cases e2; exact e rfl)] at hb
        obtain ⟨vs, hv⟩ := hm.bty.l t' o2 h1 h2 b hb
        exact ⟨vs, (hblk b (hm.live _ _ hb).2.1 (fun e2 => by have := hm.inj _ _ _ hb e2; cases this; exact e rfl)).trans hv⟩
  · intro r c h
    rw [getL_map, Option.map_eq_some_iff] at h
    obtain ⟨c0, h0, e⟩ := h
    obtain ⟨c1, rfl⟩ := markOf kill_mark e
    simp only [List.map_cons, List.cons.injEq] at e
    obtain ⟨_, rfl⟩ := e
    refine (hm.htop r c1 h0).imp (c := cx A0 w0 recs lsts w μ) hdp (hat _ (by simp)) (fun b hb => hblk b (hm.live _ _ hb).2.1 (fun e2 => by have := hm.inj _ _ _ hb e2; cases this)) fun us hu => ?_
    rw [← killL_map]; exact hu.kill hle
  · intro d hd
    rw [hdp] at hd
    exact (hm.deep d hd).mono (c := cx A0 w0 recs lsts w μ) ⟨hle.A, hle.w, fun k => hat _ (by simp), fun k b hb => hblk b (hm.live _ _ hb).2.1 (fun e2 => by have := hm.inj _ _ _ hb e2; cases this), hle.nr, fun r hr h => by rw [show (cx A0 w0 (recs.map fun r => r.map fun l => l.map (AV.kill t)) (lsts.set t (some o')) w' μ').μ.at_ (.r r) = μ'.at_ (.r r) from rfl, hat _ (by simp)]; exact h⟩

def Mu.drop (μ : Mu) (x : Loc) : Mu := { μ with at_ := fun y => if y = x then none else μ.at_ y }
theorem whole_rep {t : Nat} {o : LObj} (hl : LstAt (cx A0 w0 recs lsts w μ) t o) {v : Value} (hv : WholeAt μ t o v) {A' : Nat → Prop} (hA : ∀ b, Imm A0 w0 μ w b → A' b) (hb : ∀ b, μ.at_ (.l t) = some b → A' b) :
    Rep A' w (.list o.e) o.xs [v] := by
  rcases hl with ⟨h1, h2⟩ | ⟨b, vs, hb1, hown, hsz, hcap, us, rest, e, hr⟩
  · rcases hv with ⟨_, a, rfl⟩ | ⟨b, hb2, rfl⟩
    · rw [h2]; exact ⟨_, rfl, none, 0, rfl, Nat.le_refl _, .inl rfl⟩
    · rw [show (cx A0 w0 recs lsts w μ).μ.at_ (.l t) = μ.at_ (.l t) from rfl, hb2] at h1; cases h1
  · rcases hv with ⟨h3, rfl⟩ | ⟨b', hb2, rfl⟩
    · rw [show (cx A0 w0 recs lsts w μ).μ.at_ (.l t) = μ.at_ (.l t) from rfl, h3] at hb1; cases hb1
    · rw [show (cx A0 w0 recs lsts w μ).μ.at_ (.l t) = μ.at_ (.l t) from rfl, hb2] at hb1; cases hb1
      refine ⟨_, rfl, some ⟨b, 0, none⟩, _, rfl, hcap, .inr ⟨_, us, rfl, rfl, hb _ hb2, ?_, hr.imp fun x u hx => hx.mono hA fun _ _ => rfl⟩⟩
      have := hown.cells
      rw [e] at this
      have h2 := this.take us.length
      rwa [List.take_left] at h2

/-- A list of the call's own is closed. -/
theorem Sim.freeze1 {st : St} {tmps} (hs : Sim A0 w0 st tmps w μ) (t : Nat) : ∃ μ', Sim A0 w0 (st.freeze1 t) tmps w μ' ∧ (∀ {av v}, RepAV (cx A0 w0 st.recs st.lsts w μ) av v → RepAV (cx A0 w0 (st.freeze1 t).recs (st.freeze1 t).lsts w μ') (match getL st.lsts t with | some o => av.froze t o | none => av) v) ∧ ∀ b, Imm A0 w0 μ w b → Imm A0 w0 μ' w b := by
  unfold St.freeze1
  cases ht : getL st.lsts t with
  | none => exact ⟨μ, hs, fun h => h, fun _ h => h⟩
  | some o =>
    have hm := hs.mem
    have hl := hm.hlst t o ht
    have hImm : ∀ b, Imm A0 w0 μ w b → Imm A0 w0 (μ.drop (.l t)) w b := fun b hb => ⟨hb.1, hb.2.1, fun x hx => by
      simp only [Mu.drop] at hx
      split at hx
      · cases hx
      · exact hb.2.2 x hx⟩
    have hle : (cx A0 w0 st.recs st.lsts w μ).LeBut t (cx A0 w0 (st.recs.map fun r => r.map fun l => l.map (AV.froze t o)) (st.lsts.set t none) w (μ.drop (.l t))) :=
      ⟨hImm, fun b hb => rfl, by simp [cx], by simp [cx],
       fun r hr hs' => ⟨by simp only [cx, getL_map] at hs' ⊢; simpa using hs', by simp [cx, Mu.drop]⟩,
       fun s o1 hs' hlt ho => by
         simp only [cx, getL_set (getL_lt ht)] at ho
         rw [if_neg hs'] at ho
         exact ⟨o1, ho, rfl, rfl, by simp only [cx, Mu.drop]; rw [if_neg (by simpa using hs')], rfl⟩, fun x v h => RepSX.congr (μ := μ) (μ' := μ.drop (.l t)) rfl (by simp [Mu.drop]) h⟩
    have hF : ∀ v, WholeAt μ t o v → Rep (Imm A0 w0 (μ.drop (.l t)) w) w (.list o.e) o.xs [v] := fun v hv => whole_rep hl hv hImm fun b hb => by
      obtain ⟨h1, h2, _⟩ := hm.live _ _ hb
      refine ⟨hm.own_ok hb, h2, fun x hx => ?_⟩
      simp only [Mu.drop] at hx
      split at hx
      · cases hx
      · rename_i e; exact e (hm.inj _ _ _ hx hb)
    refine ⟨μ.drop (.l t), ⟨?_, ?_⟩, fun h => h.froze hle ht hF, hImm⟩
    · have := hs.slots.froze hle ht hF
      rw [frozeL_map] at this; exact this
    · constructor
      · intro r cells h hk
        simp only [St.mapAV] at h
        rw [getL_map, Option.map_eq_some_iff] at h
        obtain ⟨cells0, h0, rfl⟩ := h
        obtain ⟨b, vs, hb, ho, hv⟩ := hm.hrec r cells0 h0 (by cases hk0 : isMark cells0 with | false => rfl | true => obtain ⟨l, rfl⟩ := isMark_some hk0; simp [AV.froze, isMark] at hk)
        refine ⟨b, vs, by simp only [Mu.drop]; rw [if_neg (by simp)]; exact hb, ho, ?_⟩
        rw [← frozeL_map]; exact hv.froze hle ht hF
      · intro s o1 h
        rw [getL_set (getL_lt ht)] at h
        split at h
        · cases h
        · rename_i hs'
          rcases hm.hlst s o1 h with ⟨h1, h2⟩ | ⟨b, vs, hb, ho, hsz, hc, us, rest, e, hr⟩
          · exact .inl ⟨by simp only [cx, Mu.drop]; rw [if_neg (by simpa using hs')]; exact h1, h2⟩
          · exact .inr ⟨b, vs, by simp only [cx, Mu.drop]; rw [if_neg (by simpa using hs')]; exact hb, ho, hsz, hc, us, rest, e, hr.imp fun x u hx => hx.mono hImm fun _ _ => rfl⟩
      · intro x b hx
        simp only [Mu.drop] at hx
        split at hx
        · cases hx
        · rename_i e
          obtain ⟨h1, h2, h3⟩ := hm.live x b hx
          refine ⟨h1, h2, ?_⟩
          cases x with
          | n k => exact h3
          | r r => simp only [St.mapAV, getL_map] at h3 ⊢; simpa using h3
          | l s => simp only [getL_set (getL_lt ht)]; rw [if_neg (by simpa using e)]; exact h3
      · intro x y b hx hy
        simp only [Mu.drop] at hx hy
        split at hx <;> split at hy <;> first | cases hx | cases hy | exact hm.inj _ _ _ hx hy
      · exact hm.below
      · intro b hb
        obtain ⟨h1, h2, h3⟩ := hm.fr b hb
        refine ⟨h1, h2, fun x hx => ?_⟩
        simp only [Mu.drop] at hx
        split at hx
        · cases hx
        · exact h3 x hx
      · intro b hb
        obtain ⟨h1, h3⟩ := hm.xo b hb
        refine ⟨h1, fun x hx => ?_⟩
        simp only [Mu.drop] at hx
        split at hx
        · cases hx
        · exact h3 x hx
      · have := hm.np; simpa [St.mapAV] using this
      · intro r b hb
        obtain ⟨h1, h2⟩ := hm.pins r b hb
        exact ⟨h1, fun hs => by simp only [Mu.drop]; rw [if_neg (by simp)]; exact h2 (by simp only [St.mapAV, getL_map] at hs; simpa using hs)⟩
      · exact hm.gi
      · refine hm.bty.map (fun r' c' h1 h2 b hb => .inl ?_) (fun t' o2 h1 h2 b hb => .inl ?_) fun x b vs T _ hv => ⟨vs, hv⟩
        · simp only [St.mapAV] at h1
          rw [getL_map, Option.map_eq_some_iff] at h1
          obtain ⟨c0, h0, rfl⟩ := h1
          simp only [Mu.drop] at hb
          rw [if_neg (by simp)] at hb
          exact ⟨r', c0, h0, isBld_map froze_bld _ h2, hb⟩
        · simp only at h1
          rw [getL_set (getL_lt ht)] at h1
          split at h1
          · cases h1
          · rename_i e
            simp only [Mu.drop] at hb
            split at hb
            · cases hb
            · exact ⟨t', o2, h1, h2, hb⟩
      · intro r c h
        simp only [St.mapAV] at h
        rw [getL_map, Option.map_eq_some_iff] at h
        obtain ⟨c0, h0, e⟩ := h
        obtain ⟨c1, rfl⟩ := markOf froze_mark e
        simp only [List.map_cons, List.cons.injEq] at e
        obtain ⟨_, rfl⟩ := e
        refine (hm.htop r c1 h0).imp (c := cx A0 w0 st.recs st.lsts w μ) rfl (by simp [cx, Mu.drop]) (fun b hb => rfl) fun us hu => ?_
        rw [← frozeL_map]; exact hu.froze hle ht hF
      · intro d hd
        exact (hm.deep d hd).mono (c := cx A0 w0 st.recs st.lsts w μ) ⟨hle.A, hle.w, fun k => by simp [cx, Mu.drop], fun k b hb => rfl, hle.nr, fun r hr h => by simp only [cx, Mu.drop]; rw [if_neg (by simp)]; exact h⟩
theorem Sim.freeze {tmps} : ∀ (ts : List Nat) {st : St} {μ : Mu}, Sim A0 w0 st tmps w μ → ∃ μ', Sim A0 w0 (st.freeze ts) tmps w μ' ∧ ∀ b, Imm A0 w0 μ w b → Imm A0 w0 μ' w b
  | [], _, μ, hs => ⟨μ, hs, fun _ h => h⟩
  | t :: ts, st, μ, hs => by
    obtain ⟨μ1, h1, _, h3⟩ := hs.freeze1 t
    obtain ⟨μ2, h4, h5⟩ := Sim.freeze ts h1
    exact ⟨μ2, h4, fun b hb => h5 b (h3 b hb)⟩
end
end Go.Pe
