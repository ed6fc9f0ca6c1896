/- Texts of the proof, what is used of them: Mem2, Ops4, Deep, Ops5, Ops6, MapOps, MapEv, Abs. -/
import Derived.Deep.Upon
import Derived.Great.BuildSlice
import Derived.RangeFuncOwn
import Derived.Test.YtnbjnnnmoadpcaaGreatDoorPeZSReads1
section
namespace Go.Pe
open Go.RowKit
set_option linter.unusedSectionVars false
variable [GI]
set_option linter.unusedSimpArgs false
set_option linter.unusedVariables false

theorem setRow_size (w : World) (g : Nat) (cs : Array Value) : (w.setRow g cs).heap.size = w.heap.size := by simp [World.setRow]
theorem setRow_other (w : World) (g : Nat) (cs : Array Value) {k : Nat} (h : k ≠ g) : (w.setRow g cs).heap[k]? = w.heap[k]? := by
  simp only [World.setRow, Array.getElem?_modify]; rw [if_neg (by omega)]
theorem Own.setRow {w : World} {b : Nat} {vs : Array Value} (h : Own w b vs) (cs : Array Value) : Own (w.setRow b cs) b cs := by
  obtain ⟨el, e⟩ := h; exact ⟨el, setRow_heap w b vs cs el _ e⟩
theorem Below.setRow {B : Nat} {a w : World} (h : Below B a w) {g : Nat} (hg : B ≤ g) (cs : Array Value) : Below B a (w.setRow g cs) :=
  h.trans ⟨rfl, rfl, rfl, by rw [setRow_size]; exact Nat.le_refl _, fun k hk => setRow_other w g cs (by omega)⟩

section
variable {A0 : Dom} {w0 w : World} {recs : List (Option (List AV))} {lsts : List (Option LObj)} {μ : Mu}

theorem imm_setRow {b : Nat} {cs : Array Value} {k : Nat} : Imm A0 w0 μ (w.setRow b cs) k ↔ Imm A0 w0 μ w k := by
  unfold Imm; rw [setRow_size]

theorem le_setRec {r b : Nat} {cells' : List AV} {cs : Array Value} (hr : r < recs.length) (hlv : (getL recs r).isSome = true) (hb : μ.at_ (.r r) = some b) :
    (cx A0 w0 recs lsts w μ).Le (cx A0 w0 (recs.set r (some cells')) lsts (w.setRow b cs) μ) :=
  ⟨fun _ h => imm_setRow.2 h, fun k hk => setRow_other w b cs (fun e => hk.2.2 (.r r) (by rw [e]; exact hb)), by simp [cx], Nat.le_refl _,
   fun q hq hs => ⟨by
     simp only [cx, getL_set hr] at hs ⊢
     split at hs
     · rename_i e; subst e; exact hlv
     · exact hs, rfl⟩,
   fun t o' ht ho => ⟨o', ho, rfl, rfl, rfl, rfl⟩, fun _ _ h => h⟩
theorem row_kept {b k : Nat} {cs vs : Array Value} {T : TypeId} (h : w.heap[k]? = some (.cells vs T (0, 0))) : ∃ vs', (w.setRow b cs).heap[k]? = some (.cells vs' T (0, 0)) := by
  by_cases e : k = b
  · subst e; exact ⟨cs, setRow_heap w k vs cs T _ h⟩
  · exact ⟨vs, (setRow_other w b cs e).trans h⟩
theorem isBld_some {l : List AV} (h : isBld l = true) : ∃ r l', l = .bld r :: l' := by
  unfold isBld at h; split at h
  · exact ⟨_, _, rfl⟩
  · cases h
theorem kill_bld {t r : Nat} {x : AV} (h : x.kill t = .bld r) : x = .bld r := by
  cases x <;> simp only [AV.kill] at h <;> (try split at h) <;> first | exact h | cases h
theorem froze_bld {t r : Nat} {o : LObj} {x : AV} (h : x.froze t o = .bld r) : x = .bld r := by
  cases x <;> simp only [AV.froze] at h <;> (repeat' split at h) <;> first | exact h | cases h
theorem kill_mark {t : Nat} {x : AV} (h : x.kill t = .sx .mark) : x = .sx .mark := by
  cases x <;> simp only [AV.kill] at h <;> (try split at h) <;> first | exact h | cases h
theorem froze_mark {t : Nat} {o : LObj} {x : AV} (h : x.froze t o = .sx .mark) : x = .sx .mark := by
  cases x <;> simp only [AV.froze] at h <;> (repeat' split at h) <;> first | exact h | cases h
theorem markOf {f : AV → AV} (hf : ∀ {x}, f x = .sx .mark → x = .sx .mark) {c : List AV} {l : List AV} (h : c.map f = .sx .mark :: l) : ∃ c', c = .sx .mark :: c' := by
  cases c with
  | nil => cases h
  | cons x c =>
    simp only [List.map_cons, List.cons.injEq] at h
    exact ⟨c, by rw [hf h.1]⟩
theorem isBld_map {f : AV → AV} (hf : ∀ {x r}, f x = .bld r → x = .bld r) (l : List AV) (h : isBld (l.map f) = true) : isBld l = true := by
  obtain ⟨r, l', e⟩ := isBld_some h
  cases l with
  | nil => cases e
  | cons x l =>
    rw [List.map_cons, List.cons.injEq] at e
    rw [hf e.1]; rfl
theorem Mem.setRec (hm : Mem A0 w0 recs lsts w μ) {r b : Nat} {cells cells' : List AV} {vs cs : Array Value} (hr : getL recs r = some cells) (hb : μ.at_ (.r r) = some b) (ho : Own w b vs)
    (hv : RepAVs (cx A0 w0 recs lsts w μ) cells' cs.toList) (hbl : isBld cells' = true → isBld cells = true) : Mem A0 w0 (recs.set r (some cells')) lsts (w.setRow b cs) μ := by
  have hnm : ∀ l, cells' ≠ .sx .mark :: l := by
    rintro l rfl
    obtain ⟨v, vs, _, h, _⟩ := hv.cons'
    simp only [RepAV, RepSX] at h
  have hoth : ∀ k b', μ.at_ (.n k) = some b' → (w.setRow b cs).heap[b']? = w.heap[b']? := fun k b' hb' => setRow_other w b cs fun e => by
    subst e; have := hm.inj _ _ _ hb' hb; cases this
  have hle := le_setRec (A0 := A0) (w0 := w0) (w := w) (recs := recs) (lsts := lsts) (μ := μ) (cells' := cells') (cs := cs) (getL_lt hr) (by rw [hr]; rfl) hb
  constructor
  · intro q cells0 h hk
    rw [getL_set (getL_lt hr)] at h
    split at h
    · rename_i e; subst e; cases h
      exact ⟨b, cs, hb, ho.setRow cs, hv.mono hle⟩
    · rename_i e
      obtain ⟨b', vs', hb', ho', hv'⟩ := hm.hrec q cells0 h hk
      refine ⟨b', vs', hb', ho'.ext (setRow_other w b cs fun e' => e ?_), hv'.mono hle⟩
      subst e'; have := hm.inj _ _ _ hb' hb; cases this; rfl
  · intro t o ht
    rcases hm.hlst t o ht with h1 | ⟨b', vs', hb', ho', hsz, hcap, us', rest, e, hr'⟩
    · exact .inl h1
    · refine .inr ⟨b', vs', hb', ho'.ext (setRow_other w b cs fun e' => ?_), hsz, hcap, us', rest, e, hr'.imp fun x u hx => hx.mono hle.A hle.w⟩
      subst e'; have := hm.inj _ _ _ hb' hb; cases this
  · intro x b' hx
    obtain ⟨h1, h2, h3⟩ := hm.live x b' hx
    refine ⟨h1, by rw [setRow_size]; exact h2, ?_⟩
    cases x with
    | r q => simp only [getL_set (getL_lt hr)]; split <;> simp_all
    | n k => exact h3
    | l t => exact h3
  · exact hm.inj
  · exact Below.setRow hm.below (hm.live _ _ hb).1 cs
  · intro k hk
    obtain ⟨h1, h2, h3⟩ := hm.fr k hk
    exact ⟨by rw [setRow_size]; exact h1, by rw [setRow_other w b cs (fun e => h3 _ (by rw [e]; exact hb))]; exact h2, h3⟩
  · intro k hk
    obtain ⟨h1, h3⟩ := hm.xo k hk
    exact ⟨by rw [setRow_size]; exact h1, h3⟩
  · have := hm.np; simpa using this
  · intro q k hk
    obtain ⟨h1, h2⟩ := hm.pins q k hk
    refine ⟨h1, fun hs => h2 ?_⟩
    rw [getL_set (getL_lt hr)] at hs
    split at hs
    · rename_i e; subst e; rw [hr]; rfl
    · exact hs
  · exact hm.gi
  · refine hm.bty.map (fun r' c' h1 h2 b' hb' => .inl ?_) (fun t' o' h1 h2 b' hb' => .inl ⟨t', o', h1, h2, hb'⟩) fun x b' vs' T _ h => row_kept h
    rw [getL_set (getL_lt hr)] at h1
    split at h1
    · rename_i e; subst e; cases h1
      exact ⟨_, cells, hr, hbl h2, hb'⟩
    · exact ⟨r', c', h1, h2, hb'⟩
  · intro q c h
    rw [getL_set (getL_lt hr)] at h
    split at h
    · exact absurd (Option.some.inj h) (hnm c)
    · exact (hm.htop q c h).imp (c := cx A0 w0 recs lsts w μ) rfl rfl (fun b' hb' => hoth 0 b' hb') fun us hu => hu.mono hle
  · intro d hd
    exact (hm.deep d hd).mono (c := cx A0 w0 recs lsts w μ) ⟨hle.A, hle.w, fun k => rfl, fun k b' hb' => hoth k b' hb', hle.nr, fun r hr h => h⟩
  · exact hm.pinl.le hle

theorem Mem.setTop (hm : Mem A0 w0 recs lsts w μ) {r b : Nat} {d : DP} {cells cells' : List AV} {vs cs : Array Value} {u' : List Value} (hr : getL recs r = some (.sx .mark :: cells)) (hd : μ.dp = some d) (hdt : d.top = some r) (hb : μ.at_ (.n 0) = some b) (ho : Own w b vs)
    (hv : RepAVs (cx A0 w0 recs lsts w μ) cells' u') (hu : u'.length = 5) (hlt : d.fs.length * 5 + 5 ≤ vs.size) (hcs : cs.toList = vs.toList.take (d.fs.length * 5) ++ u' ++ vs.toList.drop (d.fs.length * 5 + 5)) :
    Mem A0 w0 (recs.set r (some (.sx .mark :: cells'))) lsts (w.setRow b cs) μ ∧ (cx A0 w0 recs lsts w μ).Le (cx A0 w0 (recs.set r (some (.sx .mark :: cells'))) lsts (w.setRow b cs) μ) := by
  have hrl := getL_lt hr
  have hle : (cx A0 w0 recs lsts w μ).Le (cx A0 w0 (recs.set r (some (.sx .mark :: cells'))) lsts (w.setRow b cs) μ) :=
    ⟨fun _ h => imm_setRow.2 h, fun k hk => setRow_other w b cs (fun e => hk.2.2 (.n 0) (by rw [e]; exact hb)), by simp [cx], Nat.le_refl _,
     fun q hq hs => ⟨by
       simp only [cx, getL_set hrl] at hs ⊢
       split at hs
       · rename_i e; subst e; rw [hr]; rfl
       · exact hs, rfl⟩,
     fun t o' ht ho => ⟨o', ho, rfl, rfl, rfl, rfl⟩, fun _ _ h => h⟩
  have hoth : ∀ x b', x ≠ .n 0 → μ.at_ x = some b' → (w.setRow b cs).heap[b']? = w.heap[b']? := fun x b' hx hb' => setRow_other w b cs fun e => by
    subst e; exact hx (hm.inj _ _ _ hb' hb)
  have hsz : cs.size = vs.size := by
    have := congrArg List.length hcs
    simp only [List.length_append, List.length_take, List.length_drop, Array.length_toList, hu] at this
    omega
  refine ⟨?_, hle⟩
  constructor
  · intro q cells0 h hk
    rw [getL_set hrl] at h
    split at h
    · cases h; simp [isMark] at hk
    · obtain ⟨b', vs', hb', ho', hv'⟩ := hm.hrec q cells0 h hk
      exact ⟨b', vs', hb', ho'.ext (hoth _ _ (by simp) hb'), hv'.mono hle⟩
  · intro t o ht
    rcases hm.hlst t o ht with h1 | ⟨b', vs', hb', ho', hsz, hcap, us', rest, e, hr'⟩
    · exact .inl h1
    · exact .inr ⟨b', vs', hb', ho'.ext (hoth _ _ (by simp) hb'), hsz, hcap, us', rest, e, hr'.imp fun x u hx => hx.mono hle.A hle.w⟩
  · intro x b' hx
    obtain ⟨h1, h2, h3⟩ := hm.live x b' hx
    refine ⟨h1, by rw [setRow_size]; exact h2, ?_⟩
    cases x with
    | r q => simp only [getL_set hrl]; split <;> simp_all
    | n k => exact h3
    | l t => exact h3
  · exact hm.inj
  · exact Below.setRow hm.below (hm.live _ _ hb).1 cs
  · intro k hk
    obtain ⟨h1, h2, h3⟩ := hm.fr k hk
    exact ⟨by rw [setRow_size]; exact h1, by rw [setRow_other w b cs (fun e => h3 _ (by rw [e]; exact hb))]; exact h2, h3⟩
  · intro k hk
    obtain ⟨h1, h3⟩ := hm.xo k hk
    exact ⟨by rw [setRow_size]; exact h1, h3⟩
  · have := hm.np; simpa using this
  · intro q k hk
    obtain ⟨h1, h2⟩ := hm.pins q k hk
    refine ⟨h1, fun hs => h2 ?_⟩
    rw [getL_set hrl] at hs
    split at hs
    · rename_i e; subst e; rw [hr]; rfl
    · exact hs
  · exact hm.gi
  · refine hm.bty.map (fun r' c' h1 h2 b' hb' => .inl ?_) (fun t' o' h1 h2 b' hb' => .inl ⟨t', o', h1, h2, hb'⟩) fun x b' vs' T _ h => row_kept h
    rw [getL_set hrl] at h1
    split at h1
    · cases h1; simp [isBld] at h2
    · exact ⟨r', c', h1, h2, hb'⟩
  · intro q c h
    rw [getL_set hrl] at h
    split at h
    · rename_i e; subst e; cases h
      refine ⟨d, b, cs, hd, hdt, hb, ho.setRow cs, ?_⟩
      have hl : (vs.toList.take (d.fs.length * 5)).length = d.fs.length * 5 := by simp; omega
      rw [hcs, List.append_assoc, List.drop_append_of_le_length (by omega), List.drop_of_length_le (by omega), List.nil_append, List.take_append_of_le_length (by omega), List.take_of_length_le (by omega)]
      exact hv.mono hle
    · rename_i e
      obtain ⟨d', b', vs', h1, h2, _⟩ := hm.htop q c h
      rw [show (cx A0 w0 recs lsts w μ).μ.dp = μ.dp from rfl, hd] at h1; cases h1
      rw [hdt] at h2; cases h2; exact absurd rfl e
  · intro d' hd'
    rw [hd] at hd'; cases hd'
    have hdeep := hm.deep d hd
    have h1 : (cx A0 w0 recs lsts w μ).Deep1 (cx A0 w0 (recs.set r (some (.sx .mark :: cells'))) lsts (w.setRow b cs) μ) := ⟨hle.A, hle.w, fun _ _ => rfl, fun k b' hk hb' => hoth _ _ (by simpa using hk) hb'⟩
    refine ⟨fun q hq => ⟨Nat.lt_of_lt_of_le (hdeep.top q hq).1 hle.nr, (hdeep.top q hq).2⟩, hdeep.lim, ?_⟩
    rcases hdeep.row with ⟨h2, _⟩ | ⟨b', vs', pre, rest, h2, h3, h4, h5, h6, h7⟩
    · rw [show (cx A0 w0 recs lsts w μ).μ.at_ (.n 0) = μ.at_ (.n 0) from rfl, hb] at h2; cases h2
    · rw [show (cx A0 w0 recs lsts w μ).μ.at_ (.n 0) = μ.at_ (.n 0) from rfl, hb] at h2; cases h2
      obtain rfl : vs = vs' := by
        obtain ⟨_, e1⟩ := ho; obtain ⟨_, e2⟩ := h3
        rw [show (cx A0 w0 recs lsts w μ).w = w from rfl, e1] at e2; cases e2; rfl
      have hpl := h7.length
      refine .inr ⟨b, cs, pre, u' ++ vs.toList.drop (d.fs.length * 5 + 5), hb, ho.setRow cs, by rw [hsz]; exact h4, h5, ?_, h7.mono h1⟩
      rw [hcs, h6, List.take_append_of_le_length (by omega), List.take_of_length_le (by omega), List.append_assoc]
  · exact hm.pinl.le hle

theorem le_setLst {q b : Nat} {o : LObj} {xs' : List o.e.den} {cs : Array Value} (hp : o.e.isMap = false) (hq : getL lsts q = some o) (hl : xs'.length = o.xs.length) (hb : μ.at_ (.l q) = some b) :
    (cx A0 w0 recs lsts w μ).Le (cx A0 w0 recs (lsts.set q (some ⟨o.e, xs'⟩)) (w.setRow b cs) μ) :=
  ⟨fun _ h => imm_setRow.2 h, fun k hk => setRow_other w b cs (fun e => hk.2.2 (.l q) (by rw [e]; exact hb)), Nat.le_refl _, by simp [cx],
   fun r hr hs => ⟨hs, rfl⟩,
   fun t o' ht ho => by
     simp only [cx, getL_set (getL_lt hq)] at ho
     split at ho
     · rename_i e; subst e; cases ho; exact ⟨o, hq, rfl, by simp only [LObj.len, hp]; exact hl, rfl, rfl⟩
     · exact ⟨o', ho, rfl, rfl, rfl, rfl⟩, fun _ _ h => h⟩
theorem Mem.setLst (hm : Mem A0 w0 recs lsts w μ) {q b : Nat} {o : LObj} {xs' : List o.e.den} {vs cs : Array Value} (hp : o.e.isMap = false) (hq : getL lsts q = some o) (hl : xs'.length = o.xs.length) (hb : μ.at_ (.l q) = some b) (ho : Own w b vs)
    (hsz : cs.size = vs.size) (hvsz : vs.size = μ.cap q * o.e.size) (hcap : o.xs.length ≤ μ.cap q) {us rest : List Value} (hcs : cs.toList = us ++ rest) (hr : RepAll (Rep (Imm A0 w0 μ w) w o.e) xs' us) :
    Mem A0 w0 recs (lsts.set q (some ⟨o.e, xs'⟩)) (w.setRow b cs) μ := by
  have hle := le_setLst (A0 := A0) (w0 := w0) (w := w) (recs := recs) (lsts := lsts) (μ := μ) (cs := cs) hp hq hl hb
  have hoth : ∀ k b', μ.at_ (.n k) = some b' → (w.setRow b cs).heap[b']? = w.heap[b']? := fun k b' hb' => setRow_other w b cs fun e => by
    subst e; have := hm.inj _ _ _ hb' hb; cases this
  constructor
  · intro r cells0 h hk
    obtain ⟨b', vs', hb', ho', hv'⟩ := hm.hrec r cells0 h hk
    refine ⟨b', vs', hb', ho'.ext (setRow_other w b cs fun e' => ?_), hv'.mono hle⟩
    subst e'; have := hm.inj _ _ _ hb' hb; cases this
  · intro t o' ht
    rw [getL_set (getL_lt hq)] at ht
    split at ht
    · rename_i e; subst e; cases ht
      exact .inr ⟨b, cs, hb, (OwnL.plain hp).2 (ho.setRow cs), by rw [hsz]; exact hvsz, by show xs'.length ≤ _; rw [hl]; exact hcap, us, rest, hcs, .plain hp (hr.imp fun x u hx => hx.mono hle.A hle.w)⟩
    · rename_i e
      rcases hm.hlst t o' ht with h1 | ⟨b', vs', hb', ho', hsz', hcap', us', rest', e1, hr'⟩
      · exact .inl h1
      · refine .inr ⟨b', vs', hb', ho'.ext (setRow_other w b cs fun e' => e ?_), hsz', hcap', us', rest', e1, hr'.imp fun x u hx => hx.mono hle.A hle.w⟩
        subst e'; have := hm.inj _ _ _ hb' hb; cases this; rfl
  · intro x b' hx
    obtain ⟨h1, h2, h3⟩ := hm.live x b' hx
    refine ⟨h1, by rw [setRow_size]; exact h2, ?_⟩
    cases x with
    | r q => exact h3
    | n k => exact h3
    | l t => simp only [getL_set (getL_lt hq)]; split <;> simp_all
  · exact hm.inj
  · exact Below.setRow hm.below (hm.live _ _ hb).1 cs
  · intro k hk
    obtain ⟨h1, h2, h3⟩ := hm.fr k hk
    exact ⟨by rw [setRow_size]; exact h1, by rw [setRow_other w b cs (fun e => h3 _ (by rw [e]; exact hb))]; exact h2, h3⟩
  · intro k hk
    obtain ⟨h1, h3⟩ := hm.xo k hk
    exact ⟨by rw [setRow_size]; exact h1, h3⟩
  · exact hm.np
  · exact hm.pins
  · exact hm.gi
  · refine hm.bty.map (fun r' c' h1 h2 b' hb' => .inl ⟨r', c', h1, h2, hb'⟩) (fun t' o' h1 h2 b' hb' => .inl ?_) fun x b' vs' T _ h => row_kept h
    rw [getL_set (getL_lt hq)] at h1
    split at h1
    · rename_i e; subst e; cases h1
      exact ⟨_, o, hq, h2, hb'⟩
    · exact ⟨t', o', h1, h2, hb'⟩
  · intro q c h
    exact (hm.htop q c h).imp (c := cx A0 w0 recs lsts w μ) rfl rfl (fun b' hb' => hoth 0 b' hb') fun us hu => hu.mono hle
  · intro d hd
    exact (hm.deep d hd).mono (c := cx A0 w0 recs lsts w μ) ⟨hle.A, hle.w, fun k => rfl, fun k b' hb' => hoth k b' hb', hle.nr, fun r hr h => h⟩
  · exact hm.pinl.le hle
end

structure Cx.LeBut (t0 : Nat) (c c' : Cx) : Prop where
  A : ∀ b, c.A b → c'.A b
  w : ∀ b, c.A b → c'.w.heap[b]? = c.w.heap[b]?
  nr : c.recs.length ≤ c'.recs.length
  nl : c.lsts.length ≤ c'.lsts.length
  r : ∀ r, r < c.recs.length → (getL c'.recs r).isSome = true → (getL c.recs r).isSome = true ∧ c'.μ.at_ (.r r) = c.μ.at_ (.r r)
  l : ∀ t o', t ≠ t0 → t < c.lsts.length → getL c'.lsts t = some o' → ∃ o, getL c.lsts t = some o ∧ o'.e = o.e ∧ o'.len = o.len ∧ c'.μ.at_ (.l t) = c.μ.at_ (.l t) ∧ c'.μ.capOf o' t = c.μ.capOf o t
  s : ∀ x v, RepSX c.μ c.keep x v → RepSX c'.μ c'.keep x v

mutual
theorem RepAV.kill {t0 : Nat} {c c' : Cx} (h : c.LeBut t0 c') : ∀ {av v}, RepAV c av v → RepAV c' (av.kill t0) v
  | .d t x, v, hr => by simp only [RepAV, AV.kill] at hr ⊢; exact hr.mono h.A h.w
  | .full e x, v, hr => by simp only [RepAV, AV.kill] at hr ⊢; exact ⟨hr.1, hr.2.mono h.A h.w⟩
  | .nilS, v, hr => by simpa only [RepAV, AV.kill] using hr
  | .whole t, v, hr => by
    simp only [AV.kill]
    split
    · simp only [RepAV]
    · rename_i hne
      simp only [RepAV] at hr ⊢
      refine ⟨Nat.lt_of_lt_of_le hr.1 h.nl, hr.2.1, fun o' ho' => ?_⟩
      obtain ⟨o, ho, he, hl, hμ, hcap⟩ := h.l t o' hne hr.1 ho'
      exact (hr.2.2 o ho).tr he hl hμ hcap
  | .ptr r off, v, hr => by
    simp only [RepAV, AV.kill] at hr ⊢
    refine ⟨Nat.lt_of_lt_of_le hr.1 h.nr, hr.2.1, fun hs => ?_⟩
    obtain ⟨h1, h2⟩ := h.r r hr.1 hs
    rw [h2]; exact hr.2.2 h1
  | .bld r, v, hr => by
    simp only [RepAV, AV.kill] at hr ⊢
    refine ⟨Nat.lt_of_lt_of_le hr.1 h.nr, hr.2.1, fun hs => ?_⟩
    obtain ⟨h1, h2⟩ := h.r r hr.1 hs
    rw [h2]; exact hr.2.2 h1
  | .eptr t i off, v, hr => by
    simp only [AV.kill]
    split
    · simp only [RepAV]
    · rename_i hne
      simp only [RepAV] at hr ⊢
      refine ⟨Nat.lt_of_lt_of_le hr.1 h.nl, hr.2.1, fun o' ho' => ?_⟩
      obtain ⟨o, ho, he, hl, hμ, hcap⟩ := h.l t o' hne hr.1 ho'
      rw [hμ, he]; exact hr.2.2 o ho
  | .pim cells, v, hr => by
    simp only [RepAV, AV.kill] at hr ⊢
    obtain ⟨ad, us, e, hsp, hA, hc, hu⟩ := hr
    exact ⟨ad, us, e, hsp, h.A _ hA, hc.mono (h.w _ hA), hu.kill h⟩
  | .agg l, v, hr => by simp only [RepAV, AV.kill] at hr ⊢; obtain ⟨us, e, hu⟩ := hr; exact ⟨us, e, hu.kill h⟩
  | .ifc q l, v, hr => by simp only [RepAV, AV.kill] at hr ⊢; obtain ⟨us, e, hu⟩ := hr; exact ⟨us, e, hu.kill h⟩
  | .tup l, v, hr => by simp only [RepAV, AV.kill] at hr ⊢; obtain ⟨us, e, hu⟩ := hr; exact ⟨us, e, hu.kill h⟩
  | .fn f a b, v, hr => by simp only [RepAV, AV.kill] at hr ⊢; obtain ⟨a', b', e, h1, h2⟩ := hr; exact ⟨a', b', e, h1.kill h, h2.kill h⟩
  | .nilP, v, hr => by simpa only [RepAV, AV.kill] using hr
  | .sx x, v, hr => by simp only [RepAV, AV.kill] at hr ⊢; exact h.s x v hr
  | .dead, v, _ => by simp only [RepAV, AV.kill]
theorem RepAVs.kill {t0 : Nat} {c c' : Cx} (h : c.LeBut t0 c') : ∀ {l vs}, RepAVs c l vs → RepAVs c' (killL t0 l) vs
  | [], _, hr => by simpa only [RepAVs, killL] using hr
  | x :: xs, _, hr => by
    simp only [RepAVs, killL] at hr ⊢
    obtain ⟨v, us, e, h1, h2⟩ := hr
    exact ⟨v, us, e, h1.kill h, h2.kill h⟩
end
mutual
theorem RepAV.froze {t0 : Nat} {o0 : LObj} {c c' : Cx} (h : c.LeBut t0 c') (h0 : getL c.lsts t0 = some o0) (hF : o0.e.isMap = false → ∀ v, WholeAt c.μ t0 o0 v → Rep c'.A c'.w (.list o0.e) o0.xs [v]) : ∀ {av v}, RepAV c av v → RepAV c' (av.froze t0 o0) v
  | .d t x, v, hr => by simp only [RepAV, AV.froze] at hr ⊢; exact hr.mono h.A h.w
  | .full e x, v, hr => by simp only [RepAV, AV.froze] at hr ⊢; exact ⟨hr.1, hr.2.mono h.A h.w⟩
  | .nilS, v, hr => by simpa only [RepAV, AV.froze] using hr
  | .whole t, v, hr => by
    simp only [AV.froze]
    split
    · rename_i e; subst e
      split
      · simp only [RepAV]
      · rename_i hp
        simp only [RepAV] at hr ⊢
        exact hF hp v (hr.2.2 o0 h0)
    · rename_i hne
      simp only [RepAV] at hr ⊢
      refine ⟨Nat.lt_of_lt_of_le hr.1 h.nl, hr.2.1, fun o' ho' => ?_⟩
      obtain ⟨o, ho, he, hl, hμ, hcap⟩ := h.l t o' hne hr.1 ho'
      exact (hr.2.2 o ho).tr he hl hμ hcap
  | .ptr r off, v, hr => by
    simp only [RepAV, AV.froze] at hr ⊢
    refine ⟨Nat.lt_of_lt_of_le hr.1 h.nr, hr.2.1, fun hs => ?_⟩
    obtain ⟨h1, h2⟩ := h.r r hr.1 hs
    rw [h2]; exact hr.2.2 h1
  | .bld r, v, hr => by
    simp only [RepAV, AV.froze] at hr ⊢
    refine ⟨Nat.lt_of_lt_of_le hr.1 h.nr, hr.2.1, fun hs => ?_⟩
    obtain ⟨h1, h2⟩ := h.r r hr.1 hs
    rw [h2]; exact hr.2.2 h1
  | .eptr t i off, v, hr => by
    simp only [AV.froze]
    split
    · simp only [RepAV]
    · rename_i hne
      simp only [RepAV] at hr ⊢
      refine ⟨Nat.lt_of_lt_of_le hr.1 h.nl, hr.2.1, fun o' ho' => ?_⟩
      obtain ⟨o, ho, he, hl, hμ, hcap⟩ := h.l t o' hne hr.1 ho'
      rw [hμ, he]; exact hr.2.2 o ho
  | .pim cells, v, hr => by
    simp only [RepAV, AV.froze] at hr ⊢
    obtain ⟨ad, us, e, hsp, hA, hc, hu⟩ := hr
    exact ⟨ad, us, e, hsp, h.A _ hA, hc.mono (h.w _ hA), hu.froze h h0 hF⟩
  | .agg l, v, hr => by simp only [RepAV, AV.froze] at hr ⊢; obtain ⟨us, e, hu⟩ := hr; exact ⟨us, e, hu.froze h h0 hF⟩
  | .ifc q l, v, hr => by simp only [RepAV, AV.froze] at hr ⊢; obtain ⟨us, e, hu⟩ := hr; exact ⟨us, e, hu.froze h h0 hF⟩
  | .tup l, v, hr => by simp only [RepAV, AV.froze] at hr ⊢; obtain ⟨us, e, hu⟩ := hr; exact ⟨us, e, hu.froze h h0 hF⟩
  | .fn f a b, v, hr => by simp only [RepAV, AV.froze] at hr ⊢; obtain ⟨a', b', e, h1, h2⟩ := hr; exact ⟨a', b', e, h1.froze h h0 hF, h2.froze h h0 hF⟩
  | .nilP, v, hr => by simpa only [RepAV, AV.froze] using hr
  | .sx x, v, hr => by simp only [RepAV, AV.froze] at hr ⊢; exact h.s x v hr
  | .dead, v, _ => by simp only [RepAV, AV.froze]
theorem RepAVs.froze {t0 : Nat} {o0 : LObj} {c c' : Cx} (h : c.LeBut t0 c') (h0 : getL c.lsts t0 = some o0) (hF : o0.e.isMap = false → ∀ v, WholeAt c.μ t0 o0 v → Rep c'.A c'.w (.list o0.e) o0.xs [v]) : ∀ {l vs}, RepAVs c l vs → RepAVs c' (frozeL t0 o0 l) vs
  | [], _, hr => by simpa only [RepAVs, frozeL] using hr
  | x :: xs, _, hr => by
    simp only [RepAVs, frozeL] at hr ⊢
    obtain ⟨v, us, e, h1, h2⟩ := hr
    exact ⟨v, us, e, h1.froze h h0 hF, h2.froze h h0 hF⟩
end
theorem killL_map (t : Nat) : ∀ l, killL t l = l.map (AV.kill t)
  | [] => rfl
  | x :: xs => by simp [killL, killL_map t xs]
theorem frozeL_map (t : Nat) (o : LObj) : ∀ l, frozeL t o l = l.map (AV.froze t o)
  | [] => rfl
  | x :: xs => by simp [frozeL, frozeL_map t o xs]
theorem getL_map {f : List AV → List AV} (recs : List (Option (List AV))) (r : Nat) : getL (recs.map fun x => x.map f) r = (getL recs r).map f := by
  unfold getL
  rw [List.getElem?_map]
  cases recs[r]? with
  | none => rfl
  | some x => cases x <;> rfl

section
variable {A0 : Dom} {w0 w : World} {recs : List (Option (List AV))} {lsts : List (Option LObj)} {μ : Mu}

theorem Mem.regrow (hm : Mem A0 w0 recs lsts w μ) {t : Nat} {o o' : LObj} (hp : o.e.isMap = false) (hoe : o'.e = o.e) (ht : getL lsts t = some o) {w' : World} {μ' : Mu}
    (hsize : w.heap.size ≤ w'.heap.size) (hbel : Below w0.heap.size w w') (hblk : ∀ k, k < w.heap.size → μ.at_ (.l t) ≠ some k → w'.heap[k]? = w.heap[k]?)
    (hat : ∀ x, x ≠ .l t → μ'.at_ x = μ.at_ x) (hcap : ∀ s, s ≠ t → μ'.cap s = μ.cap s) (hdp : μ'.dp = μ.dp)
    (hnew : ∀ b, μ'.at_ (.l t) = some b → w0.heap.size ≤ b ∧ b < w'.heap.size ∧ ((μ.at_ (.l t) = some b) ∨ w.heap.size ≤ b))
    (hl : LstAt ⟨Imm A0 w0 μ' w', w', μ', recs, lsts, A0.keep⟩ t o') (hu8 : o'.e = .int .u8 → ∀ b, μ'.at_ (.l t) = some b → ∃ vs, w'.heap[b]? = some (.cells vs GI.u8 (0, 0))) :
    Mem A0 w0 (recs.map fun r => r.map fun l => l.map (AV.kill t)) (lsts.set t (some o')) w' μ' ∧
    (cx A0 w0 recs lsts w μ).LeBut t (cx A0 w0 (recs.map fun r => r.map fun l => l.map (AV.kill t)) (lsts.set t (some o')) w' μ') := by
  have hImm : ∀ b, Imm A0 w0 μ w b → Imm A0 w0 μ' w' b := by
    intro b hb
    refine ⟨hb.1, Nat.lt_of_lt_of_le hb.2.1 hsize, fun x hx => ?_⟩
    by_cases e : x = .l t
    · subst e
      obtain ⟨h1, h2, h3⟩ := hnew b hx
      rcases h3 with h3 | h3
      · exact hb.2.2 _ h3
      · exact absurd hb.2.1 (by omega)
    · rw [hat x e] at hx; exact hb.2.2 x hx
  have hle : (cx A0 w0 recs lsts w μ).LeBut t (cx A0 w0 (recs.map fun r => r.map fun l => l.map (AV.kill t)) (lsts.set t (some o')) w' μ') :=
    ⟨hImm, fun b hb => hblk b hb.2.1 (fun e => hb.2.2 _ e), by simp [cx], by simp [cx],
     fun r hr hs => ⟨by simp only [cx, getL_map] at hs ⊢; simpa using hs, hat _ (by simp)⟩,
     fun s o1 hs hlt ho => by
       simp only [cx, getL_set (getL_lt ht)] at ho
       rw [if_neg hs] at ho
       exact ⟨o1, ho, rfl, rfl, hat _ (by simpa using hs), Mu.capOf_eq (hcap s hs) _⟩, fun x v h => h.congr hdp (hat _ (by simp))⟩
  refine ⟨?_, hle⟩
  constructor
  · intro r cells h hk
    rw [getL_map, Option.map_eq_some_iff] at h
    obtain ⟨cells0, h0, rfl⟩ := h
    obtain ⟨b, vs, hb, ho, hv⟩ := hm.hrec r cells0 h0 (by cases hk0 : isMark cells0 with | false => rfl | true => obtain ⟨l, rfl⟩ := isMark_some hk0; simp [AV.kill, isMark] at hk)
    refine ⟨b, vs, by rw [hat _ (by simp)]; exact hb, ho.ext (hblk b (hm.live _ _ hb).2.1 fun e => ?_), ?_⟩
    · have := hm.inj _ _ _ e hb; cases this
    · rw [← killL_map]; exact hv.kill hle
  · intro s o1 h
    rw [getL_set (getL_lt ht)] at h
    split at h
    · rename_i e; subst e; cases h
      exact hl
    · rename_i hs
      rcases hm.hlst s o1 h with ⟨h1, h2⟩ | ⟨b, vs, hb, ho, hsz, hc, us, rest, e, hr⟩
      · exact .inl ⟨by show μ'.at_ _ = none; rw [hat _ (by simpa using hs)]; exact h1, h2⟩
      · have hb' : μ.at_ (.l s) = some b := hb
        refine .inr ⟨b, vs, by show μ'.at_ _ = some b; rw [hat _ (by simpa using hs)]; exact hb', ho.ext (hblk b (hm.live _ _ hb').2.1 fun e => ?_), ?_, ?_, us, rest, e, hr.imp fun x u hx => hx.mono hle.A hle.w⟩
        · have := hm.inj _ _ _ e hb'; cases this; exact hs rfl
        · show vs.size = μ'.cap s * _; rw [hcap s hs]; exact hsz
        · show _ ≤ μ'.cap s; rw [hcap s hs]; exact hc
  · intro x b hx
    by_cases e : x = .l t
    · subst e
      obtain ⟨h1, h2, h3⟩ := hnew b hx
      exact ⟨h1, h2, by simp [getL_set (getL_lt ht)]⟩
    · rw [hat x e] at hx
      obtain ⟨h1, h2, h3⟩ := hm.live x b hx
      refine ⟨h1, Nat.lt_of_lt_of_le h2 hsize, ?_⟩
      cases x with
      | r r => simp only [getL_map] at h3 ⊢; simpa using h3
      | n k => simp only [hdp]; exact h3
      | l s => simp only [getL_set (getL_lt ht)]; rw [if_neg (by simpa using e)]; exact h3
  · intro x y b hx hy
    by_cases e : x = .l t <;> by_cases e' : y = .l t
    · rw [e, e']
    · subst e
      rw [hat y e'] at hy
      rcases (hnew b hx).2.2 with h3 | h3
      · exact hm.inj _ _ _ h3 hy
      · exact absurd (hm.live _ _ hy).2.1 (by omega)
    · subst e'
      rw [hat x e] at hx
      rcases (hnew b hy).2.2 with h3 | h3
      · exact hm.inj _ _ _ hx h3
      · exact absurd (hm.live _ _ hx).2.1 (by omega)
    · rw [hat x e] at hx; rw [hat y e'] at hy; exact hm.inj _ _ _ hx hy
  · exact hm.below.trans hbel
  · intro b hb
    obtain ⟨h1, h2, h3⟩ := hm.fr b hb
    refine ⟨Nat.lt_of_lt_of_le h1 hsize, by rw [hblk b h1 (fun e => h3 _ e)]; exact h2, fun x hx => ?_⟩
    by_cases e : x = .l t
    · subst e
      rcases (hnew b hx).2.2 with h4 | h4
      · exact h3 _ h4
      · omega
    · rw [hat x e] at hx; exact h3 x hx
  · intro b hb
    obtain ⟨h1, h3⟩ := hm.xo b hb
    refine ⟨Nat.lt_of_lt_of_le h1 hsize, fun x hx => ?_⟩
    by_cases e : x = .l t
    · subst e
      rcases (hnew b hx).2.2 with h4 | h4
      · exact h3 _ h4
      · omega
    · rw [hat x e] at hx; exact h3 x hx
  · have := hm.np; simpa using this
  · intro r b hb
    obtain ⟨h1, h2⟩ := hm.pins r b hb
    exact ⟨h1, fun hs => by rw [hat _ (by simp)]; exact h2 (by rw [getL_map] at hs; simpa using hs)⟩
  · exact hm.gi
  · refine ⟨fun r' c' h1 h2 b hb => ?_, fun t' o2 h1 h2 b hb => ?_⟩
    · rw [getL_map, Option.map_eq_some_iff] at h1
      obtain ⟨c0, h0, rfl⟩ := h1
      rw [hat _ (by simp)] at hb
      obtain ⟨vs, hv⟩ := hm.bty.r r' c0 h0 (isBld_map kill_bld _ h2) b hb
      exact ⟨vs, (hblk b (hm.live _ _ hb).2.1 (fun e => by have := hm.inj _ _ _ hb e; cases this)).trans hv⟩
    · rw [getL_set (getL_lt ht)] at h1
      split at h1
      · rename_i e; subst e; cases h1
        exact hu8 h2 b hb
      · rename_i e
        rw [hat _ (by intro e2; cases e2; exact e rfl)] at hb
        obtain ⟨vs, hv⟩ := hm.bty.l t' o2 h1 h2 b hb
        exact ⟨vs, (hblk b (hm.live _ _ hb).2.1 (fun e2 => by have := hm.inj _ _ _ hb e2; cases this; exact e rfl)).trans hv⟩
  · intro r c h
    rw [getL_map, Option.map_eq_some_iff] at h
    obtain ⟨c0, h0, e⟩ := h
    obtain ⟨c1, rfl⟩ := markOf kill_mark e
    simp only [List.map_cons, List.cons.injEq] at e
    obtain ⟨_, rfl⟩ := e
    refine (hm.htop r c1 h0).imp (c := cx A0 w0 recs lsts w μ) hdp (hat _ (by simp)) (fun b hb => hblk b (hm.live _ _ hb).2.1 (fun e2 => by have := hm.inj _ _ _ hb e2; cases this)) fun us hu => ?_
    rw [← killL_map]; exact hu.kill hle
  · intro d hd
    rw [hdp] at hd
    exact (hm.deep d hd).mono (c := cx A0 w0 recs lsts w μ) ⟨hle.A, hle.w, fun k => hat _ (by simp), fun k b hb => hblk b (hm.live _ _ hb).2.1 (fun e2 => by have := hm.inj _ _ _ hb e2; cases this), hle.nr, fun r hr h => by rw [show (cx A0 w0 (recs.map fun r => r.map fun l => l.map (AV.kill t)) (lsts.set t (some o')) w' μ').μ.at_ (.r r) = μ'.at_ (.r r) from rfl, hat _ (by simp)]; exact h⟩
  · refine hm.pinl.of (by have := hm.pinl.1; simpa using this) fun s o1 hlt h hmp => ?_
    rw [getL_set (getL_lt ht)] at h
    split at h
    · rename_i e; subst e; cases h
      rw [hoe, hp] at hmp; cases hmp
    · rename_i hs
      exact ⟨o1, h, hmp, hat _ (by simpa using hs)⟩

def Mu.drop (μ : Mu) (x : Loc) : Mu := { μ with at_ := fun y => if y = x then none else μ.at_ y }
theorem whole_rep {t : Nat} {o : LObj} (hp : o.e.isMap = false) (hl : LstAt (cx A0 w0 recs lsts w μ) t o) {v : Value} (hv : WholeAt μ t o v) {A' : Nat → Prop} (hA : ∀ b, Imm A0 w0 μ w b → A' b) (hb : ∀ b, μ.at_ (.l t) = some b → A' b) :
    Rep A' w (.list o.e) o.xs [v] := by
  rcases (LstAt.plain hp).1 hl with ⟨h1, h2⟩ | ⟨b, vs, hb1, hown, hsz, hcap, us, rest, e, hr⟩
  · rcases (WholeAt.plain hp).1 hv with ⟨_, rfl⟩ | ⟨b, hb2, rfl⟩
    · rw [h2]; exact ⟨_, rfl, none, 0, rfl, Nat.le_refl _, .inl rfl⟩
    · rw [show (cx A0 w0 recs lsts w μ).μ.at_ (.l t) = μ.at_ (.l t) from rfl, hb2] at h1; cases h1
  · rcases (WholeAt.plain hp).1 hv with ⟨h3, rfl⟩ | ⟨b', hb2, rfl⟩
    · rw [show (cx A0 w0 recs lsts w μ).μ.at_ (.l t) = μ.at_ (.l t) from rfl, h3] at hb1; cases hb1
    · rw [show (cx A0 w0 recs lsts w μ).μ.at_ (.l t) = μ.at_ (.l t) from rfl, hb2] at hb1; cases hb1
      refine ⟨_, rfl, some ⟨b, 0, none⟩, _, rfl, hcap, .inr ⟨_, us, rfl, rfl, hb _ hb2, ?_, hr.imp fun x u hx => hx.mono hA fun _ _ => rfl⟩⟩
      have := hown.cells
      rw [e] at this
      have h2 := this.take us.length
      rwa [List.take_left] at h2

theorem Sim.freeze1 {st : St} {tmps} (hs : Sim A0 w0 st tmps w μ) (t : Nat) : ∃ μ', Sim A0 w0 (st.freeze1 t) tmps w μ' ∧ (∀ {av v}, RepAV (cx A0 w0 st.recs st.lsts w μ) av v → RepAV (cx A0 w0 (st.freeze1 t).recs (st.freeze1 t).lsts w μ') (match getL st.lsts t with | some o => av.froze t o | none => av) v) ∧ ∀ b, Imm A0 w0 μ w b → Imm A0 w0 μ' w b := by
  unfold St.freeze1
  cases ht : getL st.lsts t with
  | none => exact ⟨μ, hs, fun h => h, fun _ h => h⟩
  | some o =>
    have hm := hs.mem
    have hl := hm.hlst t o ht
    have hImm : ∀ b, Imm A0 w0 μ w b → Imm A0 w0 (μ.drop (.l t)) w b := fun b hb => ⟨hb.1, hb.2.1, fun x hx => by
      simp only [Mu.drop] at hx
      split at hx
      · cases hx
      · exact hb.2.2 x hx⟩
    have hle : (cx A0 w0 st.recs st.lsts w μ).LeBut t (cx A0 w0 (st.recs.map fun r => r.map fun l => l.map (AV.froze t o)) (st.lsts.set t none) w (μ.drop (.l t))) :=
      ⟨hImm, fun b hb => rfl, by simp [cx], by simp [cx],
       fun r hr hs' => ⟨by simp only [cx, getL_map] at hs' ⊢; simpa using hs', by simp [cx, Mu.drop]⟩,
       fun s o1 hs' hlt ho => by
         simp only [cx, getL_set (getL_lt ht)] at ho
         rw [if_neg hs'] at ho
         exact ⟨o1, ho, rfl, rfl, by simp only [cx, Mu.drop]; rw [if_neg (by simpa using hs')], rfl⟩, fun x v h => RepSX.congr (μ := μ) (μ' := μ.drop (.l t)) rfl (by simp [Mu.drop]) h⟩
    have hF : o.e.isMap = false → ∀ v, WholeAt μ t o v → Rep (Imm A0 w0 (μ.drop (.l t)) w) w (.list o.e) o.xs [v] := fun hp v hv => whole_rep hp hl hv hImm fun b hb => by
      obtain ⟨h1, h2, _⟩ := hm.live _ _ hb
      refine ⟨hm.own_ok hb, h2, fun x hx => ?_⟩
      simp only [Mu.drop] at hx
      split at hx
      · cases hx
      · rename_i e; exact e (hm.inj _ _ _ hx hb)
    refine ⟨μ.drop (.l t), ⟨?_, ?_⟩, fun h => h.froze hle ht hF, hImm⟩
    · have := hs.slots.froze hle ht hF
      rw [frozeL_map] at this; exact this
    · constructor
      · intro r cells h hk
        simp only [St.mapAV] at h
        rw [getL_map, Option.map_eq_some_iff] at h
        obtain ⟨cells0, h0, rfl⟩ := h
        obtain ⟨b, vs, hb, ho, hv⟩ := hm.hrec r cells0 h0 (by cases hk0 : isMark cells0 with | false => rfl | true => obtain ⟨l, rfl⟩ := isMark_some hk0; simp [AV.froze, isMark] at hk)
        refine ⟨b, vs, by simp only [Mu.drop]; rw [if_neg (by simp)]; exact hb, ho, ?_⟩
        rw [← frozeL_map]; exact hv.froze hle ht hF
      · intro s o1 h
        rw [getL_set (getL_lt ht)] at h
        split at h
        · cases h
        · rename_i hs'
          rcases hm.hlst s o1 h with ⟨h1, h2⟩ | ⟨b, vs, hb, ho, hsz, hc, us, rest, e, hr⟩
          · exact .inl ⟨by simp only [cx, Mu.drop]; rw [if_neg (by simpa using hs')]; exact h1, h2⟩
          · exact .inr ⟨b, vs, by simp only [cx, Mu.drop]; rw [if_neg (by simpa using hs')]; exact hb, ho, hsz, hc, us, rest, e, hr.imp fun x u hx => hx.mono hImm fun _ _ => rfl⟩
      · intro x b hx
        simp only [Mu.drop] at hx
        split at hx
        · cases hx
        · rename_i e
          obtain ⟨h1, h2, h3⟩ := hm.live x b hx
          refine ⟨h1, h2, ?_⟩
          cases x with
          | n k => exact h3
          | r r => simp only [St.mapAV, getL_map] at h3 ⊢; simpa using h3
          | l s => simp only [getL_set (getL_lt ht)]; rw [if_neg (by simpa using e)]; exact h3
      · intro x y b hx hy
        simp only [Mu.drop] at hx hy
        split at hx <;> split at hy <;> first | cases hx | cases hy | exact hm.inj _ _ _ hx hy
      · exact hm.below
      · intro b hb
        obtain ⟨h1, h2, h3⟩ := hm.fr b hb
        refine ⟨h1, h2, fun x hx => ?_⟩
        simp only [Mu.drop] at hx
        split at hx
        · cases hx
        · exact h3 x hx
      · intro b hb
        obtain ⟨h1, h3⟩ := hm.xo b hb
        refine ⟨h1, fun x hx => ?_⟩
        simp only [Mu.drop] at hx
        split at hx
        · cases hx
        · exact h3 x hx
      · have := hm.np; simpa [St.mapAV] using this
      · intro r b hb
        obtain ⟨h1, h2⟩ := hm.pins r b hb
        exact ⟨h1, fun hs => by simp only [Mu.drop]; rw [if_neg (by simp)]; exact h2 (by simp only [St.mapAV, getL_map] at hs; simpa using hs)⟩
      · exact hm.gi
      · refine hm.bty.map (fun r' c' h1 h2 b hb => .inl ?_) (fun t' o2 h1 h2 b hb => .inl ?_) fun x b vs T _ hv => ⟨vs, hv⟩
        · simp only [St.mapAV] at h1
          rw [getL_map, Option.map_eq_some_iff] at h1
          obtain ⟨c0, h0, rfl⟩ := h1
          simp only [Mu.drop] at hb
          rw [if_neg (by simp)] at hb
          exact ⟨r', c0, h0, isBld_map froze_bld _ h2, hb⟩
        · simp only at h1
          rw [getL_set (getL_lt ht)] at h1
          split at h1
          · cases h1
          · rename_i e
            simp only [Mu.drop] at hb
            split at hb
            · cases hb
            · exact ⟨t', o2, h1, h2, hb⟩
      · intro r c h
        simp only [St.mapAV] at h
        rw [getL_map, Option.map_eq_some_iff] at h
        obtain ⟨c0, h0, e⟩ := h
        obtain ⟨c1, rfl⟩ := markOf froze_mark e
        simp only [List.map_cons, List.cons.injEq] at e
        obtain ⟨_, rfl⟩ := e
        refine (hm.htop r c1 h0).imp (c := cx A0 w0 st.recs st.lsts w μ) rfl (by simp [cx, Mu.drop]) (fun b hb => rfl) fun us hu => ?_
        rw [← frozeL_map]; exact hu.froze hle ht hF
      · intro d hd
        exact (hm.deep d hd).mono (c := cx A0 w0 st.recs st.lsts w μ) ⟨hle.A, hle.w, fun k => by simp [cx, Mu.drop], fun k b hb => rfl, hle.nr, fun r hr h => by simp only [cx, Mu.drop]; rw [if_neg (by simp)]; exact h⟩
      · refine hm.pinl.of (by have := hm.pinl.1; simpa using this) fun s o1 hlt h hmp => ?_
        rw [getL_set (getL_lt ht)] at h
        split at h
        · cases h
        · rename_i hs'
          exact ⟨o1, h, hmp, by simp only [Mu.drop]; rw [if_neg (by simpa using hs')]⟩
theorem Sim.freeze {tmps} : ∀ (ts : List Nat) {st : St} {μ : Mu}, Sim A0 w0 st tmps w μ → ∃ μ', Sim A0 w0 (st.freeze ts) tmps w μ' ∧ ∀ b, Imm A0 w0 μ w b → Imm A0 w0 μ' w b
  | [], _, μ, hs => ⟨μ, hs, fun _ h => h⟩
  | t :: ts, st, μ, hs => by
    obtain ⟨μ1, h1, _, h3⟩ := hs.freeze1 t
    obtain ⟨μ2, h4, h5⟩ := Sim.freeze ts h1
    exact ⟨μ2, h4, fun b hb => h5 b (h3 b hb)⟩
end
end Go.Pe
end
section
namespace Go.Pe
open Go.RowKit
set_option linter.unusedSectionVars false
variable [GI]
set_option linter.unusedSimpArgs false
set_option linter.unusedVariables false

theorem RepV.one {A w x us} (h : RepV A w x us) : ∀ u ∈ us, u.oneCell' = true := by
  obtain ⟨iv, kv, rfl, ⟨a, cap, rfl, _⟩, ⟨a', cap', rfl, _⟩⟩ := h.cells
  intro u hu; simp at hu; rcases hu with rfl | rfl | rfl | rfl | rfl <;> rfl
theorem Rep.one {A w} : ∀ {t : Ty} {x : t.den} {us}, Rep A w t x us → ∀ u ∈ us, u.oneCell' = true
  | .bool, _, _, h, u, hu | .int _, _, _, h, u, hu | .str, _, _, h, u, hu => by simp only [Rep] at h; subst h; simp at hu; subst hu; rfl
  | .unit, _, _, h, u, hu => by simp only [Rep] at h; subst h; cases hu
  | .list _, _, _, ⟨v, e, a, cap, e2, _⟩, u, hu => by subst e; simp at hu; subst hu; subst e2; rfl
  | .prod _ _, _, _, ⟨u1, u2, e, h1, h2⟩, u, hu => by
    subst e
    rcases List.mem_append.1 hu with h | h
    · exact Rep.one h1 u h
    · exact Rep.one h2 u h
  | .value, _, _, h, u, hu => RepV.one h u hu
theorem RepAll.one {A w} {t : Ty} : ∀ {xs : List t.den} {us}, RepAll (Rep A w t) xs us → ∀ u ∈ us, u.oneCell' = true
  | [], _, h, u, hu => by simp only [RepAll] at h; subst h; cases hu
  | x :: xs, _, ⟨u1, u2, e, h1, h2⟩, u, hu => by
    subst e
    rcases List.mem_append.1 hu with h | h
    · exact Rep.one h1 u h
    · exact RepAll.one h2 u h

section
variable {P : Program} {A0 : Dom} {w0 w : World} {st : St} {tmps : Array Value} {a : Act} {μ : Mu} {S : Type} {o : Oper}

theorem below_drew (w : World) : Below w.heap.size w w.drew := (Below.refl _ w).drew

theorem rec_new (hs : Sim A0 w0 st tmps w μ) {cells : List AV} {us : Array Value} (hr : RepAVs (cx A0 w0 st.recs st.lsts w μ) cells us.toList) (el : TypeId) (hnb : isBld cells = false) {bb : Bool} (hbb : bb = true → el = GI.bt) :
    Post A0 w0 tmps (.ptr st.recs.length 0) { st with recs := st.recs ++ [some (bldZero bb st.recs.length cells)] } (.pointer (some ⟨w.heap.size, 0, none⟩)) (w.alloc (.cells us el)) := by
  have key : ∀ cells', (∀ c : Cx, c.recs.length = st.recs.length + 1 → c.μ.at_ (.r st.recs.length) = some w.heap.size → RepAVs c cells us.toList → RepAVs c cells' us.toList) → (isBld cells' = true → el = GI.bt) →
      Post A0 w0 tmps (.ptr st.recs.length 0) { st with recs := st.recs ++ [some cells'] } (.pointer (some ⟨w.heap.size, 0, none⟩)) (w.alloc (.cells us el)) := fun cells' h1 h2 =>
    ⟨_, by simp only [RepAV, cx]; exact ⟨by simp, rfl, fun _ => ⟨w.heap.size, by simp [Mu.upd], rfl⟩⟩, hs.slots.mono (le_newRec _ _),
      hs.mem.newRec' el (h1 _ (by simp [cx]) (by simp [cx, Mu.upd]) (hr.mono (le_newRec _ _))) h2⟩
  unfold bldZero
  split
  · split
    · refine key _ (fun c h1 h2 h3 => ?_) fun _ => hbb rfl
      obtain ⟨v1, vs, e, h4, h5⟩ := h3.cons'
      rw [e]
      refine RepAVs.cons ?_ h5
      simp only [RepAV] at h4 ⊢
      subst h4
      exact ⟨by omega, rfl, fun _ => ⟨_, h2, .inl rfl⟩⟩
    · exact key _ (fun _ _ _ h => h) fun h => by rw [hnb] at h; cases h
  · exact key _ (fun _ _ _ h => h) fun h => by rw [hnb] at h; cases h
theorem consts_nobld {c : Cx} {l : List AV} {us : List Value} (h : ∀ c : Cx, RepAVs c l us) : isBld l = false := by
  cases hb : isBld l with
  | false => rfl
  | true =>
    obtain ⟨r, l', rfl⟩ := isBld_some hb
    obtain ⟨v, vs, _, h1, _⟩ := (h { c with recs := [] }).cons'
    simp only [RepAV] at h1
    exact absurd h1.1 (by simp)
theorem splice_bld {cells new : List AV} {off : Nat} (hc : cellsOk new = true) (h : isBld (splice cells off new) = true) : isBld cells = true := by
  obtain ⟨r, l', e⟩ := isBld_some h
  unfold splice at e
  cases off with
  | zero =>
    simp only [List.take_zero, List.nil_append, Nat.zero_add] at e
    cases new with
    | nil => simp only [List.nil_append, List.length_nil, List.drop_zero] at e; rw [e]; rfl
    | cons x new =>
      rw [List.cons_append, List.cons.injEq] at e
      rw [e.1] at hc
      simp [cellsOk, AV.isCell] at hc
  | succ off =>
    cases cells with
    | nil =>
      simp only [List.take_nil, List.nil_append, List.drop_nil, List.append_nil] at e
      rw [e] at hc
      simp [cellsOk, AV.isCell] at hc
    | cons x cells =>
      rw [List.take_succ_cons, List.cons_append, List.cons_append, List.cons.injEq] at e
      rw [e.1]; rfl
theorem cells_nobld {l : List AV} (h : cellsOk l = true) : isBld l = false := by
  cases hb : isBld l with
  | false => rfl
  | true =>
    obtain ⟨r, l', rfl⟩ := isBld_some hb
    simp [cellsOk, AV.isCell] at h

variable {ε : Env} (hε : EnvOk P ε)
include hε

theorem alloc_run (hs : Sim A0 w0 st tmps w μ) {t : Nat} {i : TI} (hi : ε.ti t = some i) :
    ∃ v w', (Instr.alloc t true (.tuple #[])).run P w = .ok v w' ∧ Post A0 w0 tmps (.ptr st.recs.length 0) { st with recs := st.recs ++ [some (bldZero i.bld st.recs.length i.zero)] } v w' := by
  have hti := hε.ti t i hi
  obtain ⟨inf, hinf, hsz, hby, z, hz, hzl, hzr⟩ := hti.info
  have hzero : RepAVs (cx A0 w0 st.recs st.lsts w μ) i.zero z.cells.toList := hzr _
  exact ⟨_, _, by simp [Instr.alloc, zeroValue, typeInfo, hinf, hz, newVar, newRow], rec_new hs hzero t (consts_nobld (c := cx A0 w0 st.recs st.lsts w μ) hzr) hti.bld⟩
theorem box_run (hs : Sim A0 w0 st tmps w μ) {t : Nat} {i : TI} (hi : ε.ti t = some i) {x : AV} {vx : Value} (hx : RepAV (cx A0 w0 st.recs st.lsts w μ) x vx) (hc : cellsOk x.cells = true) :
    ∃ v w', (Instr.box t vx).run P w = .ok v w' ∧ Post A0 w0 tmps (.ptr st.recs.length 0) { st with recs := st.recs ++ [some (bldZero i.bld st.recs.length x.cells)] } v w' :=
  ⟨_, _, by simp [Instr.box, newVar, newRow], rec_new hs (cells_rep hc hx).1 t (cells_nobld hc) (hε.ti t i hi).bld⟩

omit hε in
theorem storeVar_run {t : Nat} {i : TI} (hti : TiOk P t i) {b off : Nat} {vs : Array Value} {vv : Value} {el : TypeId} (ho : w.heap[b]? = some (.cells vs el (0, 0))) (hsz : vv.cells.size = i.size) (hfit : off + i.size ≤ vs.size) (hone : ∀ u ∈ vv.cells.toList, u.oneCell' = true) :
    (Instr.storeAt t (.pointer (some ⟨b, off, none⟩)) vv).run P w = .ok () (w.setRow b (vs.toList.take off ++ vv.cells.toList ++ vs.toList.drop (off + vv.cells.toList.length)).toArray) := by
  have hst := run_storeCells_at P b off el vv.cells.toList 0 vs w ho (by simp; omega) hone
  simp only [Nat.add_zero] at hst
  simp [Instr.storeAt, Instr.sureAddr, storeVar, sizeOf_run hti, hsz, hst]

theorem store_run (hs : Sim A0 w0 st a.tmps w μ) {t : Nat} {x y : Operand} (K : St → Option S) (r : S) (h : evStore ε st t x y K = some r) :
    ∃ st', K st' = some r ∧ ∃ w' μ', (Instr.storeAt t (a.eval x) (a.eval y)).run P w = .ok () w' ∧ Sim A0 w0 st' a.tmps w' μ' := by
  unfold evStore at h
  split at h
  · cases h
  · rename_i i hi
    have hti := hε.ti t i hi
    split at h
    · rename_i r' off hx
      split at h
      · rename_i hc
        split at h
        · rename_i cells hcells
          split at h
          · rename_i hfit
            have hxr := ev_rep hs.slots x
            rw [hx] at hxr
            simp only [RepAV, cx] at hxr
            obtain ⟨b, hb, hxv⟩ := hxr.2.2 (by rw [hcells]; rfl)
            obtain ⟨vs, ho, hv⟩ := hs.mem.rec_at hcells hb
            obtain ⟨hcr, hone⟩ := cells_rep hc.2 (ev_rep hs.slots y)
            obtain ⟨el, hel⟩ := ho
            have hl1 := hcr.length
            have hl2 := hv.length
            simp only [Array.length_toList] at hl1 hl2
            refine ⟨_, h, w.setRow b (vs.toList.take off ++ (a.eval y).cells.toList ++ vs.toList.drop (off + (a.eval y).cells.toList.length)).toArray, μ, ?_, ?_⟩
            · rw [hxv]; exact storeVar_run hti hel (by rw [hl1]; exact hc.1) (by omega) hone
            · have hcells' := hv.splice (off := off) hcr
              have hle := le_setRec (A0 := A0) (w0 := w0) (w := w) (recs := st.recs) (lsts := st.lsts) (μ := μ) (cells' := splice cells off (st.ev y).cells) (cs := (vs.toList.take off ++ (a.eval y).cells.toList ++ vs.toList.drop (off + (a.eval y).cells.toList.length)).toArray) (getL_lt hcells) (by rw [hcells]; rfl) hb
              exact ⟨hs.slots.mono hle, hs.mem.setRec hcells hb ⟨el, hel⟩ (by simpa using hcells') (splice_bld hc.2)⟩
          · cases h
        · cases h
      · cases h
    · rename_i q0 n0 off0 hx0
      obtain ⟨μ1, hs1, _⟩ := Sim.freeze (st.ev y).wholes hs
      generalize st.freeze (st.ev y).wholes = st1 at h hs1
      simp only at h
      split at h
      · rename_i hc
        split at h
        · rename_i q n off hx
          split at h
          · rename_i o ho
            cases hpl : o.e.isMap with
            | true => rw [hpl] at h; cases h
            | false =>
            rw [hpl] at h
            simp only [Option.bind_eq_some_iff] at h
            obtain ⟨y0, hy0, h⟩ := h
            split at h
            · rename_i hfit
              simp only [Option.bind_eq_some_iff] at h
              obtain ⟨z, hz, h⟩ := h
              split at h
              · rename_i hz2
                have hxr := ev_rep hs1.slots x
                rw [hx] at hxr
                simp only [RepAV, cx] at hxr
                obtain ⟨b, hb, hxv⟩ := hxr.2.2 o ho
                obtain ⟨hcr, hone⟩ := cells_rep hc.2 (ev_rep hs1.slots y)
                rcases (LstAt.plain hpl).1 (hs1.mem.hlst q o ho) with ⟨_, hnil⟩ | ⟨b', vs, hb', hown, hsz, hcap, us, rest, e1, hr⟩
                · rw [hnil] at hy0; simp at hy0
                · rw [show (cx A0 w0 st1.recs st1.lsts w μ1).μ.at_ (.l q) = μ1.at_ (.l q) from rfl, hb] at hb'; cases hb'
                  obtain ⟨p, u, q', e2, hp, hu⟩ := hr.get (sz := o.e.size) (fun x u h => h.length) n y0 hy0
                  have hup := unpack_rep (c := cx A0 w0 st1.recs st1.lsts w μ1) hu
                  have hul := hup.length
                  have hcl := hcr.length
                  have huz := hu.length
                  have hsp := hup.splice (off := off) hcr
                  obtain ⟨u1, u2, e3, hz1, hz3⟩ := packTo_rep (lsts := []) (A' := Imm A0 w0 μ1 w) (fun _ h => h) (fun t o v h => no_lists t o v h) hz hsp
                  rw [hz2] at hz3
                  have hu2 := hz3.nil; subst hu2
                  rw [List.append_nil] at e3
                  rw [← e3] at hz1
                  have hz1l := hz1.length
                  have hlt : n < o.xs.length := (List.getElem?_eq_some_iff.1 hy0).1
                  have hset := hr.set (sz := o.e.size) (fun x u h => h.length) n z.1 p u _ q' hlt e2 hp huz hz1
                  obtain ⟨el, hel⟩ := hown
                  have hlen : vs.toList.length = vs.size := Array.length_toList
                  have hcs : vs.toList.take (n * o.e.size + off) ++ (a.eval y).cells.toList ++ vs.toList.drop (n * o.e.size + off + (a.eval y).cells.toList.length) =
                      (p ++ (u.take off ++ (a.eval y).cells.toList ++ u.drop (off + (a.eval y).cells.toList.length) ++ q')) ++ rest := by
                    rw [e1, e2, ← hp]
                    simp only [List.append_assoc]
                    rw [List.take_append, List.take_of_length_le (l := p) (by omega), Nat.add_sub_cancel_left, List.take_append_of_le_length (by omega), List.append_assoc]
                    congr 2; congr 1
                    rw [Nat.add_assoc, List.drop_append, List.drop_of_length_le (l := p) (by omega), List.nil_append, Nat.add_sub_cancel_left, List.drop_append_of_le_length (by omega)]
                  have hsize : ((vs.toList.take (n * o.e.size + off) ++ (a.eval y).cells.toList ++ vs.toList.drop (n * o.e.size + off + (a.eval y).cells.toList.length)).toArray).size = vs.size := by
                    have h1 := congrArg List.length e1
                    have h2 := congrArg List.length e2
                    have h3 := hc.1
                    simp only [List.length_append, Array.length_toList] at h1 h2 hcl
                    rw [← hp]
                    simp only [List.size_toArray, List.length_append, List.length_take, List.length_drop, Array.length_toList]
                    omega
                  refine ⟨_, h, w.setRow b (vs.toList.take (n * o.e.size + off) ++ (a.eval y).cells.toList ++ vs.toList.drop (n * o.e.size + off + (a.eval y).cells.toList.length)).toArray, μ1, ?_, ?_⟩
                  · rw [hxv]
                    refine storeVar_run hti hel (by have := hc.1; rw [← hcl] at this; simpa using this) ?_ hone
                    have h1 := congrArg List.length e1
                    have h2 := congrArg List.length e2
                    simp only [List.length_append] at h1 h2
                    omega
                  · have hle := le_setLst (A0 := A0) (w0 := w0) (w := w) (recs := st1.recs) (lsts := st1.lsts) (μ := μ1) (cs := (vs.toList.take (n * o.e.size + off) ++ (a.eval y).cells.toList ++ vs.toList.drop (n * o.e.size + off + (a.eval y).cells.toList.length)).toArray) hpl ho (xs' := o.xs.set n z.1) (by simp) hb
                    exact ⟨hs1.slots.mono hle, hs1.mem.setLst hpl ho (by simp) hb ⟨el, hel⟩ hsize hsz hcap (by simpa using hcs) hset⟩
              · cases h
            · cases h
          · cases h
        · cases h
      · cases h
    · rename_i r' off hx
      split at h
      · rename_i hc
        split at h
        · rename_i cells hcells
          split at h
          · rename_i hfit
            have hxr := ev_rep hs.slots x
            rw [hx] at hxr
            simp only [RepAV, RepSX, cx] at hxr
            obtain ⟨cap, fs, b, h1, hb, hxv⟩ := hxr
            have hg := topCells_some hcells
            obtain ⟨d, b', vs, h3, h4, h5, ho, hv⟩ := hs.mem.htop r' cells hg
            rw [show (cx A0 w0 st.recs st.lsts w μ).μ.dp = μ.dp from rfl, h1] at h3; cases h3
            rw [show (cx A0 w0 st.recs st.lsts w μ).μ.at_ (.n 0) = μ.at_ (.n 0) from rfl, hb] at h5; cases h5
            replace ho : Own w b vs := ho
            replace hv : RepAVs (cx A0 w0 st.recs st.lsts w μ) cells ((vs.toList.drop (fs.length * 5)).take 5) := hv
            obtain ⟨hcr, hone⟩ := cells_rep hc.2 (ev_rep hs.slots y)
            have hl1 := hcr.length
            have hl2 := hv.length
            have hsz : fs.length * 5 + 5 ≤ vs.size := by
              rcases (hs.mem.deep _ h1).row with ⟨h6, _⟩ | ⟨b2, vs2, pre, rest, h6, h7, h8, h9, _⟩
              · rw [show (cx A0 w0 st.recs st.lsts w μ).μ.at_ (.n 0) = μ.at_ (.n 0) from rfl, hb] at h6; cases h6
              · rw [show (cx A0 w0 st.recs st.lsts w μ).μ.at_ (.n 0) = μ.at_ (.n 0) from rfl, hb] at h6; cases h6
                obtain ⟨_, e1⟩ := ho; obtain ⟨_, e2⟩ := h7
                rw [show (cx A0 w0 st.recs st.lsts w μ).w = w from rfl, e1] at e2; cases e2
                have h9' : fs.length + 1 ≤ cap := h9
                have h8' : vs.size = cap * 5 := h8
                omega
            simp only [Array.length_toList, List.length_take, List.length_drop] at hl1 hl2
            have hc5 : cells.length = 5 := by omega
            obtain ⟨el, hel⟩ := ho
            have hsp := hv.splice (off := off) hcr
            have hul : ((vs.toList.drop (fs.length * 5)).take 5).length = 5 := by rw [hv.length]; exact hc5
            have e1 : vs.toList.take (fs.length * 5 + off) ++ (a.eval y).cells.toList ++ vs.toList.drop (fs.length * 5 + off + (a.eval y).cells.toList.length) =
                vs.toList.take (fs.length * 5) ++ (((vs.toList.drop (fs.length * 5)).take 5).take off ++ (a.eval y).cells.toList ++ ((vs.toList.drop (fs.length * 5)).take 5).drop (off + (a.eval y).cells.toList.length)) ++ vs.toList.drop (fs.length * 5 + 5) := by
              have hk : (a.eval y).cells.toList.length = i.size := by rw [hcr.length]; exact hc.1
              generalize (a.eval y).cells.toList = m at hk ⊢
              generalize vs.toList = L
              generalize fs.length * 5 = n
              rw [hk]
              have h3 : L.drop (n + off + i.size) = ((L.drop n).take 5).drop (off + i.size) ++ L.drop (n + 5) := by
                rw [List.drop_take, List.drop_drop, ← Nat.add_assoc]
                have h4 : L.drop (n + 5) = (L.drop (n + off + i.size)).drop (5 - (off + i.size)) := by rw [List.drop_drop]; congr 1; omega
                rw [h4, List.take_append_drop]
              have h5 : L.take (n + off) = L.take n ++ ((L.drop n).take 5).take off := by
                rw [List.take_take, Nat.min_eq_left (by omega), List.take_add]
              rw [h3, h5]; simp only [List.append_assoc]
            refine ⟨_, h, w.setRow b (vs.toList.take (fs.length * 5 + off) ++ (a.eval y).cells.toList ++ vs.toList.drop (fs.length * 5 + off + (a.eval y).cells.toList.length)).toArray, μ, ?_, ?_⟩
            · rw [hxv]; exact storeVar_run hti hel (by rw [hl1]; exact hc.1) (by omega) hone
            · have hu5 : (((vs.toList.drop (fs.length * 5)).take 5).take off ++ (a.eval y).cells.toList ++ ((vs.toList.drop (fs.length * 5)).take 5).drop (off + (a.eval y).cells.toList.length)).length = 5 := by
                have hk : (a.eval y).cells.toList.length = i.size := by rw [hcr.length]; exact hc.1
                rw [List.length_append, List.length_append, List.length_take, List.length_drop, hul, hk]; omega
              obtain ⟨hm', hle⟩ := hs.mem.setTop (cs := (vs.toList.take (fs.length * 5 + off) ++ (a.eval y).cells.toList ++ vs.toList.drop (fs.length * 5 + off + (a.eval y).cells.toList.length)).toArray) hg h1 rfl hb ⟨el, hel⟩ hsp hu5 hsz (by rw [List.toList_toArray]; exact e1)
              exact ⟨hs.slots.mono hle, hm'⟩
          · cases h
        · cases h
      · cases h
    · cases h
end
end Go.Pe
end
section
namespace Go.Pe
open Go.RowKit
set_option linter.unusedSectionVars false
variable [GI]
set_option linter.unusedSimpArgs false
set_option linter.unusedVariables false

structure Cx.LeS (c c' : Cx) : Prop where
  A : ∀ b, c.A b → c'.A b
  w : ∀ b, c.A b → c'.w.heap[b]? = c.w.heap[b]?
  nr : c.recs.length ≤ c'.recs.length
  nl : c.lsts.length ≤ c'.lsts.length
  r : ∀ r, r < c.recs.length → (getL c'.recs r).isSome = true → (getL c.recs r).isSome = true ∧ c'.μ.at_ (.r r) = c.μ.at_ (.r r)
  l : ∀ t o', t < c.lsts.length → getL c'.lsts t = some o' → ∃ o, getL c.lsts t = some o ∧ o'.e = o.e ∧ o'.len = o.len ∧ c'.μ.at_ (.l t) = c.μ.at_ (.l t) ∧ c'.μ.capOf o' t = c.μ.capOf o t
mutual
/-- What names such a row, told anew. -/
def AV.mapS (f : SX → AV) : AV → AV
  | .sx x => f x
  | .pim l => .pim (mapSL f l)
  | .agg l => .agg (mapSL f l)
  | .ifc q l => .ifc q (mapSL f l)
  | .tup l => .tup (mapSL f l)
  | .fn g a b => .fn g (mapSL f a) (mapSL f b)
  | v => v
def mapSL (f : SX → AV) : List AV → List AV
  | [] => []
  | v :: l => v.mapS f :: mapSL f l
end
mutual
theorem RepAV.mapS {c c' : Cx} {f : SX → AV} (h : c.LeS c') (hs : ∀ x v, RepSX c.μ c.keep x v → RepAV c' (f x) v) : ∀ {av v}, RepAV c av v → RepAV c' (av.mapS f) v
  | .d t x, v, hr => by simp only [RepAV, AV.mapS] at hr ⊢; exact hr.mono h.A h.w
  | .full e x, v, hr => by simp only [RepAV, AV.mapS] at hr ⊢; exact ⟨hr.1, hr.2.mono h.A h.w⟩
  | .nilS, v, hr => by simpa only [RepAV, AV.mapS] using hr
  | .whole t, v, hr => by
    simp only [RepAV, AV.mapS] at hr ⊢
    refine ⟨Nat.lt_of_lt_of_le hr.1 h.nl, hr.2.1, fun o' ho' => ?_⟩
    obtain ⟨o, ho, he, hl, hμ, hcap⟩ := h.l t o' hr.1 ho'
    exact (hr.2.2 o ho).tr he hl hμ hcap
  | .ptr r off, v, hr => by
    simp only [RepAV, AV.mapS] at hr ⊢
    refine ⟨Nat.lt_of_lt_of_le hr.1 h.nr, hr.2.1, fun hs => ?_⟩
    obtain ⟨h1, h2⟩ := h.r r hr.1 hs
    rw [h2]; exact hr.2.2 h1
  | .bld r, v, hr => by
    simp only [RepAV, AV.mapS] at hr ⊢
    refine ⟨Nat.lt_of_lt_of_le hr.1 h.nr, hr.2.1, fun hs => ?_⟩
    obtain ⟨h1, h2⟩ := h.r r hr.1 hs
    rw [h2]; exact hr.2.2 h1
  | .eptr t i off, v, hr => by
    simp only [RepAV, AV.mapS] at hr ⊢
    refine ⟨Nat.lt_of_lt_of_le hr.1 h.nl, hr.2.1, fun o' ho' => ?_⟩
    obtain ⟨o, ho, he, hl, hμ, hcap⟩ := h.l t o' hr.1 ho'
    rw [hμ, he]; exact hr.2.2 o ho
  | .pim cells, v, hr => by
    simp only [RepAV, AV.mapS] at hr ⊢
    obtain ⟨ad, us, e, hsp, hA, hc, hu⟩ := hr
    exact ⟨ad, us, e, hsp, h.A _ hA, hc.mono (h.w _ hA), hu.mapS h hs⟩
  | .agg l, v, hr => by simp only [RepAV, AV.mapS] at hr ⊢; obtain ⟨us, e, hu⟩ := hr; exact ⟨us, e, hu.mapS h hs⟩
  | .ifc q l, v, hr => by simp only [RepAV, AV.mapS] at hr ⊢; obtain ⟨us, e, hu⟩ := hr; exact ⟨us, e, hu.mapS h hs⟩
  | .tup l, v, hr => by simp only [RepAV, AV.mapS] at hr ⊢; obtain ⟨us, e, hu⟩ := hr; exact ⟨us, e, hu.mapS h hs⟩
  | .fn f a b, v, hr => by simp only [RepAV, AV.mapS] at hr ⊢; obtain ⟨a', b', e, h1, h2⟩ := hr; exact ⟨a', b', e, h1.mapS h hs, h2.mapS h hs⟩
  | .nilP, v, hr => by simpa only [RepAV, AV.mapS] using hr
  | .sx x, v, hr => by simp only [AV.mapS]; simp only [RepAV] at hr; exact hs x v hr
  | .dead, v, _ => by simp only [RepAV, AV.mapS]
theorem RepAVs.mapS {c c' : Cx} {f : SX → AV} (h : c.LeS c') (hs : ∀ x v, RepSX c.μ c.keep x v → RepAV c' (f x) v) : ∀ {l vs}, RepAVs c l vs → RepAVs c' (mapSL f l) vs
  | [], _, hr => by simpa only [RepAVs, mapSL] using hr
  | x :: xs, _, hr => by
    simp only [RepAVs, mapSL] at hr ⊢
    obtain ⟨v, us, e, h1, h2⟩ := hr
    exact ⟨v, us, e, h1.mapS h hs, h2.mapS h hs⟩
end
mutual
theorem killS_map : ∀ v : AV, v.killS = v.mapS fun _ => .dead
  | .sx x => rfl
  | .pim l => by simp only [AV.killS, AV.mapS, killSL_map l]
  | .agg l => by simp only [AV.killS, AV.mapS, killSL_map l]
  | .ifc q l => by simp only [AV.killS, AV.mapS, killSL_map l]
  | .tup l => by simp only [AV.killS, AV.mapS, killSL_map l]
  | .fn f a b => by simp only [AV.killS, AV.mapS, killSL_map a, killSL_map b]
  | .d _ _ | .full _ _ | .nilS | .nilP | .ptr _ _ | .bld _ | .whole _ | .eptr _ _ _ | .dead => by simp only [AV.killS, AV.mapS]
theorem killSL_map : ∀ l : List AV, killSL l = mapSL (fun _ => .dead) l
  | [] => rfl
  | v :: l => by simp only [killSL, mapSL, killS_map v, killSL_map l]
end
theorem mapS_bld {f : SX → AV} (hf : ∀ x r, f x ≠ .bld r) {x : AV} {r : Nat} (h : x.mapS f = .bld r) : x = .bld r := by
  cases x <;> simp only [AV.mapS] at h <;> first | exact h | exact absurd h (hf _ _) | cases h
theorem mapSL_bld {f : SX → AV} (hf : ∀ x r, f x ≠ .bld r) : ∀ {l : List AV}, isBld (mapSL f l) = true → isBld l = true
  | [], h => by simp [mapSL, isBld] at h
  | x :: l, h => by
    obtain ⟨r, l', e⟩ := isBld_some h
    simp only [mapSL, List.cons.injEq] at e
    rw [mapS_bld hf e.1]; rfl
def mapSR (f : SX → AV) (recs : List (Option (List AV))) : List (Option (List AV)) := recs.map fun r => match r with
  | some c => (match isMark c with | true => none | false => some (mapSL f c))
  | none => none
theorem killSR_map (recs : List (Option (List AV))) : killSR recs = mapSR (fun _ => .dead) recs := by
  unfold killSR mapSR
  congr 1; funext r; cases r with
  | none => rfl
  | some c => simp only [killSL_map]; cases isMark c <;> rfl
theorem getL_mapSR (f : SX → AV) (recs : List (Option (List AV))) (r : Nat) : getL (mapSR f recs) r = (getL recs r).bind fun c => match isMark c with | true => none | false => some (mapSL f c) := by
  unfold getL mapSR
  rw [List.getElem?_map]
  cases h : recs[r]? with
  | none => rfl
  | some x => cases x with
    | none => rfl
    | some c => cases hk : isMark c <;> simp [hk]
theorem mapSR_length (f : SX → AV) (recs : List (Option (List AV))) : (mapSR f recs).length = recs.length := by simp [mapSR]
theorem mapSR_some {f : SX → AV} {recs : List (Option (List AV))} {r : Nat} {c : List AV} (h : getL (mapSR f recs) r = some c) : ∃ c0, getL recs r = some c0 ∧ isMark c0 = false ∧ c = mapSL f c0 := by
  rw [getL_mapSR, Option.bind_eq_some_iff] at h
  obtain ⟨c0, h1, h2⟩ := h
  split at h2
  · cases h2
  · rename_i hk; cases h2; exact ⟨c0, h1, hk, rfl⟩

section
variable {A0 : Dom} {w0 w : World} {recs : List (Option (List AV))} {lsts : List (Option LObj)} {μ : Mu}

def Mu.push (μ : Mu) (b r cap : Nat) (fs : List V) : Mu := { μ with at_ := fun x => if x = .n 0 then some b else μ.at_ x, dp := some ⟨some r, cap, fs⟩ }
theorem Mem.grown (hm : Mem A0 w0 recs lsts w μ) {fs : List V} {cap : Nat} (hd : μ.dp = some ⟨none, cap, fs⟩) {w' : World} {b cap' : Nat} {vs' : Array Value} {c5 : List AV} {u5 pre rest : List Value}
    (hsize : w.heap.size ≤ w'.heap.size) (hbel : Below w0.heap.size w w') (hblk : ∀ k, k < w.heap.size → μ.at_ (.n 0) ≠ some k → w'.heap[k]? = w.heap[k]?)
    (hb1 : w0.heap.size ≤ b) (hb2 : b < w'.heap.size) (hb3 : μ.at_ (.n 0) = some b ∨ w.heap.size ≤ b)
    (hown : Own w' b vs') (hvs : vs'.size = cap' * 5) (hcap : fs.length + 1 ≤ cap') (hpre : FramesAt (cx A0 w0 recs lsts w μ) 0 fs pre) (e : vs'.toList = pre ++ (u5 ++ rest)) (h5 : u5.length = 5)
    (hr : ∀ c' : Cx, (∀ k, Imm A0 w0 μ w k → c'.A k) → (∀ k, Imm A0 w0 μ w k → c'.w.heap[k]? = w.heap[k]?) → RepAVs c' c5 u5) :
    Mem A0 w0 (mapSR (fun _ => .dead) recs ++ [some (.sx .mark :: c5)]) lsts w' (μ.push b recs.length cap' fs) ∧
    (cx A0 w0 recs lsts w μ).LeS (cx A0 w0 (mapSR (fun _ => .dead) recs ++ [some (.sx .mark :: c5)]) lsts w' (μ.push b recs.length cap' fs)) := by
  have hat : ∀ x, x ≠ .n 0 → (μ.push b recs.length cap' fs).at_ x = μ.at_ x := fun x hx => by simp only [Mu.push]; rw [if_neg hx]
  have hat0 : (μ.push b recs.length cap' fs).at_ (.n 0) = some b := by simp [Mu.push]
  have hImm : ∀ k, Imm A0 w0 μ w k → Imm A0 w0 (μ.push b recs.length cap' fs) w' k := by
    intro k hk
    refine ⟨hk.1, Nat.lt_of_lt_of_le hk.2.1 hsize, fun x hx => ?_⟩
    by_cases ex : x = .n 0
    · subst ex
      rw [hat0] at hx; cases hx
      rcases hb3 with h | h
      · exact hk.2.2 _ h
      · exact absurd hk.2.1 (by omega)
    · rw [hat x ex] at hx; exact hk.2.2 x hx
  have hgr : ∀ {r c}, getL (mapSR (fun _ => .dead) recs ++ [some (.sx .mark :: c5)]) r = some c → (r < recs.length ∧ ∃ c0, getL recs r = some c0 ∧ isMark c0 = false ∧ c = mapSL (fun _ => .dead) c0) ∨ (r = recs.length ∧ c = .sx .mark :: c5) := by
    intro r c h
    rcases Nat.lt_trichotomy r recs.length with hlt | heq | hgt
    · rw [getL_app (by rw [mapSR_length]; exact hlt)] at h
      exact .inl ⟨hlt, mapSR_some h⟩
    · subst heq
      have : getL (mapSR (fun _ => .dead) recs ++ [some (.sx .mark :: c5)]) (mapSR (fun _ => .dead) recs).length = _ := getL_new
      rw [mapSR_length] at this
      rw [this] at h; cases h
      exact .inr ⟨rfl, rfl⟩
    · have := getL_lt h; simp [mapSR_length] at this; omega
  have hle : (cx A0 w0 recs lsts w μ).LeS (cx A0 w0 (mapSR (fun _ => .dead) recs ++ [some (.sx .mark :: c5)]) lsts w' (μ.push b recs.length cap' fs)) :=
    ⟨hImm, fun k hk => hblk k hk.2.1 (fun e => hk.2.2 _ e), by simp [cx, mapSR_length], Nat.le_refl _,
     fun r hr' hs => by
       obtain ⟨c, hc⟩ := Option.isSome_iff_exists.1 hs
       rcases hgr hc with ⟨_, c0, h1, _⟩ | ⟨h1, _⟩
       · exact ⟨by simp only [cx]; rw [h1]; rfl, hat _ (by simp)⟩
       · have : r < recs.length := hr'
         omega,
     fun t o' ht ho => ⟨o', ho, rfl, rfl, hat _ (by simp), rfl⟩⟩
  have hdead : ∀ x v, RepSX (cx A0 w0 recs lsts w μ).μ (cx A0 w0 recs lsts w μ).keep x v → RepAV (cx A0 w0 (mapSR (fun _ => .dead) recs ++ [some (.sx .mark :: c5)]) lsts w' (μ.push b recs.length cap' fs)) ((fun _ => .dead) x) v := fun _ _ _ => by simp only [RepAV]
  have hsame : ∀ x b', x ≠ .n 0 → μ.at_ x = some b' → w'.heap[b']? = w.heap[b']? := fun x b' hx hb' => hblk b' (hm.live _ _ hb').2.1 fun e2 => hx (hm.inj _ _ _ hb' e2)
  have h1 : (cx A0 w0 recs lsts w μ).Deep1 (cx A0 w0 (mapSR (fun _ => .dead) recs ++ [some (.sx .mark :: c5)]) lsts w' (μ.push b recs.length cap' fs)) := ⟨hImm, hle.w, fun k hk => hat _ (by simpa using hk), fun k b' hk hb' => hsame _ _ (by simpa using hk) hb'⟩
  refine ⟨?_, hle⟩
  constructor
  · intro r cells h hk
    rcases hgr h with ⟨_, c0, g1, g2, rfl⟩ | ⟨_, rfl⟩
    · obtain ⟨b', vs, hb', ho, hv⟩ := hm.hrec r c0 g1 g2
      exact ⟨b', vs, by rw [hat _ (by simp)]; exact hb', ho.ext (hsame _ _ (by simp) hb'), hv.mapS hle hdead⟩
    · simp [isMark] at hk
  · intro t o ht
    rcases hm.hlst t o ht with ⟨g1, g2⟩ | ⟨b', vs, hb', ho, hsz, hc, us, rest, e, hr'⟩
    · exact .inl ⟨by rw [show (cx A0 w0 (mapSR (fun _ => .dead) recs ++ [some (.sx .mark :: c5)]) lsts w' (μ.push b recs.length cap' fs)).μ.at_ (.l t) = (μ.push b recs.length cap' fs).at_ (.l t) from rfl, hat _ (by simp)]; exact g1, g2⟩
    · exact .inr ⟨b', vs, by rw [show (cx A0 w0 (mapSR (fun _ => .dead) recs ++ [some (.sx .mark :: c5)]) lsts w' (μ.push b recs.length cap' fs)).μ.at_ (.l t) = (μ.push b recs.length cap' fs).at_ (.l t) from rfl, hat _ (by simp)]; exact hb', ho.ext (hsame _ _ (by simp) hb'), hsz, hc, us, rest, e, hr'.imp fun x u hx => hx.mono hle.A hle.w⟩
  · intro x b' hx
    by_cases ex : x = .n 0
    · subst ex
      rw [hat0] at hx; cases hx
      exact ⟨hb1, hb2, rfl⟩
    · rw [hat x ex] at hx
      obtain ⟨g1, g2, g3⟩ := hm.live x b' hx
      refine ⟨g1, Nat.lt_of_lt_of_le g2 hsize, ?_⟩
      cases x with
      | n k => rfl
      | l t => exact g3
      | r r =>
        obtain ⟨c, hc⟩ := Option.isSome_iff_exists.1 g3
        simp only
        rw [getL_app (by rw [mapSR_length]; exact getL_lt hc), getL_mapSR, hc, Option.bind_some, hm.plain hc hx]; rfl
  · intro x y b' hx hy
    by_cases ex : x = .n 0 <;> by_cases ey : y = .n 0
    · rw [ex, ey]
    · subst ex
      rw [hat0] at hx; cases hx
      rw [hat y ey] at hy
      rcases hb3 with h | h
      · exact hm.inj _ _ _ h hy
      · exact absurd (hm.live _ _ hy).2.1 (by omega)
    · subst ey
      rw [hat0] at hy; cases hy
      rw [hat x ex] at hx
      rcases hb3 with h | h
      · exact hm.inj _ _ _ hx h
      · exact absurd (hm.live _ _ hx).2.1 (by omega)
    · rw [hat x ex] at hx; rw [hat y ey] at hy; exact hm.inj _ _ _ hx hy
  · exact hm.below.trans hbel
  · intro k hk
    obtain ⟨g1, g2, g3⟩ := hm.fr k hk
    refine ⟨Nat.lt_of_lt_of_le g1 hsize, by rw [hblk k g1 (fun e => g3 _ e)]; exact g2, fun x hx => ?_⟩
    by_cases ex : x = .n 0
    · subst ex
      rw [hat0] at hx; cases hx
      rcases hb3 with h | h
      · exact g3 _ h
      · omega
    · rw [hat x ex] at hx; exact g3 x hx
  · intro k hk
    obtain ⟨g1, g3⟩ := hm.xo k hk
    refine ⟨Nat.lt_of_lt_of_le g1 hsize, fun x hx => ?_⟩
    by_cases ex : x = .n 0
    · subst ex
      rw [hat0] at hx; cases hx
      rcases hb3 with h | h
      · exact g3 _ h
      · omega
    · rw [hat x ex] at hx; exact g3 x hx
  · have := hm.np; simp [mapSR_length]; omega
  · intro r k hk
    obtain ⟨g1, g2⟩ := hm.pins r k hk
    refine ⟨g1, fun hs => ?_⟩
    have hr0 := Nat.lt_of_lt_of_le g1 hm.np
    rw [hat _ (by simp)]
    exact g2 (hle.r r hr0 hs).1
  · exact hm.gi
  · refine ⟨fun r' c' g1 g2 b' hb' => ?_, fun t' o' g1 g2 b' hb' => ?_⟩
    · rcases hgr g1 with ⟨_, c0, k1, k2, rfl⟩ | ⟨_, rfl⟩
      · rw [hat _ (by simp)] at hb'
        obtain ⟨vs, hv⟩ := hm.bty.r r' c0 k1 (mapSL_bld (fun _ _ h => by cases h) g2) b' hb'
        exact ⟨vs, (hsame _ _ (by simp) hb').trans hv⟩
      · simp [isBld] at g2
    · rw [hat _ (by simp)] at hb'
      obtain ⟨vs, hv⟩ := hm.bty.l t' o' g1 g2 b' hb'
      exact ⟨vs, (hsame _ _ (by simp) hb').trans hv⟩
  · intro r c h
    rcases hgr h with ⟨_, c0, k1, k2, k3⟩ | ⟨rfl, k3⟩
    · exfalso
      obtain ⟨v, l, rfl⟩ : ∃ v l, c0 = v :: l := by cases c0 with | nil => simp [mapSL] at k3 | cons v l => exact ⟨v, l, rfl⟩
      simp only [mapSL, List.cons.injEq] at k3
      have := k3.1
      cases v <;> simp [AV.mapS] at this
    · cases k3
      refine ⟨_, b, vs', rfl, rfl, hat0, hown, ?_⟩
      have hpl := hpre.length
      simp only
      rw [e, List.drop_append_of_le_length (by omega), List.drop_of_length_le (by omega), List.nil_append, List.take_append_of_le_length (by omega), List.take_of_length_le (by omega)]
      exact hr _ hImm hle.w
  · intro d' hd'
    cases hd'
    have hdeep := hm.deep _ hd
    refine ⟨fun q hq => ?_, fun k b' hk => ?_, .inr ⟨b, vs', pre, u5 ++ rest, hat0, hown, hvs, hcap, e, hpre.mono h1⟩⟩
    · cases hq
      refine ⟨by simp [cx, mapSR_length], ?_⟩
      show (μ.push b recs.length cap' fs).at_ _ = none
      rw [hat _ (by simp)]
      cases hx : μ.at_ (.r recs.length) with
      | none => rfl
      | some b' =>
        obtain ⟨c, hc⟩ := Option.isSome_iff_exists.1 (hm.live _ _ hx).2.2
        exact absurd (getL_lt hc) (Nat.lt_irrefl _)
    · by_cases hk0 : k = 0
      · omega
      · refine hdeep.lim k b' ?_
        have : (μ.push b recs.length cap' fs).at_ (.n k) = some b' := hk
        rw [hat _ (by simpa using hk0)] at this; exact this
  · exact hm.pinl.of (Nat.le_trans hm.pinl.1 hle.nl) fun t o' ht ho hm => by obtain ⟨o, h1, h2, _, h3, _⟩ := hle.l t o' ht ho; exact ⟨o, h1, by rw [← h2]; exact hm, h3⟩
end
end Go.Pe
end
section
namespace Go.Pe
open Go.RowKit
set_option linter.unusedSectionVars false
variable [GI]
set_option linter.unusedSimpArgs false
set_option linter.unusedVariables false

section
variable {P : Program} {A0 : Dom} {w0 w : World} {st : St} {tmps : Array Value} {a : Act} {μ : Mu} {S : Type} {o : Oper}

theorem list_cells (hm : Mem A0 w0 st.recs st.lsts w μ) {e : Ty} {x : AV} {vx : Value} {ys : List e.den} (h : asTy st.lsts (.list e) x = some ys) (hx : RepAV (cx A0 w0 st.recs st.lsts w μ) x vx) :
    ∃ b cap us, vx = .slice b ys.length cap ∧ RepAll (Rep (Imm A0 w0 μ w) w e) ys us ∧ (ys = [] ∨ ∃ ad, b = some ad ∧ ad.spot = none ∧ CellsAt w ad us) := by
  have conc : ∀ {v : Value}, SliceRep (Imm A0 w0 μ w) w (Rep (Imm A0 w0 μ w) w e) ys v → ∃ b cap us, v = .slice b ys.length cap ∧ RepAll (Rep (Imm A0 w0 μ w) w e) ys us ∧ (ys = [] ∨ ∃ ad, b = some ad ∧ ad.spot = none ∧ CellsAt w ad us) := by
    intro v hv
    obtain ⟨b, cap, rfl, hcap, hm⟩ := hv
    rcases hm with hm | ⟨ad, us, hb, hsp, _, hc, hr⟩
    · subst hm; exact ⟨b, cap, [], rfl, rfl, .inl rfl⟩
    · exact ⟨b, cap, us, rfl, hr, .inr ⟨ad, hb, hsp, hc⟩⟩
  cases x <;> simp only [asTy] at h
  case d t' y =>
    split at h
    · rename_i e'; subst e'; simp only [Option.some.injEq] at h; subst h
      simp only [RepAV, Rep, List.cons.injEq, and_true] at hx
      obtain ⟨_, rfl, hx⟩ := hx
      exact conc hx
    · cases h
  case full e' y =>
    split at h
    · rename_i e'; cases e'; simp only [Option.some.injEq] at h; subst h
      simp only [RepAV, Rep, List.cons.injEq, and_true] at hx
      obtain ⟨_, _, rfl, hx⟩ := hx
      exact conc hx
    · cases h
  case nilS =>
    simp only [Option.some.injEq] at h; subst h
    simp only [RepAV] at hx
    subst hx
    exact ⟨none, 0, [], rfl, rfl, .inl rfl⟩
  case whole j =>
    split at h
    · rename_i o ho
      cases hp : o.e.isMap with
      | true => rw [hp] at h; cases h
      | false =>
      rw [hp] at h
      dsimp only at h
      split at h
      · rename_i e'
        obtain ⟨e0, xs0⟩ := o
        cases e'
        simp only [Option.some.injEq] at h; subst h
        simp only [RepAV, cx] at hx
        rcases (LstAt.plain hp).1 (hm.hlst j _ ho) with ⟨h1, h2⟩ | ⟨b, vs, hb, hown, hsz, hcap, us, rest, e1, hr⟩
        · rcases (WholeAt.plain hp).1 (hx.2.2 _ ho) with ⟨_, rfl⟩ | ⟨b, hb, rfl⟩
          · simp only at h2; subst h2; exact ⟨none, 0, [], rfl, rfl, .inl rfl⟩
          · rw [show (cx A0 w0 st.recs st.lsts w μ).μ.at_ (.l j) = μ.at_ (.l j) from rfl, hb] at h1; cases h1
        · rcases (WholeAt.plain hp).1 (hx.2.2 _ ho) with ⟨h3, _⟩ | ⟨b', hb', rfl⟩
          · rw [show (cx A0 w0 st.recs st.lsts w μ).μ.at_ (.l j) = μ.at_ (.l j) from rfl, h3] at hb; cases hb
          · rw [show (cx A0 w0 st.recs st.lsts w μ).μ.at_ (.l j) = μ.at_ (.l j) from rfl, hb'] at hb; cases hb
            refine ⟨_, _, us, rfl, hr, .inr ⟨_, rfl, rfl, ?_⟩⟩
            have := hown.cells
            rw [e1] at this
            have h2 := this.take us.length
            rwa [List.take_left] at h2
      · cases h
    · cases h
  all_goals cases h

variable {ε : Env} (hε : EnvOk P ε)
include hε

theorem elemTy_plain {sT : Nat} {e : Ty} (he : (elemT ε sT).bind (ty1 ε) = some e) : e.isMap = false := by
  obtain ⟨et, _, h2⟩ := Option.bind_eq_some_iff.1 he
  obtain ⟨i, hi, hty⟩ := Option.bind_eq_some_iff.1 h2
  exact (hε.ti et i hi).plain e hty
theorem appArg_src (hm : Mem A0 w0 st.recs st.lsts w μ) {xT : Nat} {e : Ty} {x : AV} {vx : Value} {ys : List e.den} (h : appArg ε st.lsts xT e x = some ys) (hx : RepAV (cx A0 w0 st.recs st.lsts w μ) x vx) :
    ∃ news, Src P e.size xT vx ys.length news w ∧ RepAll (Rep (Imm A0 w0 μ w) w e) ys news := by
  unfold appArg at h
  split at h
  · rename_i b
    split at h
    · rename_i hs
      simp only [asTy] at h
      split at h
      · rename_i e'
        cases e'
        simp only [Option.some.injEq] at h; subst h
        simp only [RepAV, Rep, List.cons.injEq, and_true] at hx; subst hx
        have hsrc := Src.ofString (P := P) w (isStr_ok hε hs) ⟨b.toArray⟩
        rw [size_str] at hsrc
        refine ⟨_, by simpa [bytesOf, Ty.size] using hsrc, ?_⟩
        simp only [byteCells]
        clear hsrc
        induction b with
        | nil => rfl
        | cons y ys ih => exact ⟨[_], _, rfl, rfl, ih⟩
      · cases h
    · cases h
  · split at h
    · rename_i hs
      obtain ⟨et, het⟩ := Option.isSome_iff_exists.1 hs
      obtain ⟨b, cap, us, rfl, hr, hc⟩ := list_cells hm h hx
      have hul := hr.length (sz := e.size) fun x u h => h.length
      refine ⟨us, ?_, hr⟩
      rcases hc with hc | ⟨ad, rfl, hsp, hc⟩
      · subst hc
        simp only [RepAll] at hr; subst hr
        cases b with
        | none => exact Src.ofNil w (elemT_ok hε het) cap
        | some ad => exact Src.ofSlice w (elemT_ok hε het) ad 0 cap [] (by simp) (by simp) (by simp)
      · exact Src.ofSlice w (elemT_ok hε het) ad ys.length cap us hul (fun j u hj => by
          rw [add_addr hsp, hc j (List.getElem?_eq_some_iff.1 hj).1, hj]) hr.one
    · cases h

theorem elemTy_ok {sT : Nat} {e : Ty} (h : (elemT ε sT).bind (ty1 ε) = some e) : ∃ et inf z, P.underlying sT = some (.slice et) ∧ P.info? et = some inf ∧ inf.size = e.size ∧ inf.bytes ≤ 16384 ∧ inf.zero = some z ∧ z.cells.size = e.size ∧ (e = .int .u8 → et = GI.u8) := by
  simp only [Option.bind_eq_some_iff] at h
  obtain ⟨et, het, h⟩ := h
  unfold ty1 at h
  simp only [Option.bind_eq_some_iff] at h
  obtain ⟨i, hi, h⟩ := h
  obtain ⟨inf, h1, h2, h3, z, h4, h5, _⟩ := (hε.ti _ _ hi).info
  have h6 := (hε.ti _ _ hi).ty e h
  exact ⟨et, inf, z, elemT_ok hε het, h1, by rw [h2, h6], h3, h4, by rw [h5, h6], fun e8 => (hε.ti _ _ hi).u8 (by rw [h, e8])⟩

omit hε in
theorem grow_run {sT xT ty et : Nat} {inf : TypeInfo} {z : Value} (hu : P.underlying sT = some (.slice et)) (hinf : P.info? et = some inf) (hz : inf.zero = some z) (hb16 : inf.bytes ≤ 16384) (hzs : z.cells.size = inf.size)
    {base : Option Addr} {sLen sCap : Nat} {olds : List Value} (hol : olds.length = sLen * inf.size) (hold : ∀ w' : World, w'.heap = w.heap → (Builtin.firstCells inf.size sLen (.slice base sLen sCap)).run P w' = .ok olds.toArray w')
    {x : Value} {n : Nat} {news : List Value} (hs : Src P inf.size xT x n news w) (hg : sCap < sLen + n) (hn : sLen + n ≤ 4294967296) :
    ∃ cap vs, sLen + n ≤ cap ∧ (Builtin.append_ #[sT, xT] ty #[.slice base sLen sCap, x]).run P w = .ok (.slice (some ⟨w.heap.size, 0, none⟩) (sLen + n) cap) (w.drew.alloc (.cells vs et)) ∧ vs.size = cap * inf.size ∧ ∃ rest, vs.toList = olds ++ news ++ rest := by
  have hfit : Builtin.nextslicecap (sLen + n) sCap * inf.bytes ≤ 281474976710656 := growslice_fits hg (by
    have : (sLen + n) * inf.bytes ≤ 4294967296 * 16384 := Nat.mul_le_mul hn hb16
    omega)
  have hle : sLen + n ≤ grownCap w (sLen + n) sCap et := Nat.le_add_right _ _
  refine ⟨_, _, hle, run_append_grow_src w sT xT ty et inf z hu hinf hz base sLen sCap olds (hold w.drew rfl) x n news hs hg (by omega) hfit, ?_, (Builtin.zeroCells z.cells (grownCap w (sLen + n) sCap et - (sLen + n))).toList, ?_⟩
  · simp only [Array.size_append, List.size_toArray, List.length_append, hol, hs.newsLen, size_zeroCells, hzs]
    rw [← Nat.add_mul, ← Nat.add_mul]; congr 1; omega
  · simp

omit hε in
theorem firstCells_ok {size n : Nat} {base : Option Addr} {cap : Nat} {us : List Value} (hl : us.length = n * size) (hc : us = [] ∨ ∃ ad, base = some ad ∧ ad.spot = none ∧ CellsAt w ad us) (w' : World) (hw : w'.heap = w.heap) :
    (Builtin.firstCells size n (.slice base n cap)).run P w' = .ok us.toArray w' := by
  cases base with
  | none =>
    rcases hc with rfl | ⟨ad, h, _⟩
    · exact run_firstCells_none w' size n n cap
    · cases h
  | some ad =>
    refine run_firstCells_some w' size n ad n cap us hl fun j u hj => ?_
    rcases hc with rfl | ⟨ad', h, hsp, hc⟩
    · simp at hj
    · cases h
      rw [add_addr hsp, ← hj, ← hc j (List.getElem?_eq_some_iff.1 hj).1]
      exact cell?_of_heap (w := w) (a := ⟨ad.block, ad.off + j, none⟩) (by rw [hw])

theorem app_new (hs : Sim A0 w0 st tmps w μ) {sT xT ty : Nat} {e : Ty} (he : (elemT ε sT).bind (ty1 ε) = some e) {x : AV} {vx : Value} {ys : List e.den} (h : appArg ε st.lsts xT e x = some ys) (hx : RepAV (cx A0 w0 st.recs st.lsts w μ) x vx) (hn : ys.length ≤ 4294967296) :
    ∃ v w', (Builtin.append_ #[sT, xT] ty #[.slice none 0 0, vx]).run P w = .ok v w' ∧ Post A0 w0 tmps (.whole st.lsts.length) { st with lsts := st.lsts ++ [some ⟨e, ys⟩] } v w' := by
  obtain ⟨news, hsrc, hr⟩ := appArg_src hε hs.mem h hx
  obtain ⟨et, inf, z, hu, hinf, hsz, hby, hz, hzs, hu8⟩ := elemTy_ok hε he
  rw [← hsz] at hsrc hzs
  by_cases h0 : ys.length = 0
  · have hys : ys = [] := List.eq_nil_of_length_eq_zero h0
    subst hys
    have hnews : news = [] := by simpa [RepAll] using hr
    subst hnews
    refine ⟨_, w, run_append_nothing w sT xT ty et inf hu hinf none 0 0 (Nat.le_refl _) vx hsrc, μ, ?_, hs.slots.mono (le_nilLst _), hs.mem.nilLst (l := ⟨e, []⟩) rfl (elemTy_plain hε he)⟩
    simp only [RepAV, cx]
    refine ⟨by simp, rfl, fun o ho => ?_⟩
    rw [getL_new] at ho; cases ho
    refine .inl ⟨?_, elemTy_plain hε he, rfl⟩
    cases hat : μ.at_ (.l st.lsts.length) with
    | none => rfl
    | some b' =>
      obtain ⟨c, hc⟩ := Option.isSome_iff_exists.1 (hs.mem.live _ _ hat).2.2
      exact absurd (getL_lt hc) (Nat.lt_irrefl _)
  · obtain ⟨cap, vs, hcap, hrun, hvs, rest, hrest⟩ := grow_run (P := P) (w := w) (ty := ty) hu hinf hz hby hzs (olds := []) (base := none) (sLen := 0) (sCap := 0) (by simp) (fun w' hw => firstCells_ok (w := w) (by simp) (.inl rfl) w' hw) hsrc (by omega) (by omega)
    simp only [Nat.zero_add, List.nil_append] at hcap hrun hrest
    have hs' := hs.ext (below_drew w)
    have hr' := hr.imp (R := Rep (Imm A0 w0 μ w) w e) (R' := Rep (Imm A0 w0 μ w.drew) w.drew e) fun x u hx => Rep.mono (A := Imm A0 w0 μ w) (w := w) (A' := Imm A0 w0 μ w.drew) (w' := w.drew) (t := e) (x := x) (vs := u) (fun b hb => hb) (fun b hb => rfl) hx
    have hmem := hs'.mem.newLst (l := ⟨e, ys⟩) (elemTy_plain hε he) hr' hrest (c := cap) (by rw [hvs, hsz]) hcap et hu8
    refine ⟨_, _, hrun, _, ?_, hs'.slots.mono (le_newLst _ _ _), hmem⟩
    simp only [RepAV, cx]
    refine ⟨by simp, rfl, fun o ho => ?_⟩
    rw [getL_new] at ho; cases ho
    exact (WholeAt.plain (elemTy_plain hε he)).2 (.inr ⟨w.heap.size, by simp [Mu.upd, Mu.setCap], by simp [Mu.setCap]⟩)

theorem append_run (hs : Sim A0 w0 st tmps w μ) {sT xT ty : Nat} {s x : AV} {vs vx : Value} (hsr : RepAV (cx A0 w0 st.recs st.lsts w μ) s vs) (hx : RepAV (cx A0 w0 st.recs st.lsts w μ) x vx) (K : AV → St → Option S) (r : S) (h : evAppend ε st sT xT s x K = some r) :
    ∃ av st', K av st' = some r ∧ ∃ v w', (Builtin.append_ #[sT, xT] ty #[vs, vx]).run P w = .ok v w' ∧ Post A0 w0 tmps av st' v w' := by
  unfold evAppend at h
  split at h
  · split at h
    · rename_i e he
      simp only [Option.bind_eq_some_iff] at h
      obtain ⟨ys, hys, h⟩ := h
      unfold appOk at h
      split at h
      · rename_i hn
        simp only [RepAV] at hsr
        subst hsr
        exact ⟨_, _, h, app_new hε hs he hys hx hn⟩
      · cases h
    · cases h
  · rename_i e xs
    split at h
    · rename_i he
      simp only [Option.bind_eq_some_iff] at h
      obtain ⟨ys, hys, h⟩ := h
      unfold appOk at h
      split at h
      · rename_i hn
        simp only [RepAV, Rep, List.cons.injEq, and_true] at hsr
        obtain ⟨⟨b, rfl⟩, _, rfl, hsl⟩ := hsr
        obtain ⟨news, hsrc, hr⟩ := appArg_src hε hs.mem hys hx
        obtain ⟨et, inf, z, hu, hinf, hsz, hby, hz, hzs, hu8⟩ := elemTy_ok hε he
        refine ⟨_, _, h, ?_⟩
        by_cases h0 : ys.length = 0
        · have hys' : ys = [] := List.eq_nil_of_length_eq_zero h0
          subst hys'
          have hnews : news = [] := by simpa [RepAll] using hr
          subst hnews
          rw [← hsz] at hsrc
          refine ⟨_, w, run_append_nothing w sT xT ty et inf hu hinf b xs.length xs.length (Nat.le_refl _) vx hsrc, μ, ?_, hs⟩
          rw [List.append_nil]
          simp only [RepAV, Rep, List.cons.injEq, and_true]
          exact ⟨_, rfl, hsl⟩
        · obtain ⟨a', cap', e1, hcap', hm⟩ := hsl
          cases e1
          obtain ⟨us, hus, hxs, hcells⟩ : ∃ us, us.length = xs.length * e.size ∧ RepAll (Rep (Imm A0 w0 μ w) w e) xs us ∧ (us = [] ∨ ∃ ad, b = some ad ∧ ad.spot = none ∧ CellsAt w ad us) := by
            rcases hm with hm | ⟨ad, us, hb, hsp, _, hc, hr'⟩
            · subst hm; exact ⟨[], by simp, rfl, .inl rfl⟩
            · exact ⟨us, hr'.length fun x u h => h.length, hr', .inr ⟨ad, hb, hsp, hc⟩⟩
          rw [← hsz] at hsrc hzs hus
          obtain ⟨cap, vs, hcap, hrun, hvs, rest, hrest⟩ := grow_run (P := P) (w := w) (ty := ty) hu hinf hz hby hzs (base := b) (sLen := xs.length) (sCap := xs.length) hus (fun w' hw => firstCells_ok (w := w) hus hcells w' hw) hsrc (by omega) hn
          have hbel : Below w.heap.size w (w.drew.alloc (.cells vs et)) := (below_drew w).alloc (Nat.le_refl _) _
          refine ⟨_, _, hrun, μ, ?_, hs.ext hbel⟩
          have hle := cx.ext (A0 := A0) (w0 := w0) (recs := st.recs) (lsts := st.lsts) (μ := μ) hbel
          simp only [RepAV, Rep, List.cons.injEq, and_true]
          refine ⟨_, rfl, some ⟨w.heap.size, 0, none⟩, cap, by rw [List.length_append], by rw [List.length_append]; exact hcap, .inr ⟨_, us ++ news, rfl, rfl, ?_, ?_, ?_⟩⟩
          · exact ⟨hs.mem.new_ok (Nat.le_refl _), by simp [cx], fun x hx => absurd (hs.mem.live x _ hx).2.1 (Nat.lt_irrefl _)⟩
          · have hown : Own (w.drew.alloc (.cells vs et)) w.heap.size vs := ⟨et, heap_alloc_new w.drew _⟩
            have := hown.cells
            rw [hrest] at this
            have h2 := this.take (us ++ news).length
            rwa [List.take_left] at h2
          · exact (hxs.imp fun x u hx => hx.mono hle.A hle.w).append (hr.imp fun x u hx => hx.mono hle.A hle.w)
      · cases h
    · cases h
  · rename_i t
    split at h
    · rename_i o ho
      split at h
      · rename_i he
        simp only [Option.bind_eq_some_iff] at h
        obtain ⟨ys, hys, h⟩ := h
        unfold appOk at h
        split at h
        · rename_i hn
          refine ⟨_, _, h, ?_⟩
          obtain ⟨news, hsrc, hr⟩ := appArg_src hε hs.mem hys hx
          obtain ⟨et, inf, z, hu, hinf, hsz, hby, hz, hzs, hu8⟩ := elemTy_ok hε he
          have hsrc' := hsrc
          rw [← hsz] at hsrc'
          have hzs' := hzs
          rw [← hsz] at hzs'
          simp only [RepAV, cx] at hsr
          have hp := elemTy_plain hε he
          have hwhole := (WholeAt.plain hp).1 (hsr.2.2 o ho)
          have hl := (LstAt.plain hp).1 (hs.mem.hlst t o ho)
          have fin : ∀ (v : Value) (w' : World) (μ' : Mu), w.heap.size ≤ w'.heap.size → Below w0.heap.size w w' → (∀ k, k < w.heap.size → μ.at_ (.l t) ≠ some k → w'.heap[k]? = w.heap[k]?) →
              (∀ x, x ≠ .l t → μ'.at_ x = μ.at_ x) → (∀ s, s ≠ t → μ'.cap s = μ.cap s) → μ'.dp = μ.dp → (∀ b, μ'.at_ (.l t) = some b → w0.heap.size ≤ b ∧ b < w'.heap.size ∧ ((μ.at_ (.l t) = some b) ∨ w.heap.size ≤ b)) →
              (LstAt0 ⟨Imm A0 w0 μ' w', w', μ', st.recs, st.lsts, A0.keep⟩ t ⟨o.e, o.xs ++ ys⟩) → (o.e = .int .u8 → ∀ b, μ'.at_ (.l t) = some b → ∃ vs, w'.heap[b]? = some (.cells vs GI.u8 (0, 0))) → v.oneCell' = true → WholeAt0 μ' t ⟨o.e, o.xs ++ ys⟩ v →
              (Builtin.append_ #[sT, xT] ty #[vs, vx]).run P w = .ok v w' →
              ∃ v w', (Builtin.append_ #[sT, xT] ty #[vs, vx]).run P w = .ok v w' ∧ Post A0 w0 tmps (.whole t) { (st.mapAV (AV.kill t)) with lsts := st.lsts.set t (some ⟨o.e, o.xs ++ ys⟩) } v w' := by
            intro v w' μ' h1 h2 h3 h4 h5 h5d h6 h7 hu8' h8 h9 hrun
            obtain ⟨hm', hle⟩ := hs.mem.regrow hp rfl ho (o' := ⟨o.e, o.xs ++ ys⟩) h1 h2 h3 h4 h5 h5d h6 ((LstAt.plain (o := ⟨o.e, o.xs ++ ys⟩) hp).2 h7) hu8'
            refine ⟨v, w', hrun, μ', ?_, ?_, hm'⟩
            · simp only [RepAV, cx]
              refine ⟨by simpa using hsr.1, h8, fun o' ho' => ?_⟩
              rw [getL_set (getL_lt ho), if_pos rfl] at ho'; cases ho'
              exact (WholeAt.plain (o := ⟨o.e, o.xs ++ ys⟩) hp).2 h9
            · have := hs.slots.kill hle
              rw [killL_map] at this; exact this
          rcases hl with ⟨hnone, hnil⟩ | ⟨b, cs, hb, hown, hcsz, hcap, us, rest, e1, hxs⟩
          · rcases hwhole with ⟨_, rfl⟩ | ⟨b, hb, rfl⟩
            · by_cases h0 : ys.length = 0
              · have hys' : ys = [] := List.eq_nil_of_length_eq_zero h0
                have hnews : news = [] := by subst hys'; simpa [RepAll] using hr
                subst hnews
                rw [h0] at hsrc'
                refine fin (.slice none 0 0) w μ (Nat.le_refl _) (Below.refl _ _) (fun _ _ _ => rfl) (fun _ _ => rfl) (fun _ _ => rfl) rfl (fun b' hb' => by
                  rw [show μ.at_ (.l t) = none from hnone] at hb'; cases hb') (.inl ⟨hnone, by simp [hnil, hys']⟩) (fun _ b' hb' => by rw [show μ.at_ (.l t) = none from hnone] at hb'; cases hb') rfl (.inl ⟨hnone, rfl⟩) ?_
                exact run_append_nothing w sT xT ty et inf hu hinf none 0 0 (Nat.le_refl _) vx hsrc'
              · obtain ⟨cap, vs, hcap, hrun, hvs, rest, hrest⟩ := grow_run (P := P) (w := w) (ty := ty) hu hinf hz hby hzs' (olds := []) (base := none) (sLen := 0) (sCap := 0) (by simp) (fun w' hw => firstCells_ok (w := w) (by simp) (.inl rfl) w' hw) hsrc' (by omega) (by omega)
                simp only [Nat.zero_add, List.nil_append] at hcap hrun hrest
                have hbel : Below w.heap.size w (w.drew.alloc (.cells vs et)) := (below_drew w).alloc (Nat.le_refl _) _
                have himm : ∀ b', Imm A0 w0 μ w b' → Imm A0 w0 ((μ.upd (.l t) w.heap.size).setCap t cap) (w.drew.alloc (.cells vs et)) b' := fun b' hb' => imm_cap.2 (imm_upd (w := w.drew) hb')
                refine fin _ _ ((μ.upd (.l t) w.heap.size).setCap t cap) hbel.size (hbel.mono hs.mem.below.size) (fun k hk _ => hbel.block k hk) (fun x hx => by simp only [Mu.upd, Mu.setCap]; rw [if_neg hx]) (fun s hs' => by simp only [Mu.upd, Mu.setCap]; rw [if_neg hs']) rfl
                  (fun b' hb' => by simp [Mu.upd, Mu.setCap] at hb'; subst hb'; exact ⟨hs.mem.below.size, by simp, .inr (Nat.le_refl _)⟩) ?_ (fun e8 b' hb' => by simp [Mu.upd, Mu.setCap] at hb'; subst hb'; exact ⟨vs, by rw [← hu8 e8]; exact heap_alloc_new w.drew _⟩) rfl (.inr ⟨w.heap.size, by simp [Mu.upd, Mu.setCap], by simp [hnil, Mu.setCap]⟩) hrun
                refine .inr ⟨w.heap.size, vs, by simp [Mu.upd, Mu.setCap], ⟨et, heap_alloc_new w.drew _⟩, by simp [Mu.setCap, Mu.upd, hvs, hsz], by simp [Mu.setCap, Mu.upd, hnil, hcap], news, rest, hrest, ?_⟩
                simp only [hnil, List.nil_append]
                exact hr.imp fun x u hx => hx.mono himm fun b' hb' => hbel.block b' hb'.2.1
            · rw [show (cx A0 w0 st.recs st.lsts w μ).μ.at_ (.l t) = μ.at_ (.l t) from rfl, hb] at hnone; cases hnone
          · rcases hwhole with ⟨h3, _⟩ | ⟨b', hb', rfl⟩
            · rw [show (cx A0 w0 st.recs st.lsts w μ).μ.at_ (.l t) = μ.at_ (.l t) from rfl, h3] at hb; cases hb
            · rw [show (cx A0 w0 st.recs st.lsts w μ).μ.at_ (.l t) = μ.at_ (.l t) from rfl, hb'] at hb; cases hb
              have hcsz' : cs.size = μ.cap t * o.e.size := hcsz
              have hcap' : o.xs.length ≤ μ.cap t := hcap
              have hul := hxs.length (sz := o.e.size) fun x u h => h.length
              have hnl := hr.length (sz := o.e.size) fun x u h => h.length
              have hown' : Own w b cs := hown
              by_cases hroom : o.xs.length + ys.length ≤ μ.cap t
              · obtain ⟨el, hel⟩ := hown'
                have hfit : us.length + news.length ≤ cs.size := by
                  rw [hcsz', hul, hnl, ← Nat.add_mul]; exact Nat.mul_le_mul_right _ hroom
                have hst := run_storeCells_at P b us.length el news 0 cs w hel (by simpa using hfit) hsrc.one
                simp only [Nat.add_zero] at hst
                have hcl : cs.toList.length = us.length + rest.length := by rw [e1]; simp
                have hcs' : cs.toList.take us.length ++ news ++ cs.toList.drop (us.length + news.length) = us ++ news ++ rest.drop news.length := by
                  rw [e1, List.take_left, List.drop_append, List.drop_of_length_le (l := us) (by omega), List.nil_append, Nat.add_sub_cancel_left]
                rw [hcs'] at hst
                have hrun : (Builtin.append_ #[sT, xT] ty #[.slice (some ⟨b, 0, none⟩) o.xs.length (μ.cap t), vx]).run P w = .ok (.slice (some ⟨b, 0, none⟩) (o.xs.length + ys.length) (μ.cap t)) (w.setRow b (us ++ news ++ rest.drop news.length).toArray) := by
                  have hmul : o.xs.length * inf.size = us.length := by rw [hul, hsz]
                  rcases hsrc'.kind with ⟨e', hk⟩ | hk <;> simp [Builtin.append_, run_underlying hu, run_underlying hk, sizeOf, typeInfo, hinf, hsrc'.len, hroom, hsrc'.cells, hmul, add_addr, hst]
                refine fin _ _ μ (by rw [setRow_size]; exact Nat.le_refl _) (Below.setRow (Below.refl _ _) (hs.mem.live _ _ hb').1 _) (fun k hk hne => setRow_other w b _ fun e => hne (by rw [e]; exact hb')) (fun _ _ => rfl) (fun _ _ => rfl) rfl
                  (fun b2 hb2 => ⟨(hs.mem.live _ _ hb2).1, by rw [setRow_size]; exact (hs.mem.live _ _ hb2).2.1, .inl hb2⟩) ?_ (fun e8 b2 hb2 => by obtain ⟨v2, h2⟩ := hs.mem.bty.l t o ho e8 b2 hb2; exact row_kept h2) rfl (.inr ⟨b, hb', by rw [List.length_append]⟩) hrun
                refine .inr ⟨b, _, hb', Own.setRow ⟨el, hel⟩ _, ?_, by rw [List.length_append]; exact hroom, us ++ news, rest.drop news.length, rfl, ?_⟩
                · rw [← hcsz', List.size_toArray, List.length_append, List.length_append, List.length_drop]
                  have : cs.toList.length = cs.size := Array.length_toList
                  omega
                · have himm : ∀ {x : o.e.den} {u}, Rep (Imm A0 w0 μ w) w o.e x u → Rep (Imm A0 w0 μ (w.setRow b (us ++ news ++ rest.drop news.length).toArray)) (w.setRow b (us ++ news ++ rest.drop news.length).toArray) o.e x u := fun hx =>
                    hx.mono (fun k hk => imm_setRow.2 hk) fun k hk => setRow_other w b _ fun e => hk.2.2 (.l t) (by rw [e]; exact hb')
                  exact (hxs.imp fun x u hx => himm hx).append (hr.imp fun x u hx => himm hx)
              · have hcellsU : CellsAt w ⟨b, 0, none⟩ us := by
                  have := hown'.cells
                  rw [e1] at this
                  have h2 := this.take us.length
                  rwa [List.take_left] at h2
                have hus' : us.length = o.xs.length * inf.size := by rw [hul, hsz]
                obtain ⟨cap, vs, hcap2, hrun, hvs, rest', hrest⟩ := grow_run (P := P) (w := w) (ty := ty) hu hinf hz hby hzs' (base := some ⟨b, 0, none⟩) (sLen := o.xs.length) (sCap := μ.cap t) hus' (fun w' hw => firstCells_ok (w := w) hus' (.inr ⟨_, rfl, rfl, hcellsU⟩) w' hw) hsrc' (by omega) hn
                have hbel : Below w.heap.size w (w.drew.alloc (.cells vs et)) := (below_drew w).alloc (Nat.le_refl _) _
                have himm : ∀ b', Imm A0 w0 μ w b' → Imm A0 w0 ((μ.upd (.l t) w.heap.size).setCap t cap) (w.drew.alloc (.cells vs et)) b' := fun b' hb' => imm_cap.2 (imm_upd (w := w.drew) hb')
                refine fin _ _ ((μ.upd (.l t) w.heap.size).setCap t cap) hbel.size (hbel.mono hs.mem.below.size) (fun k hk _ => hbel.block k hk) (fun x hx => by simp only [Mu.upd, Mu.setCap]; rw [if_neg hx]) (fun s hs' => by simp only [Mu.upd, Mu.setCap]; rw [if_neg hs']) rfl
                  (fun b' hb' => by simp [Mu.upd, Mu.setCap] at hb'; subst hb'; exact ⟨hs.mem.below.size, by simp, .inr (Nat.le_refl _)⟩) ?_ (fun e8 b' hb' => by simp [Mu.upd, Mu.setCap] at hb'; subst hb'; exact ⟨vs, by rw [← hu8 e8]; exact heap_alloc_new w.drew _⟩) rfl (.inr ⟨w.heap.size, by simp [Mu.upd, Mu.setCap], by simp [Mu.setCap]⟩) hrun
                refine .inr ⟨w.heap.size, vs, by simp [Mu.upd, Mu.setCap], ⟨et, heap_alloc_new w.drew _⟩, by simp [Mu.setCap, Mu.upd, hvs, hsz], by simp [Mu.setCap, Mu.upd, hcap2], us ++ news, rest', hrest, ?_⟩
                exact (hxs.imp fun x u hx => hx.mono himm fun b' hb' => hbel.block b' hb'.2.1).append (hr.imp fun x u hx => hx.mono himm fun b' hb' => hbel.block b' hb'.2.1)
        · cases h
      · cases h
    · cases h
  · rename_i fs
    split at h
    · rename_i he
      simp only [Option.bind_eq_some_iff] at h
      obtain ⟨ys, hys, y, hy, h⟩ := h
      unfold appOk at h
      split at h
      · rename_i hn
        refine ⟨_, _, h, ?_⟩
        obtain rfl : ys = [y] := by
          unfold oneOf at hy
          split at hy
          · cases hy; rfl
          · cases hy
        obtain ⟨news, hsrc, hr⟩ := appArg_src hε hs.mem hys hx
        obtain ⟨u5, u0, rfl, hr5, hr0⟩ := hr
        simp only [RepAll] at hr0
        subst hr0
        rw [List.append_nil] at hsrc
        replace hr5 : Rep (Imm A0 w0 μ w) w .value y u5 := hr5
        have hu5 : u5.length = 5 := Rep.length hr5
        obtain ⟨et, inf, z, hu, hinf, hsz, hby, hz, hzs, hu8⟩ := elemTy_ok hε he
        have hsz5 : inf.size = 5 := hsz
        have hsrc' := hsrc
        rw [← hsz] at hsrc'
        have hzs' := hzs
        rw [← hsz] at hzs'
        simp only [RepAV, RepSX, cx] at hsr
        obtain ⟨cap, hd, rfl, h0⟩ := hsr
        have fin : ∀ (w' : World) (b cap' : Nat) (vs' : Array Value) (pre rest : List Value), w.heap.size ≤ w'.heap.size → Below w0.heap.size w w' → (∀ k, k < w.heap.size → μ.at_ (.n 0) ≠ some k → w'.heap[k]? = w.heap[k]?) →
            w0.heap.size ≤ b → b < w'.heap.size → (μ.at_ (.n 0) = some b ∨ w.heap.size ≤ b) → Own w' b vs' → vs'.size = cap' * 5 → fs.length + 1 ≤ cap' → FramesAt (cx A0 w0 st.recs st.lsts w μ) 0 fs pre → vs'.toList = pre ++ (u5 ++ rest) →
            (Builtin.append_ #[sT, xT] ty #[hdrV μ fs.length cap, vx]).run P w = .ok (.slice (some ⟨b, 0, none⟩) (fs.length + 1) cap') w' →
            ∃ v w', (Builtin.append_ #[sT, xT] ty #[hdrV μ fs.length cap, vx]).run P w = .ok v w' ∧ Post A0 w0 tmps (.sx (.foc st.recs.length fs)) { st with slots := killSL st.slots, recs := killSR st.recs ++ [some (.sx .mark :: unpack .value y)] } v w' := by
          intro w' b cap' vs' pre rest g1 g2 g3 g4 g5 g6 g7 g8 g9 g10 g11 hrun
          obtain ⟨hm', hle⟩ := hs.mem.grown hd (c5 := unpack .value y) g1 g2 g3 g4 g5 g6 g7 g8 g9 g10 g11 hu5 fun c' hA hw => by
            have h5 : Rep c'.A c'.w .value y u5 := Rep.mono (t := .value) (x := y) (vs := u5) hA hw hr5
            exact unpack_rep (t := .value) (x := y) h5
          refine ⟨_, w', hrun, μ.push b st.recs.length cap' fs, ?_, ?_, ?_⟩
          · simp only [RepAV, RepSX, cx]
            exact ⟨cap', b, rfl, by simp [Mu.push], rfl, g9⟩
          · have h6 := hs.slots.mapS (f := fun _ => .dead) hle fun _ _ _ => by simp only [RepAV]
            rw [← killSL_map, ← killSR_map] at h6
            exact h6
          · rw [killSR_map]; exact hm'
        have hdeep := hs.mem.deep _ hd
        rcases hdeep.row with ⟨hnone, hnil, _⟩ | ⟨b, cs, pre, rest, hb, hown, hcsz, hcap, e1, hfr⟩
        · replace hnone : μ.at_ (.n 0) = none := hnone
          replace hnil : fs = [] := hnil
          subst hnil
          obtain ⟨cap', vs, hcap', hrun, hvs, rest, hrest⟩ := grow_run (P := P) (w := w) (ty := ty) hu hinf hz hby hzs' (olds := []) (base := none) (sLen := 0) (sCap := 0) (by simp) (fun w' hw => firstCells_ok (w := w) (by simp) (.inl rfl) w' hw) hsrc' (by simp) (by simp)
          simp only [Nat.zero_add, List.nil_append] at hcap' hrun hrest
          have hbel : Below w.heap.size w (w.drew.alloc (.cells vs et)) := (below_drew w).alloc (Nat.le_refl _) _
          refine fin _ w.heap.size cap' vs [] rest hbel.size (hbel.mono hs.mem.below.size) (fun k hk _ => hbel.block k hk) hs.mem.below.size (by simp) (.inr (Nat.le_refl _)) ⟨et, heap_alloc_new w.drew _⟩ (by rw [hvs, hsz5]) (by simpa using hcap') rfl (by rw [hrest]; rfl) ?_
          have hh : hdrV μ ([] : List V).length cap = .slice none 0 0 := by unfold hdrV; rw [hnone]
          rw [hh]; simpa using hrun
        · replace hb : μ.at_ (.n 0) = some b := hb
          replace hown : Own w b cs := hown
          replace hcsz : cs.size = cap * 5 := hcsz
          replace hcap : fs.length ≤ cap := by simpa using hcap
          have hh : hdrV μ fs.length cap = .slice (some ⟨b, 0, none⟩) fs.length cap := by unfold hdrV; rw [hb]
          have hpl : pre.length = fs.length * 5 := hfr.length
          by_cases hroom : fs.length + 1 ≤ cap
          · obtain ⟨el, hel⟩ := hown
            have hfit : pre.length + u5.length ≤ cs.size := by omega
            have hst := run_storeCells_at P b pre.length el u5 0 cs w hel (by simpa using hfit) hsrc.one
            simp only [Nat.add_zero] at hst
            have hcl : cs.toList.length = pre.length + rest.length := by rw [e1]; simp
            have hcs' : cs.toList.take pre.length ++ u5 ++ cs.toList.drop (pre.length + u5.length) = pre ++ u5 ++ rest.drop u5.length := by
              rw [e1, List.take_left, List.drop_append, List.drop_of_length_le (l := pre) (by omega), List.nil_append, Nat.add_sub_cancel_left]
            rw [hcs'] at hst
            have hrun : (Builtin.append_ #[sT, xT] ty #[.slice (some ⟨b, 0, none⟩) fs.length cap, vx]).run P w = .ok (.slice (some ⟨b, 0, none⟩) (fs.length + 1) cap) (w.setRow b (pre ++ u5 ++ rest.drop u5.length).toArray) := by
              have hmul : fs.length * inf.size = pre.length := by rw [hpl, hsz5]
              have hlen := hsrc'.len
              simp only [List.length_singleton] at hlen
              have hcc := hsrc'.cells
              simp only [List.length_singleton] at hcc
              rcases hsrc'.kind with ⟨e', hk⟩ | hk <;> simp [Builtin.append_, run_underlying hu, run_underlying hk, sizeOf, typeInfo, hinf, hlen, hroom, hcc, hmul, add_addr, hst]
            refine fin (w.setRow b (pre ++ u5 ++ rest.drop u5.length).toArray) b cap (pre ++ u5 ++ rest.drop u5.length).toArray pre (rest.drop u5.length) (by rw [setRow_size]; exact Nat.le_refl _) (Below.setRow (Below.refl _ _) (hs.mem.live _ _ hb).1 _) (fun k hk hne => setRow_other w b _ fun e => hne (by rw [e]; exact hb)) (hs.mem.live _ _ hb).1 (by rw [setRow_size]; exact (hs.mem.live _ _ hb).2.1) (.inl hb) (Own.setRow (vs := cs) ⟨el, hel⟩ _) ?_ hroom hfr (by simp) (by rw [hh]; exact hrun)
            rw [← hcsz, List.size_toArray, List.length_append, List.length_append, List.length_drop]
            have : cs.toList.length = cs.size := Array.length_toList
            omega
          · have hcellsU : CellsAt w ⟨b, 0, none⟩ pre := by
              have := hown.cells
              rw [e1] at this
              have h2 := this.take pre.length
              rwa [List.take_left] at h2
            have hus' : pre.length = fs.length * inf.size := by rw [hpl, hsz5]
            obtain ⟨cap', vs, hcap2, hrun, hvs, rest', hrest⟩ := grow_run (P := P) (w := w) (ty := ty) hu hinf hz hby hzs' (base := some ⟨b, 0, none⟩) (sLen := fs.length) (sCap := cap) hus' (fun w' hw => firstCells_ok (w := w) hus' (.inr ⟨_, rfl, rfl, hcellsU⟩) w' hw) hsrc' (by simp; omega) (by simpa using hn)
            have hbel : Below w.heap.size w (w.drew.alloc (.cells vs et)) := (below_drew w).alloc (Nat.le_refl _) _
            refine fin _ w.heap.size cap' vs pre rest' hbel.size (hbel.mono hs.mem.below.size) (fun k hk _ => hbel.block k hk) hs.mem.below.size (by simp) (.inr (Nat.le_refl _)) ⟨et, heap_alloc_new w.drew _⟩ (by rw [hvs, hsz5]) (by simpa using hcap2) hfr (by rw [hrest, List.append_assoc]) ?_
            rw [hh]; simpa using hrun
      · cases h
    · cases h
  · cases h
end
end Go.Pe
end
section
namespace Go.Pe
open Go.RowKit
set_option linter.unusedSectionVars false
variable [GI]
set_option linter.unusedSimpArgs false
set_option linter.unusedVariables false

theorem range_add_map {α : Type} (f : Nat → α) (a b : Nat) : (List.range (a + b)).map f = (List.range a).map f ++ (List.range b).map (fun j => f (a + j)) := by
  rw [List.range_add, List.map_append, List.map_map]; rfl
theorem madeCells_list (z : Array Value) (c : Nat) : (madeCells z (c * z.size)).toList = (List.replicate c z.toList).flatten := by
  simp only [madeCells, Array.toList_map, Array.toList_range]
  induction c with
  | zero => simp
  | succ c ih =>
    rw [Nat.succ_mul, Nat.add_comm, range_add_map, List.replicate_succ, List.flatten_cons]
    congr 1
    · apply List.ext_getElem
      · simp
      · intro i h1 h2
        simp at h1
        simp [Nat.mod_eq_of_lt h1, h1]
    · rw [← ih]
      apply List.map_congr_left
      intro j _
      rw [Nat.add_mod_left]

section
variable {P : Program} {A0 : Dom} {w0 w : World} {st : St} {tmps : Array Value} {a : Act} {μ : Mu} {S : Type} {o : Oper}
variable {ε : Env} (hε : EnvOk P ε)
include hε

theorem make_run' (hs : Sim A0 w0 st tmps w μ) {t : Nat} {l c : AV} {vl vc : Value} (hl : RepAV (cx A0 w0 st.recs st.lsts w μ) l vl) (hc : RepAV (cx A0 w0 st.recs st.lsts w μ) c vc) (K : AV → St → Option S) (r : S) (h : evMake ε st t l c K = some r) :
    ∃ av st', K av st' = some r ∧ ∃ v w', (Instr.makeSlice t vl vc).run P w = .ok v w' ∧ Post A0 w0 tmps av st' v w' := by
  unfold evMake at h
  split at h
  · cases h
  · rename_i et het
    split at h
    · rename_i i k n k' m hi
      change Int at n; change Int at m
      split at h
      · rename_i e he
        split at h
        · rename_i z hz
          unfold makeOk at h
          split at h
          · rename_i hn
            simp only [RepAV, Rep, List.cons.injEq, and_true] at hl hc; subst hl; subst hc
            have hti := hε.ti et i hi
            obtain ⟨inf, hinf, hsz, hby, zv, hzv, hzl, hzr⟩ := hti.info
            have hsz2 := hti.ty e he
            have hzero : RepAVs (cx A0 w0 st.recs st.lsts w μ) i.zero zv.cells.toList := hzr _
            obtain ⟨u1, u2, e1, hz1, hz2⟩ := packTo_rep (lsts := []) (A' := Imm A0 w0 μ w) (fun _ h => h) (fun t o v h => no_lists t o v h) hz hzero
            have hu2 := hz2.nil; subst hu2
            rw [List.append_nil] at e1
            rw [← e1] at hz1
            have hb : (inf.bytes : Int) * m ≤ 281474976710656 := by
              have h1 : (inf.bytes : Int) ≤ 16384 := by omega
              have h2 : (inf.bytes : Int) * m ≤ 16384 * 4294967296 := Int.mul_le_mul h1 hn.2.2 (by omega) (by omega)
              omega
            have hrun := run_make (P := P) w t et inf zv (elemT_ok hε het) hinf hzv k k' n m hn.1 hn.2.1 hb (by omega)
            have hzs : zv.cells.size = inf.size := by rw [hzl, hsz]
            have hcell : (madeCells zv.cells (m.toNat * inf.size)).toList = (List.replicate m.toNat zv.cells.toList).flatten := by
              rw [← hzs]; exact madeCells_list _ _
            have hall : ∀ q : Nat, RepAll (Rep (Imm A0 w0 μ w) w e) (List.replicate q z) (List.replicate q zv.cells.toList).flatten := by
              intro q
              induction q with
              | zero => rfl
              | succ q ih => exact ⟨_, _, rfl, hz1, ih⟩
            have hsplit : (madeCells zv.cells (m.toNat * inf.size)).toList = (List.replicate n.toNat zv.cells.toList).flatten ++ (List.replicate (m.toNat - n.toNat) zv.cells.toList).flatten := by
              rw [hcell, ← List.flatten_append, List.replicate_append_replicate]; congr 2; omega
            have hmem := hs.mem.newLst (l := ⟨e, List.replicate n.toNat z⟩) (hti.plain e he) (hall _) hsplit (c := m.toNat) (by rw [size_madeCells, hsz, hsz2]) (by simp; omega) et (fun e8 => hti.u8 (by rw [he]; exact congrArg some e8))
            refine ⟨_, _, h, _, _, hrun, _, ?_, hs.slots.mono (le_newLst _ _ _), hmem⟩
            simp only [RepAV, cx]
            refine ⟨by simp, rfl, fun o ho => ?_⟩
            rw [getL_new] at ho; cases ho
            exact (WholeAt.plain (hti.plain e he)).2 (.inr ⟨w.heap.size, by simp [Mu.upd, Mu.setCap], by simp [Mu.setCap]⟩)
          · cases h
        · cases h
      · cases h
    · cases h

omit hε in
theorem fill_all {c : Cx} {e : Ty} : ∀ {parts : List (Nat × AV)} {vs : List (Nat × Value)} {k : Nat} {xs : List e.den} {us : List Value}, packAll e parts k = some xs → parts.length = vs.length →
    (∀ i (h : i < parts.length) (h' : i < vs.length), parts[i].1 = vs[i].1 ∧ RepAV c parts[i].2 vs[i].2) → us.length = (k + parts.length) * e.size →
    ∃ news, Instr.fill (fun i => some (i * e.size, e.size)) us.toArray vs = some (us.take (k * e.size) ++ news).toArray ∧ RepAll (Rep c.A c.w e) xs news
  | [], vs, k, xs, us, h, hl, _, hus => by
    simp only [packAll, Option.some.injEq] at h; subst h
    have : vs = [] := List.eq_nil_of_length_eq_zero hl.symm
    subst this
    refine ⟨[], ?_, rfl⟩
    simp only [List.length_nil, Nat.add_zero] at hus
    rw [List.take_of_length_le (by omega), List.append_nil]; rfl
  | (i, av) :: rest, [], _, _, _, _, hl, _, _ => by simp at hl
  | (i, av) :: rest, (i', v) :: vs, k, xs, us, h, hl, hall, hus => by
    obtain ⟨rfl, hav⟩ := hall 0 (by simp) (by simp)
    simp only [List.getElem_cons_zero] at hav h
    simp only [packAll] at h
    split at h
    · rename_i hc
      obtain ⟨rfl, hok⟩ := hc
      simp only [Option.bind_eq_some_iff] at h
      obtain ⟨x, hx, l, hl', e0⟩ := h
      simp only [Option.some.injEq] at e0; subst e0
      unfold packVal at hx
      simp only [Option.bind_eq_some_iff] at hx
      obtain ⟨z, hz, hx⟩ := hx
      split at hx
      · rename_i hz2
        simp only [Option.some.injEq] at hx; subst hx
        obtain ⟨hcr, hone⟩ := cells_rep hok hav
        obtain ⟨u1, u2, e1, hz1, hz3⟩ := packTo_rep (lsts := []) (A' := c.A) (fun _ h => h) (fun t o v h => no_lists t o v h) hz hcr
        rw [hz2] at hz3
        have hu2 := hz3.nil; subst hu2
        rw [List.append_nil] at e1
        rw [← e1] at hz1
        have hvl := hz1.length
        simp only [List.getElem_cons_zero, List.length_cons] at *
        have hsz : v.cells.size = e.size := by rw [← hvl]; simp
        have hbound : i * e.size + e.size ≤ us.length := by
          rw [hus, ← Nat.succ_mul]; exact Nat.mul_le_mul_right _ (by omega)
        have hf := foldl_set v.cells.toList 0 (i * e.size) us (by simp; omega)
        simp only [Nat.add_zero] at hf
        obtain ⟨news, h1, h2⟩ := fill_all (c := c) (parts := rest) (vs := vs) (k := i + 1) (us := us.take (i * e.size) ++ v.cells.toList ++ us.drop (i * e.size + v.cells.toList.length)) hl' (by omega) (fun j h h' => by
          have := hall (j + 1) (by simpa using h) (by simpa using h')
          simpa using this) (by
            simp only [List.length_append, List.length_take, List.length_drop, hvl]
            have : (i + 1 + rest.length) * e.size = us.length := by rw [hus]; congr 1; omega
            omega)
        refine ⟨v.cells.toList ++ news, ?_, ⟨_, _, rfl, hz1, h2⟩⟩
        simp only [Instr.fill, hsz, ne_eq, not_true, decide_false, Bool.false_or, decide_eq_true_eq, List.size_toArray]
        rw [if_neg (by omega)]
        have e3 : (v.cells.zipIdx.foldl (fun (cs : Array Value) p => cs.setIfInBounds (i * e.size + p.2) p.1) us.toArray) = (us.take (i * e.size) ++ v.cells.toList ++ us.drop (i * e.size + v.cells.toList.length)).toArray := by
          rw [← hf, ← Array.foldl_toList, Array.toList_zipIdx]
        rw [e3, h1]
        congr 2
        rw [← List.append_assoc]
        congr 1
        rw [List.take_append_of_le_length (by simp [hvl, Nat.succ_mul]; omega), List.take_of_length_le (by simp [hvl, Nat.succ_mul]; omega)]
      · cases hx
    · cases h

omit hε in
theorem bslice (w : World) (t e : TypeId) (len : Nat) (parts : Array (Nat × Value)) (cells : Array Value) (ie : TypeInfo) (z : Value) (L : List Value)
    (hu : P.underlying t = some (.slice e)) (hie : P.info? e = some ie) (hz : ie.zero = some z) (hsmall : ¬ 16777216 < len * ie.size) (hpos : ¬ len * ie.size = 0)
    (hL : (madeCells z.cells (len * ie.size)).toList = L)
    (h : Instr.fill (fun i => some (i * ie.size, ie.size)) L.toArray parts.toList = some cells) :
    (Instr.buildSlice t len parts).run P w = .ok (.slice (some ⟨w.heap.size, 0, none⟩) len len) (w.alloc (.cells cells e)) := by
  refine run_buildSlice w t e len parts cells ie z hu hie hz (by rw [show (2 : Nat) ^ 24 = 16777216 from rfl]; exact hsmall) hpos ?_
  rw [← h]; congr 1; rw [← hL]; rfl

theorem buildSlice_run (hs : Sim A0 w0 st a.tmps w μ) {own : Bool} {t len : Nat} {parts : Array (Nat × Operand)} (K : AV → St → Option S) (r : S) (h : evBuildSlice ε st own t len parts.toList K = some r) :
    ∃ av st', K av st' = some r ∧ ∃ v w', (Instr.buildSlice t len (parts.map fun (i, x) => (i, a.eval x))).run P w = .ok v w' ∧ Post A0 w0 a.tmps av st' v w' := by
  unfold evBuildSlice at h
  split at h
  · rename_i e he
    obtain ⟨et, inf, z, hu, hinf, hsz, hby, hz, hzs, hu8⟩ := elemTy_ok hε he
    split at h
    · rename_i hlen
      obtain ⟨hlen, hsmall, hpos⟩ := hlen
      have hns : ¬ (16777216 < len * inf.size) := by rw [hsz]; omega
      split at h
      · rename_i hnil
        have hp : parts = #[] := by apply Array.ext'; simpa using hnil
        subst hp
        simp at hlen; subst hlen
        have hbel : Below w.heap.size w (w.alloc (.cells #[] et)) := (Below.refl _ _).alloc (Nat.le_refl _) _
        refine ⟨_, _, h, .slice (some ⟨w.heap.size, 0, none⟩) 0 0, w.alloc (.cells #[] et), ?_, _, ?_, hs.slots.mono (le_newLst _ _ _), hs.mem.newLst (l := ⟨e, []⟩) (elemTy_plain hε he) (us := []) (rest := []) (vs := #[]) (c := 0) (by simp only [RepAll]) rfl (by simp) (Nat.le_refl _) et hu8⟩
        · simp [Instr.buildSlice, run_underlying hu, sizeOf, typeInfo, hinf, Instr.fill, newRow, Array.range_zero']
        · simp only [RepAV, cx]
          refine ⟨by simp, rfl, fun o ho => ?_⟩
          rw [getL_new] at ho; cases ho
          exact (WholeAt.plain (elemTy_plain hε he)).2 (.inr ⟨w.heap.size, by simp [Mu.upd, Mu.setCap], by simp [Mu.setCap]⟩)
      · rename_i hne
        simp only [Option.bind_eq_some_iff] at h
        obtain ⟨xs, hxs, h⟩ := h
        obtain ⟨μ1, hs1, _⟩ := Sim.freeze (parts.toList.flatMap fun p => (st.ev p.2).wholes) hs
        generalize st.freeze (parts.toList.flatMap fun p => (st.ev p.2).wholes) = st1 at h hs1 hxs
        have hpl : (parts.toList.map fun p => (p.1, st1.ev p.2)).length = len := by simpa using hlen
        obtain ⟨news, hf, hr⟩ := fill_all (c := cx A0 w0 st1.recs st1.lsts w μ1) (vs := (parts.toList.map fun p => (p.1, a.eval p.2))) (us := (List.replicate len z.cells.toList).flatten) hxs (by simp) (fun i h h' => by
          simp only [List.getElem_map]
          exact ⟨trivial, ev_rep hs1.slots _⟩) (by rw [hpl]; simp [hzs])
        simp only [Nat.zero_mul, List.take_zero, List.nil_append] at hf
        have hxl : xs.length = len := by
          have key : ∀ (ps : List (Nat × AV)) (k : Nat) (ys : List e.den), packAll e ps k = some ys → ys.length = ps.length := by
            intro ps
            induction ps with
            | nil => intro k ys h; simp only [packAll, Option.some.injEq] at h; subst h; rfl
            | cons p ps ih =>
              intro k ys h
              simp only [packAll] at h
              split at h
              · simp only [Option.bind_eq_some_iff] at h
                obtain ⟨x, _, l, hl, e⟩ := h
                simp only [Option.some.injEq] at e; subst e
                simp [ih _ _ hl]
              · cases h
          rw [key _ _ _ hxs, hpl]
        have hzl2 : (madeCells z.cells (len * inf.size)).toList = (List.replicate len z.cells.toList).flatten := by
          have := madeCells_list z.cells len
          rw [hzs, ← hsz] at this
          exact this
        have hbel : Below w.heap.size w (w.alloc (.cells news.toArray et)) := (Below.refl _ _).alloc (Nat.le_refl _) _
        have hrunX : (Instr.buildSlice t len (parts.map fun (i, x) => (i, a.eval x))).run P w = .ok (.slice (some ⟨w.heap.size, 0, none⟩) len len) (w.alloc (.cells news.toArray et)) := by
          have hf' : Instr.fill (fun i => some (i * inf.size, inf.size)) (List.replicate len z.cells.toList).flatten.toArray (parts.map fun (i, x) => (i, a.eval x)).toList = some news.toArray := by
            rw [hsz, ← hf]; simp
          have hlen0 : len ≠ 0 := by
            intro e0; subst e0
            exact hne (List.eq_nil_of_length_eq_zero hlen)
          have h0 : ¬ len * inf.size = 0 := by rw [hsz]; intro e0; rcases Nat.mul_eq_zero.1 e0 with h | h <;> contradiction
          have hrun := bslice (P := P) w t et len (parts.map fun (i, x) => (i, a.eval x)) news.toArray inf z (List.replicate len z.cells.toList).flatten hu hinf hz hns h0 hzl2
          have hrun2 := hrun hf'
          exact hrun2
        cases own
        · dsimp only at h
          refine ⟨_, _, h, .slice (some ⟨w.heap.size, 0, none⟩) len len, _, hrunX, μ1, ?_, hs1.ext hbel⟩
          have hle := cx.ext (A0 := A0) (w0 := w0) (recs := st1.recs) (lsts := st1.lsts) (μ := μ1) hbel
          simp only [RepAV, Rep, List.cons.injEq, and_true]
          refine ⟨⟨_, by rw [hxl]⟩, _, rfl, some ⟨w.heap.size, 0, none⟩, len, by rw [hxl], by rw [hxl]; exact Nat.le_refl _, .inr ⟨_, news, rfl, rfl, ?_, ?_, hr.imp fun x u hx => hx.mono hle.A hle.w⟩⟩
          · exact ⟨hs1.mem.new_ok (Nat.le_refl _), by simp [cx], fun x hx => absurd (hs1.mem.live x _ hx).2.1 (Nat.lt_irrefl _)⟩
          · have hown : Own (w.alloc (.cells news.toArray et)) w.heap.size news.toArray := ⟨et, heap_alloc_new w _⟩
            have := hown.cells
            simpa [cx] using this
        · dsimp only at h
          have hnl : news.length = xs.length * e.size := hr.length fun x u h => h.length
          have hr2 : RepAll (Rep (Imm A0 w0 μ1 w) w e) xs news := hr
          refine ⟨_, _, h, .slice (some ⟨w.heap.size, 0, none⟩) len len, _, hrunX, _, ?_, hs1.slots.mono (le_newLst _ _ _), hs1.mem.newLst (l := ⟨e, xs⟩) (elemTy_plain hε he) (us := news) (rest := []) (vs := news.toArray) (c := len) hr2 (by simp) (by simp [hnl, hxl]) (by simp only; rw [hxl]; exact Nat.le_refl _) et hu8⟩
          simp only [RepAV, cx]
          refine ⟨by simp, rfl, fun o ho => ?_⟩
          rw [getL_new] at ho; cases ho
          exact (WholeAt.plain (elemTy_plain hε he)).2 (.inr ⟨w.heap.size, by simp [Mu.upd, Mu.setCap], by simp [Mu.setCap, hxl]⟩)
    · cases h
  · cases h

/-! ### Calls -/
omit hε in
theorem close_rep {A' : Nat → Prop} (hm : Mem A0 w0 st.recs st.lsts w μ) (hA : ∀ b, Imm A0 w0 μ w b → A' b) (hO : ∀ t b, μ.at_ (.l t) = some b → A' b) : ∀ {x y : AV} {v : Value}, x.close st.lsts = some y → RepAV (cx A0 w0 st.recs st.lsts w μ) x v → y.closed = true ∧ RepAV (c0 A' w) y v := by
  intro x
  refine AV.rec (motive_1 := fun x => ∀ {y : AV} {v : Value}, x.close st.lsts = some y → RepAV (cx A0 w0 st.recs st.lsts w μ) x v → y.closed = true ∧ RepAV (c0 A' w) y v)
    (motive_2 := fun l => ∀ {l' : List AV} {vs : List Value}, closeL st.lsts l = some l' → RepAVs (cx A0 w0 st.recs st.lsts w μ) l vs → closedL l' = true ∧ RepAVs (c0 A' w) l' vs) ?_ ?_ ?_ ?_ ?_ ?_ ?_ ?_ ?_ ?_ ?_ ?_ ?_ ?_ ?_ ?_ ?_ x
  · intro t x y v h hr
    simp only [AV.close, Option.some.injEq] at h; subst h
    simp only [RepAV, AV.closed] at hr ⊢
    exact ⟨trivial, hr.mono hA fun _ _ => rfl⟩
  · intro e x y v h hr
    simp only [AV.close, Option.some.injEq] at h; subst h
    simp only [RepAV, AV.closed] at hr ⊢
    exact ⟨trivial, hr.1, hr.2.mono hA fun _ _ => rfl⟩
  · intro y v h hr
    simp only [AV.close, Option.some.injEq] at h; subst h
    simp only [RepAV, AV.closed] at hr ⊢
    exact ⟨trivial, hr⟩
  · intro t y v h hr
    simp only [AV.close] at h
    split at h
    · rename_i o ho
      cases hp : o.e.isMap with
      | true => rw [hp] at h; cases h
      | false =>
      rw [hp] at h
      simp only [Option.some.injEq] at h; subst h
      simp only [RepAV, AV.closed] at hr ⊢
      exact ⟨trivial, whole_rep hp (hm.hlst t o ho) (hr.2.2 o ho) hA fun b hb => hO t b hb⟩
    · cases h
  · intro r off y v h; simp [AV.close] at h
  · intro t i off y v h; simp [AV.close] at h
  · intro cells ih y v h hr
    simp only [AV.close] at h
    split at h
    · rename_i hc
      simp only [Option.some.injEq] at h; subst h
      exact ⟨by simpa [AV.closed] using hc, RepAV.closed (c := cx A0 w0 st.recs st.lsts w μ) (c' := c0 A' w) ⟨hA, fun _ _ => rfl⟩ (by simpa [AV.closed] using hc) hr⟩
    · cases h
  · intro l ih y v h hr
    simp only [AV.close, Option.bind_eq_some_iff, Option.some.injEq] at h
    obtain ⟨m, hm', rfl⟩ := h
    simp only [RepAV, AV.closed] at hr ⊢
    obtain ⟨us, e, hu⟩ := hr
    obtain ⟨h1, h2⟩ := ih hm' hu
    exact ⟨h1, us, e, h2⟩
  · intro l ih y v h hr
    simp only [AV.close, Option.bind_eq_some_iff, Option.some.injEq] at h
    obtain ⟨m, hm', rfl⟩ := h
    simp only [RepAV, AV.closed] at hr ⊢
    obtain ⟨us, e, hu⟩ := hr
    obtain ⟨h1, h2⟩ := ih hm' hu
    exact ⟨h1, us, e, h2⟩
  · intro f a b iha ihb y v h hr
    simp only [AV.close, Option.bind_eq_some_iff, Option.some.injEq] at h
    obtain ⟨a', ha, b', hb, rfl⟩ := h
    simp only [RepAV, AV.closed, Bool.and_eq_true] at hr ⊢
    obtain ⟨ua, ub, e, hra, hrb⟩ := hr
    obtain ⟨h1, h2⟩ := iha ha hra
    obtain ⟨h3, h4⟩ := ihb hb hrb
    exact ⟨⟨h1, h3⟩, ua, ub, e, h2, h4⟩
  · intro q l ih y v h hr
    simp only [AV.close, Option.bind_eq_some_iff, Option.some.injEq] at h
    obtain ⟨m, hm', rfl⟩ := h
    simp only [RepAV, AV.closed] at hr ⊢
    obtain ⟨us, e, hu⟩ := hr
    obtain ⟨h1, h2⟩ := ih hm' hu
    exact ⟨h1, us, e, h2⟩
  · intro r y v h; simp [AV.close] at h
  · intro x y v h; simp [AV.close] at h
  · intro y v h hr
    simp only [AV.close, Option.some.injEq] at h; subst h
    simp only [RepAV, AV.closed] at hr ⊢
    exact ⟨trivial, hr⟩
  · intro y v h; simp [AV.close] at h
  · intro l' vs h hr
    simp only [closeL, Option.some.injEq] at h; subst h
    simp only [RepAVs, closedL] at hr ⊢
    exact ⟨trivial, hr⟩
  · intro x xs ihx ihs l' vs h hr
    simp only [closeL, Option.bind_eq_some_iff, Option.some.injEq] at h
    obtain ⟨x', hx, m, hm', rfl⟩ := h
    obtain ⟨v, us, rfl, h1, h2⟩ := hr.cons'
    obtain ⟨g1, g2⟩ := ihx hx h1
    obtain ⟨g3, g4⟩ := ihs hm' h2
    simp only [closedL, Bool.and_eq_true]
    exact ⟨⟨g1, g3⟩, RepAVs.cons g2 g4⟩
omit hε in
theorem closeL_rep {A' : Nat → Prop} (hm : Mem A0 w0 st.recs st.lsts w μ) (hA : ∀ b, Imm A0 w0 μ w b → A' b) (hO : ∀ t b, μ.at_ (.l t) = some b → A' b) : ∀ {l l' : List AV} {vs : List Value}, closeL st.lsts l = some l' → RepAVs (cx A0 w0 st.recs st.lsts w μ) l vs → closedL l' = true ∧ RepAVs (c0 A' w) l' vs
  | [], l', vs, h, hr => by
    simp only [closeL, Option.some.injEq] at h; subst h
    simp only [RepAVs, closedL] at hr ⊢
    exact ⟨trivial, hr⟩
  | x :: xs, l', vs, h, hr => by
    simp only [closeL, Option.bind_eq_some_iff, Option.some.injEq] at h
    obtain ⟨x', hx, m, hm', rfl⟩ := h
    obtain ⟨v, us, rfl, h1, h2⟩ := hr.cons'
    obtain ⟨g1, g2⟩ := close_rep hm hA hO hx h1
    obtain ⟨g3, g4⟩ := closeL_rep hm hA hO hm' h2
    simp only [closedL, Bool.and_eq_true]
    exact ⟨⟨g1, g3⟩, RepAVs.cons g2 g4⟩
omit hε in
mutual
theorem scalar_rep {c c' : Cx} : ∀ {x : AV} {v : Value}, x.scalar = true → RepAV c x v → RepAV c' x v
  | .d .bool _, _, _, hr | .d (.int _) _, _, _, hr | .d .str _, _, _, hr => by simpa only [RepAV, Rep] using hr
  | .nilP, _, _, hr => by simpa only [RepAV] using hr
  | .nilS, _, _, hr => by simpa only [RepAV] using hr
  | .agg l, _, h, hr => by simp only [RepAV] at hr ⊢; obtain ⟨us, e, hu⟩ := hr; exact ⟨us, e, scalarL_rep (by simpa [AV.scalar] using h) hu⟩
  | .tup l, _, h, hr => by simp only [RepAV] at hr ⊢; obtain ⟨us, e, hu⟩ := hr; exact ⟨us, e, scalarL_rep (by simpa [AV.scalar] using h) hu⟩
  | .d .unit _, _, h, _ | .d (.list _) _, _, h, _ | .d (.prod _ _) _, _, h, _ | .d .value _, _, h, _ | .full _ _, _, h, _ | .whole _, _, h, _ | .ptr _ _, _, h, _ | .eptr _ _ _, _, h, _ | .pim _, _, h, _ | .fn _ _ _, _, h, _ | .ifc _ _, _, h, _ | .bld _, _, h, _ | .dead, _, h, _ => by simp [AV.scalar] at h
theorem scalarL_rep {c c' : Cx} : ∀ {l : List AV} {vs : List Value}, scalarL l = true → RepAVs c l vs → RepAVs c' l vs
  | [], _, _, hr => by simpa only [RepAVs] using hr
  | x :: xs, _, h, hr => by
    obtain ⟨v, us, rfl, h1, h2⟩ := hr.cons'
    simp only [scalarL, Bool.and_eq_true] at h
    exact RepAVs.cons (scalar_rep h.1 h1) (scalarL_rep h.2 h2)
end
theorem call_run (hs : Sim A0 w0 st a.tmps w μ) {f : Nat} {args : List Operand} {pre post : List AV} {vpre vpost : List Value} (hpre : RepAVs (cx A0 w0 st.recs st.lsts w μ) pre vpre) (hpost : RepAVs (cx A0 w0 st.recs st.lsts w μ) post vpost) (K : AV → St → Option S) (r : S) (h : evCall ε st f args pre post K = some r) :
    ∃ av st', K av st' = some r ∧ (∃ fn, P.funcs[f]? = some fn ∧ (fn.name == "runtime.NumGoroutine") = false ∧ fn.body.isSome = true) ∧
      Calls P f (vpre ++ args.map a.eval ++ vpost).toArray w fun e w' => ∃ v, e = .returned v ∧ Post A0 w0 a.tmps av st' v w' := by
  unfold evCall at h
  split at h
  · cases h
  · rename_i G sc hG
    obtain ⟨hfn, hS⟩ := hε.fn f G sc hG
    split at h
    · simp only [Option.bind_eq_some_iff] at h
      obtain ⟨as, has, h⟩ := h
      have hargs := (hpre.append (evs_rep hs.slots args)).append hpost
      obtain ⟨hcl, hrep⟩ := closeL_rep (A' := fun b => b < w.heap.size) hs.mem (fun b hb => hb.2.1) (fun t b hb => (hs.mem.live _ _ hb).2.1) has hargs
      obtain ⟨av, hK, hclav, hcalls⟩ := hS S as _ r h (fun b => b < w.heap.size) w _ (fun b hb => hb) (GI.mono hs.mem.gi hs.mem.below) hcl hrep
      split at hK
      · rename_i hsc
        refine ⟨av, st, hK, hfn, hcalls.mono fun e w' ⟨v, he, hbel, hv⟩ => ⟨v, he, μ, scalar_rep hsc hv, hs.ext hbel⟩⟩
      · cases hK
    · obtain ⟨μ1, hs1, himm⟩ := Sim.freeze (args.flatMap fun p => (st.ev p).wholes) hs
      generalize st.freeze (args.flatMap fun p => (st.ev p).wholes) = st1 at h hs1
      simp only at h
      split at h
      · rename_i hcl
        have happ : ∀ {l l' : List AV}, closedL (l ++ l') = true → closedL l = true ∧ closedL l' = true := by
          intro l l'
          induction l with
          | nil => intro h; exact ⟨rfl, by simpa using h⟩
          | cons x xs ih => intro h; simp only [List.cons_append, closedL, Bool.and_eq_true] at h ⊢; exact ⟨⟨h.1, (ih h.2).1⟩, (ih h.2).2⟩
        obtain ⟨h12, h3⟩ := happ hcl
        obtain ⟨h1, h2⟩ := happ h12
        have sub1 : (cx A0 w0 st.recs st.lsts w μ).Sub (c0 (Imm A0 w0 μ1 w) w) := ⟨himm, fun _ _ => rfl⟩
        have sub2 : (cx A0 w0 st1.recs st1.lsts w μ1).Sub (c0 (Imm A0 w0 μ1 w) w) := ⟨fun _ h => h, fun _ _ => rfl⟩
        have hrep := ((RepAVs.closed sub1 hpre h1).append (RepAVs.closed sub2 (evs_rep hs1.slots args) h2)).append (RepAVs.closed sub1 hpost h3)
        obtain ⟨av, hK, hclav, hcalls⟩ := hS S _ _ r h (Imm A0 w0 μ1 w) w _ (fun b hb => hb.2.1) (GI.mono hs.mem.gi hs.mem.below) hcl hrep
        refine ⟨av, st1, hK, hfn, hcalls.mono fun e w' ⟨v, he, hbel, hv⟩ => ⟨v, he, μ1, ?_, hs1.ext hbel⟩⟩
        have sub3 : (c0 (News w w' (Imm A0 w0 μ1 w)) w').Sub (cx A0 w0 st1.recs st1.lsts w' μ1) := by
          refine ⟨fun b hb => ?_, fun _ _ => rfl⟩
          rcases hb with hb | ⟨hb1, hb2⟩
          · exact Imm.ext hbel.size hb
          exact ⟨hs1.mem.new_ok hb1, hb2, fun x hx => by have := (hs1.mem.live x b hx).2.1; omega⟩
        exact RepAV.closed sub3 hclav hv
      · cases h
end
end Go.Pe
end
section
namespace Go.Pe
open Go.RowKit
set_option linter.unusedSectionVars false
set_option linter.unusedVariables false
set_option linter.unusedSimpArgs false
variable [GI]

def cellsOf (ag : Bool) (u : Value) : List Value := match ag with | true => u.cells.toList | false => [u]
def valCells (ag : Bool) (e : MapEntry) : List Value := cellsOf ag e.val
theorem entCells_eq (ag : Bool) (e : MapEntry) : entCells ag e = e.key :: valCells ag e := rfl
def EntsRep (A : Nat → Prop) (w : World) (k v : Ty) (ag : Bool) : List (k.den × v.den) → List MapEntry → Prop
  | [], [] => True
  | x :: xs, e :: es => (Rep A w k x.1 [e.key] ∧ Rep A w v x.2 (valCells ag e)) ∧ EntsRep A w k v ag xs es
  | _, _ => False
theorem isKey_size {k : Ty} (h : k.isKey = true) : k.size = 1 := by cases k <;> simp [Ty.isKey] at h <;> rfl
theorem rep_ent {A : Nat → Prop} {w : World} {k v : Ty} (hk : k.isKey = true) {ag : Bool} {x : (Ty.mapT k v ag).den} {a : Value} {l : List Value} : Rep A w (Ty.mapT k v ag) x (a :: l) ↔ Rep A w k (kv ag x).1 [a] ∧ Rep A w v (kv ag x).2 l := by
  have key : ∀ (y : k.den × v.den), (∃ u1 u2, a :: l = u1 ++ u2 ∧ Rep A w k y.1 u1 ∧ Rep A w v y.2 u2) ↔ Rep A w k y.1 [a] ∧ Rep A w v y.2 l := by
    intro y
    constructor
    · rintro ⟨u1, u2, e, h1, h2⟩
      have hl := h1.length
      rw [isKey_size hk] at hl
      obtain ⟨c, rfl⟩ : ∃ c, u1 = [c] := by
        cases u1 with
        | nil => simp at hl
        | cons c r => cases r with | nil => exact ⟨c, rfl⟩ | cons d r => simp at hl
      simp only [List.cons_append, List.nil_append, List.cons.injEq] at e
      obtain ⟨rfl, rfl⟩ := e
      exact ⟨h1, h2⟩
    · rintro ⟨h1, h2⟩
      exact ⟨[a], l, rfl, h1, h2⟩
  cases ag with
  | true =>
    simp only [Ty.mapT, Rep, kv]
    rw [← key x.2]
    constructor
    · rintro ⟨u1, u2, e, ⟨u3, u4, rfl, rfl, rfl⟩, h⟩
      simp only [List.nil_append] at e
      rw [e]; exact h
    · intro h
      exact ⟨[], a :: l, rfl, ⟨[], [], rfl, rfl, rfl⟩, h⟩
  | false =>
    simp only [Ty.mapT, Rep, kv]
    rw [← key x.2]
    constructor
    · rintro ⟨u1, u2, e, rfl, h⟩
      simp only [List.nil_append] at e
      rw [e]; exact h
    · intro h
      exact ⟨[], a :: l, rfl, rfl, h⟩
theorem mapT_size (k v : Ty) (ag : Bool) : (Ty.mapT k v ag).size = k.size + v.size := by cases ag <;> simp [Ty.mapT, Ty.size]
theorem ents_iff {A : Nat → Prop} {w : World} {k v : Ty} (hk : k.isKey = true) {ag : Bool} : ∀ {xs : List (Ty.mapT k v ag).den} {es : List MapEntry}, (∀ e ∈ es, (entCells ag e).length = k.size + v.size) →
    (RepAll (Rep A w (Ty.mapT k v ag)) xs (es.flatMap (entCells ag)) ↔ EntsRep A w k v ag (xs.map (kv ag)) es)
  | [], [], _ => by simp [RepAll, EntsRep]
  | [], e :: es, _ => by simp [RepAll, EntsRep, entCells]
  | x :: xs, [], _ => by
    simp only [RepAll, EntsRep, List.map_cons, List.flatMap_nil, iff_false]
    rintro ⟨u1, u2, e, h1, _⟩
    have hl := h1.length
    have : u1 = [] := by cases u1 with | nil => rfl | cons a b => simp at e
    rw [this, mapT_size, isKey_size hk] at hl
    simp at hl
    omega
  | x :: xs, e :: es, hs => by
    have ih := ents_iff (A := A) (w := w) hk (xs := xs) (es := es) (fun e he => hs e (by simp [he]))
    simp only [RepAll, EntsRep, List.map_cons, List.flatMap_cons]
    rw [← ih, ← rep_ent hk]
    constructor
    · rintro ⟨u1, u2, eq, h1, h2⟩
      have hl := h1.length
      rw [mapT_size] at hl
      obtain ⟨rfl, rfl⟩ := List.append_inj eq (by rw [hs e (by simp), hl])
      exact ⟨h1, h2⟩
    · rintro ⟨h1, h2⟩
      exact ⟨_, _, rfl, h1, h2⟩

def keyDesc : Ty → TypeDesc → Prop
  | .int k, d => d = .int k
  | .str, d => d = .string
  | _, _ => False
theorem key_is {A : Nat → Prop} {w : World} {k : Ty} {d : TypeDesc} (hd : keyDesc k d) {x : k.den} {a : Value} (h : Rep A w k x [a]) : MapKept.IsKey d a := by
  cases k <;> simp only [keyDesc] at hd <;> subst hd <;> simp only [Rep, List.cons.injEq, and_true] at h <;> subst h <;> simp [MapKept.IsKey]
theorem sameNow_rep {A A' : Nat → Prop} {w : World} {k : Ty} {d : TypeDesc} (hd : keyDesc k d) {x y : k.den} {a b : Value} (h1 : Rep A' w k x [a]) (h2 : Rep A w k y [b]) : Instr.sameNow d a b = some (keyEq k x y) := by
  cases k <;> simp only [keyDesc] at hd <;> subst hd <;> simp only [Rep, List.cons.injEq, and_true] at h1 h2 <;> subst h1 <;> subst h2
  · simp [Instr.sameNow, keyEq]
  · simp only [Instr.sameNow, keyEq, Option.some.injEq]
    rw [Bool.eq_iff_iff, MapKept.bytes_beq, beq_iff_eq]
    constructor
    · intro h; have := congrArg (fun z => z.data.toList) h; simpa using this
    · intro h; rw [h]
theorem find_rep {A A' : Nat → Prop} {w : World} {k v : Ty} {d : TypeDesc} (hd : keyDesc k d) {ag : Bool} {x : k.den} {a : Value} (hx : Rep A' w k x [a]) : ∀ {xs : List (k.den × v.den)} {es : List MapEntry} (i : Nat), EntsRep A w k v ag xs es →
    (Instr.findNow d a es i = some none ∧ mapGet (keyEq k) x xs = none) ∨ ∃ j e y, Instr.findNow d a es i = some (some (i + j, e.val)) ∧ es[j]? = some e ∧ e.key = a ∧ mapGet (keyEq k) x xs = some y ∧ Rep A w v y (valCells ag e)
  | [], [], i, _ => .inl ⟨rfl, rfl⟩
  | [], _ :: _, _, h => h.elim
  | _ :: _, [], _, h => h.elim
  | z :: xs, e :: es, i, h => by
    have hs := sameNow_rep hd hx h.1.1
    cases hq : keyEq k x z.1 with
    | true =>
      rw [hq] at hs
      refine .inr ⟨0, e, z.2, by simp [Instr.findNow, hs], rfl, ?_, by simp [mapGet, hq], h.1.2⟩
      obtain ⟨r, hr, hiff⟩ := MapKept.sameNow_of_keys (key_is hd hx) (key_is hd h.1.1)
      rw [hs] at hr; cases hr
      exact (hiff.1 rfl).symm
    | false =>
      rw [hq] at hs
      rcases find_rep hd hx (xs := xs) (es := es) (i + 1) h.2 with ⟨h1, h2⟩ | ⟨j, e', y, h1, h2, h3, h4, h5⟩
      · exact .inl ⟨by simp [Instr.findNow, hs, h1], by simp [mapGet, hq, h2]⟩
      · exact .inr ⟨j + 1, e', y, by simp [Instr.findNow, hs, h1]; omega, by simpa using h2, h3, by simp [mapGet, hq, h4], h5⟩
theorem key_any {A A' : Nat → Prop} {w w' : World} {k : Ty} {d : TypeDesc} (hd : keyDesc k d) {x : k.den} {a : Value} (h : Rep A w k x [a]) : Rep A' w' k x [a] := by
  cases k <;> simp only [keyDesc] at hd <;> exact h
theorem put_rep {A A' : Nat → Prop} {w : World} {k v : Ty} {d : TypeDesc} (hd : keyDesc k d) {ag : Bool} {x : k.den} {a : Value} (hx : Rep A' w k x [a]) {y : v.den} {u : Value} (hy : Rep A w v y (cellsOf ag u)) : ∀ {xs : List (k.den × v.den)} {es : List MapEntry} (i : Nat), EntsRep A w k v ag xs es →
    (Instr.findNow d a es i = some none ∧ ∀ c, EntsRep A w k v ag (mapPut (keyEq k) x y xs) (es ++ [{ key := a, val := u, born := c }])) ∨ ∃ j e, Instr.findNow d a es i = some (some (i + j, e.val)) ∧ es[j]? = some e ∧ e.key = a ∧ EntsRep A w k v ag (mapPut (keyEq k) x y xs) (es.modify j fun e => { e with key := a, val := u })
  | [], [], i, _ => .inl ⟨rfl, fun c => ⟨⟨key_any hd hx, hy⟩, trivial⟩⟩
  | [], _ :: _, _, h => h.elim
  | _ :: _, [], _, h => h.elim
  | z :: xs, e :: es, i, h => by
    have hs := sameNow_rep hd hx h.1.1
    cases hq : keyEq k x z.1 with
    | true =>
      rw [hq] at hs
      refine .inr ⟨0, e, by simp [Instr.findNow, hs], rfl, ?_, ?_⟩
      · obtain ⟨r, hr, hiff⟩ := MapKept.sameNow_of_keys (key_is hd hx) (key_is hd h.1.1)
        rw [hs] at hr; cases hr
        exact (hiff.1 rfl).symm
      · simp only [mapPut, hq, List.modify_zero_cons]
        exact ⟨⟨key_any hd hx, hy⟩, h.2⟩
    | false =>
      rw [hq] at hs
      rcases put_rep hd hx hy (xs := xs) (es := es) (i + 1) h.2 with ⟨h1, h2⟩ | ⟨j, e', h1, h2, h3, h4⟩
      · refine .inl ⟨by simp [Instr.findNow, hs, h1], fun c => ?_⟩
        simp only [mapPut, hq]
        exact ⟨h.1, h2 c⟩
      · refine .inr ⟨j + 1, e', by simp [Instr.findNow, hs, h1]; omega, by simpa using h2, h3, ?_⟩
        simp only [mapPut, hq, List.modify_succ_cons]
        exact ⟨h.1, h4⟩
theorem del_rep {A A' : Nat → Prop} {w : World} {k v : Ty} {d : TypeDesc} (hd : keyDesc k d) {ag : Bool} {x : k.den} {a : Value} (hx : Rep A' w k x [a]) : ∀ {xs : List (k.den × v.den)} {es : List MapEntry} (i : Nat), EntsRep A w k v ag xs es →
    (Instr.findNow d a es i = some none ∧ mapDel (keyEq k) x xs = xs) ∨ ∃ j e, Instr.findNow d a es i = some (some (i + j, e.val)) ∧ es[j]? = some e ∧ EntsRep A w k v ag (mapDel (keyEq k) x xs) (es.eraseIdx j)
  | [], [], i, _ => .inl ⟨rfl, rfl⟩
  | [], _ :: _, _, h => h.elim
  | _ :: _, [], _, h => h.elim
  | z :: xs, e :: es, i, h => by
    have hs := sameNow_rep hd hx h.1.1
    cases hq : keyEq k x z.1 with
    | true =>
      rw [hq] at hs
      refine .inr ⟨0, e, by simp [Instr.findNow, hs], rfl, ?_⟩
      simp only [mapDel, hq, List.eraseIdx_cons_zero]
      exact h.2
    | false =>
      rw [hq] at hs
      rcases del_rep hd hx (xs := xs) (es := es) (i + 1) h.2 with ⟨h1, h2⟩ | ⟨j, e', h1, h2, h4⟩
      · exact .inl ⟨by simp [Instr.findNow, hs, h1], by simp only [mapDel, hq, h2]⟩
      · refine .inr ⟨j + 1, e', by simp [Instr.findNow, hs, h1]; omega, by simpa using h2, ?_⟩
        simp only [mapDel, hq, List.eraseIdx_cons_succ]
        exact ⟨h.1, h4⟩
theorem mapT_isMap (k v : Ty) (ag : Bool) : (Ty.mapT k v ag).isMap = true := by cases ag <;> rfl
theorem ownL_map {k v : Ty} {ag : Bool} {w : World} {b : Nat} {vs : Array Value} : OwnL (Ty.mapT k v ag) w b vs ↔ OwnM k v ag w b vs := by cases ag <;> exact Iff.rfl
section
variable {A0 : Dom} {w0 w : World} {recs : List (Option (List AV))} {lsts : List (Option LObj)} {μ : Mu} {P : Program}
theorem map_block (hm : Mem A0 w0 recs lsts w μ) {q : Nat} {k v : Ty} {ag : Bool} {xs : List (Ty.mapT k v ag).den} (hk : k.isKey = true) (h : getL lsts q = some ⟨Ty.mapT k v ag, xs⟩) :
    ∃ b es clock, μ.at_ (.l q) = some b ∧ w.heap[b]? = some (.map es clock) ∧ MapKept.Stamped es clock ∧ es.size ≤ 4294967296 ∧
      (∀ e ∈ es.toList, (entCells ag e).length = k.size + v.size ∧ (ag = true → ∃ us, e.val = .agg us) ∧ ∀ s, e.key = .string s → s.size ≤ 4611686018427387904) ∧
      EntsRep (Imm A0 w0 μ w) w k v ag (xs.map (kv ag)) es.toList := by
  obtain ⟨b, vs, h1, h2, h3, h4, h5⟩ := (hm.hlst q _ h).map (mapT_isMap k v ag)
  rw [ownL_map] at h2
  obtain ⟨es, clock, g1, g2, g3, g4, g5⟩ := h2
  refine ⟨b, es, clock, h1, g1, g2, g3, g5, ?_⟩
  rw [g4] at h5
  exact (ents_iff hk fun e he => (g5 e he).1).1 h5
theorem rep_setCap {t c : Nat} {x : SX} {keep : Value} {v : Value} (h : RepSX μ keep x v) : RepSX (μ.setCap t c) keep x v := RepSX.congr (μ := μ) rfl rfl h
theorem le_setMap {q b c : Nat} {k v : Ty} {ag : Bool} {xs xs' : List (Ty.mapT k v ag).den} {ob : Obj} (hq : getL lsts q = some ⟨Ty.mapT k v ag, xs⟩) (hb : μ.at_ (.l q) = some b) :
    (cx A0 w0 recs lsts w μ).Le (cx A0 w0 recs (lsts.set q (some ⟨Ty.mapT k v ag, xs'⟩)) (w.putObj b ob) (μ.setCap q c)) :=
  ⟨fun _ h => ⟨h.1, by simpa using h.2.1, h.2.2⟩, fun j hj => World.putObj_heap_other (fun e => hj.2.2 (.l q) (by rw [e]; exact hb)), Nat.le_refl _, by simp [cx],
   fun r hr hs => ⟨hs, rfl⟩,
   fun t o' ht ho => by
     simp only [cx, getL_set (getL_lt hq)] at ho
     split at ho
     · rename_i e; subst e; cases ho
       refine ⟨_, hq, rfl, ?_, rfl, ?_⟩
       · simp only [LObj.len, mapT_isMap]
       · simp only [Mu.capOf, mapT_isMap]
     · rename_i e
       exact ⟨o', ho, rfl, rfl, rfl, Mu.capOf_eq (by simp only [cx, Mu.setCap]; rw [if_neg (fun h => e h)]) _⟩, fun _ _ h => rep_setCap h⟩
theorem Mem.setMap (hm : Mem A0 w0 recs lsts w μ) {q b c : Nat} {k v : Ty} {ag : Bool} {xs xs' : List (Ty.mapT k v ag).den} {es0 es : Array MapEntry} {clock0 clock : Nat} (hq : getL lsts q = some ⟨Ty.mapT k v ag, xs⟩) (hb : μ.at_ (.l q) = some b) (hb0 : w.heap[b]? = some (.map es0 clock0))
    {vs : Array Value} (hown : OwnM k v ag (w.putObj b (.map es clock)) b vs) (hsz : vs.size = c * (Ty.mapT k v ag).size) (hcap : xs'.length ≤ c) (hr : RepAll (Rep (Imm A0 w0 μ w) w (Ty.mapT k v ag)) xs' vs.toList) :
    Mem A0 w0 recs (lsts.set q (some ⟨Ty.mapT k v ag, xs'⟩)) (w.putObj b (.map es clock)) (μ.setCap q c) := by
  have hle := le_setMap (A0 := A0) (w0 := w0) (w := w) (recs := recs) (c := c) (xs' := xs') (ob := .map es clock) hq hb
  have hblt : b < w.heap.size := (Array.getElem?_eq_some_iff.1 hb0).1
  have hoth : ∀ x b', x ≠ .l q → μ.at_ x = some b' → (w.putObj b (.map es clock)).heap[b']? = w.heap[b']? := fun x b' hx hb' => World.putObj_heap_other fun e => by
    subst e; exact hx (hm.inj _ _ _ hb' hb)
  constructor
  · intro r cells0 h hk
    obtain ⟨b', vs', hb', ho', hv'⟩ := hm.hrec r cells0 h hk
    exact ⟨b', vs', hb', ho'.ext (hoth _ _ (by simp) hb'), hv'.mono hle⟩
  · intro t o' ht
    rw [getL_set (getL_lt hq)] at ht
    split at ht
    · rename_i e; subst e; cases ht
      exact .inr ⟨b, vs, hb, ownL_map.2 hown, by simp [cx, Mu.setCap, hsz], by simp [cx, Mu.setCap, hcap], vs.toList, [], by simp, hr.imp fun x u hx => hx.mono hle.A hle.w, fun _ => rfl⟩
    · rename_i e
      have hne : ∀ {s : Nat}, ¬ t = s → (Loc.l t) ≠ .l s := fun h e => by cases e; exact h rfl
      rcases hm.hlst t o' ht with h1 | ⟨b', vs', hb', ho', hsz', hcap', us', rest', e1, hr'⟩
      · exact .inl h1
      · exact .inr ⟨b', vs', hb', ho'.ext (hoth _ _ (fun h => e (by cases h; rfl)) hb'), by simp only [cx, Mu.setCap]; rw [if_neg (fun h => e h)]; exact hsz', by simp only [cx, Mu.setCap]; rw [if_neg (fun h => e h)]; exact hcap', us', rest', e1, hr'.imp fun x u hx => hx.mono hle.A hle.w⟩
  · intro x b' hx
    obtain ⟨h1, h2, h3⟩ := hm.live x b' hx
    refine ⟨h1, by simpa using h2, ?_⟩
    cases x with
    | r q => exact h3
    | n k => exact h3
    | l t => simp only [getL_set (getL_lt hq)]; split <;> simp_all
  · exact hm.inj
  · exact hm.below.trans ((Below.refl _ w).grown (grownBy_putObj' w b _) hm.below.size (fun k e => by cases e; exact (hm.live _ _ hb).1))
  · intro k hk
    obtain ⟨h1, h2, h3⟩ := hm.fr k hk
    exact ⟨by simpa using h1, by rw [World.putObj_heap_other (fun e => h3 _ (by rw [e]; exact hb))]; exact h2, h3⟩
  · intro k hk
    obtain ⟨h1, h3⟩ := hm.xo k hk
    exact ⟨by simpa using h1, h3⟩
  · exact hm.np
  · exact hm.pins
  · exact hm.gi
  · refine hm.bty.map (fun r' c' h1 h2 b' hb' => .inl ⟨r', c', h1, h2, hb'⟩) (fun t' o' h1 h2 b' hb' => .inl ?_) fun x b' vs' T hx h => ⟨vs', ?_⟩
    · rw [getL_set (getL_lt hq)] at h1
      split at h1
      · rename_i e; cases h1
        exfalso; cases ag <;> simp [Ty.mapT] at h2
      · exact ⟨t', o', h1, h2, hb'⟩
    · rw [World.putObj_heap_other]; exact h
      rintro rfl
      rw [hb0] at h; cases h
  · intro r c h
    exact (hm.htop r c h).imp (c := cx A0 w0 recs lsts w μ) rfl rfl (fun b' hb' => hoth _ _ (by simp) hb') fun us hu => hu.mono hle
  · intro d hd
    exact (hm.deep d hd).mono (c := cx A0 w0 recs lsts w μ) ⟨hle.A, hle.w, fun k => rfl, fun k b' hb' => hoth _ _ (by simp) hb', hle.nr, fun r hr h => h⟩
  · exact hm.pinl.le hle
theorem lookup_run (hm : Mem A0 w0 recs lsts w μ) {q : Nat} {k v : Ty} {ag : Bool} {xs : List (Ty.mapT k v ag).den} (hk : k.isKey = true) (h : getL lsts q = some ⟨Ty.mapT k v ag, xs⟩) {vm vi : Value} (hv : RepAV (cx A0 w0 recs lsts w μ) (.whole q) vm)
    {x : k.den} {A' : Nat → Prop} (hx : Rep A' w k x [vi]) {t a b : Nat} {d : TypeDesc} (ht : P.underlying t = some (.map a b)) (ha : P.underlying a = some d) (hd : keyDesc k d) {z : Value} (hz : (zeroValue b).run P w = .ok z w) (cOk : Bool) :
    ∃ val : Value, ((Instr.lookup t vm vi cOk).run P w = .ok (if cOk then .tuple #[val, .bool (mapGet (keyEq k) x (xs.map (kv ag))).isSome] else val) w) ∧
      match mapGet (keyEq k) x (xs.map (kv ag)) with
      | none => val = z
      | some y => Rep (Imm A0 w0 μ w) w v y (cellsOf ag val) ∧ (ag = true → ∃ us, val = .agg us) := by
  obtain ⟨bk, es, clock, h1, h2, h3, h4, h5, h6⟩ := map_block hm hk h
  simp only [RepAV, cx] at hv
  obtain ⟨b', hb', rfl⟩ := (WholeAt.map (mapT_isMap k v ag)).1 (hv.2.2 _ h)
  rw [h1] at hb'; cases hb'
  have hkey := key_is hd hx
  have hck : ∀ em, (Instr.checkKey em 10000 a vi).run P w = .ok () w := fun em => MapKept.run_checkKey ha hkey em 9999
  rcases find_rep hd hx 0 h6 with ⟨f1, f2⟩ | ⟨j, e, y, f1, f2, f3, f4, f5⟩
  · rw [f2]
    refine ⟨z, ?_, rfl⟩
    cases cOk <;> simp [Instr.lookup, run_underlying ht, MapKept.run_getObj_map h2, hck, MapKept.run_findKey ha f1, hz, Result.andThen]
  · rw [f4]
    have he := h5 e (List.mem_of_getElem? f2)
    refine ⟨e.val, ?_, f5, he.2.1⟩
    cases cOk <;> simp [Instr.lookup, run_underlying ht, MapKept.run_getObj_map h2, hck, MapKept.run_findKey ha f1, Result.andThen]
theorem ents_len {A : Nat → Prop} {w : World} {k v : Ty} {ag : Bool} : ∀ {xs : List (k.den × v.den)} {es : List MapEntry}, EntsRep A w k v ag xs es → xs.length = es.length
  | [], [], _ => rfl
  | [], _ :: _, h => h.elim
  | _ :: _, [], h => h.elim
  | _ :: xs, _ :: es, h => by simp [ents_len h.2]
theorem ents_keys {A : Nat → Prop} {w : World} {k v : Ty} {ag : Bool} {d : TypeDesc} (hd : keyDesc k d) : ∀ {xs : List (k.den × v.den)} {es : List MapEntry}, EntsRep A w k v ag xs es → ∀ e ∈ es, MapKept.IsKey d e.key
  | [], [], _ => by simp
  | [], _ :: _, h => h.elim
  | _ :: _, [], h => h.elim
  | _ :: xs, e0 :: es, h => by
    intro e he
    rcases List.mem_cons.1 he with rfl | he
    · exact key_is hd h.1.1
    · exact ents_keys hd h.2 e he
theorem kv_ent {k v : Ty} (ag : Bool) (l : List (k.den × v.den)) : (l.map (ent ag)).map (kv ag) = l := by
  rw [List.map_map]
  have : (kv (k := k) (v := v) ag ∘ ent ag) = id := by funext x; cases ag <;> rfl
  rw [this, List.map_id]
def EntOk (k v : Ty) (ag : Bool) (e : MapEntry) : Prop := (entCells ag e).length = k.size + v.size ∧ (ag = true → ∃ us, e.val = .agg us) ∧ ∀ s, e.key = .string s → s.size ≤ 4611686018427387904
theorem Sim.setEnts {st : St} {tmps : Array Value} (hs : Sim A0 w0 st tmps w μ) {q b : Nat} {k v : Ty} {ag : Bool} {xs : List (Ty.mapT k v ag).den} (hk : k.isKey = true) (hq : getL st.lsts q = some ⟨Ty.mapT k v ag, xs⟩) (hb : μ.at_ (.l q) = some b) {es0 es : Array MapEntry} {clock0 clock : Nat} (hb0 : w.heap[b]? = some (.map es0 clock0))
    (hst : MapKept.Stamped es clock) (hn : es.size ≤ 4294967296) (hok : ∀ e ∈ es.toList, EntOk k v ag e) {l : List (k.den × v.den)} (hr : EntsRep (Imm A0 w0 μ w) w k v ag l es.toList) :
    ∃ μ', Sim A0 w0 { st with lsts := st.lsts.set q (some ⟨Ty.mapT k v ag, l.map (ent ag)⟩) } tmps (w.putObj b (.map es clock)) μ' := by
  have hR : RepAll (Rep (Imm A0 w0 μ w) w (Ty.mapT k v ag)) (l.map (ent ag)) (es.toList.flatMap (entCells ag)) := (ents_iff hk fun e he => (hok e he).1).2 (by rw [kv_ent]; exact hr)
  have hl := hR.length (sz := (Ty.mapT k v ag).size) fun x u h => h.length
  have hblt : b < w.heap.size := (Array.getElem?_eq_some_iff.1 hb0).1
  refine ⟨μ.setCap q (l.map (ent ag)).length, hs.slots.mono (le_setMap hq hb), ?_⟩
  exact hs.mem.setMap (vs := (es.toList.flatMap (entCells ag)).toArray) hq hb hb0 ⟨es, clock, World.putObj_heap_same hblt, hst, hn, by simp, hok⟩ (by simp only [List.size_toArray]; exact hl) (Nat.le_refl _) (by simpa using hR)
theorem mapUpdate_run {st : St} {tmps : Array Value} (hs : Sim A0 w0 st tmps w μ) {q : Nat} {k v : Ty} {ag : Bool} {xs : List (Ty.mapT k v ag).den} (hk : k.isKey = true) (hq : getL st.lsts q = some ⟨Ty.mapT k v ag, xs⟩) {vm vi vv : Value} (hv : RepAV (cx A0 w0 st.recs st.lsts w μ) (.whole q) vm)
    {x : k.den} {A' : Nat → Prop} (hx : Rep A' w k x [vi]) {y : v.den} (hy : Rep (Imm A0 w0 μ w) w v y (cellsOf ag vv)) (hag : ag = true → ∃ us, vv = .agg us) {t a b : Nat} {d : TypeDesc} (ht : P.underlying t = some (.map a b)) (ha : P.underlying a = some d) (hd : keyDesc k d)
    (hroom : xs.length < 4294967296) (hkl : ∀ s, vi = .string s → s.size ≤ 4611686018427387904) :
    ∃ w' μ', (Instr.mapUpdate t vm vi vv).run P w = .ok () w' ∧ Sim A0 w0 { st with lsts := st.lsts.set q (some ⟨Ty.mapT k v ag, (mapPut (keyEq k) x y (xs.map (kv ag))).map (ent ag)⟩) } tmps w' μ' := by
  obtain ⟨bk, es, clock, h1, h2, h3, h4, h5, h6⟩ := map_block hs.mem hk hq
  simp only [RepAV, cx] at hv
  obtain ⟨b', hb', rfl⟩ := (WholeAt.map (mapT_isMap k v ag)).1 (hv.2.2 _ hq)
  rw [h1] at hb'; cases hb'
  have hkey := key_is hd hx
  have hlen := ents_len h6
  simp only [List.length_map, Array.length_toList] at hlen
  have hck : ∀ em, (Instr.checkKey em 10000 a vi).run P w = .ok () w := fun em => MapKept.run_checkKey ha hkey em 9999
  have hnew : ∀ c, EntOk k v ag { key := vi, val := vv, born := c } := fun c => by
    refine ⟨?_, hag, hkl⟩
    have := hy.length
    have h1 := isKey_size hk
    rw [entCells_eq]
    simp only [List.length_cons, valCells]
    omega
  rcases put_rep hd hx hy 0 h6 with ⟨f1, f2⟩ | ⟨j, e, f1, f2, f3, f4⟩
  · have hne : ∀ e ∈ es.toList, e.key ≠ vi := by
      rcases MapKept.findNow_spec hkey es.toList 0 (ents_keys hd h6) with ⟨_, g⟩ | ⟨j, e, g, _⟩
      · exact g
      · rw [f1] at g; cases g
    obtain ⟨μ', hs'⟩ := hs.setEnts (es := es.push { key := vi, val := vv, born := clock }) (clock := clock + 1) hk hq h1 h2 (MapKept.stamped_push h3 hne) (by simp; omega) (fun e he => by
      rw [Array.toList_push, List.mem_append] at he
      rcases he with he | he
      · exact h5 e he
      · simp only [List.mem_singleton] at he; subst he; exact hnew _) (l := mapPut (keyEq k) x y (xs.map (kv ag))) (by rw [Array.toList_push]; exact f2 clock)
    refine ⟨_, μ', ?_, hs'⟩
    simp [Instr.mapUpdate, run_underlying ht, MapKept.run_getObj_map h2, hck, MapKept.run_findKey ha f1, MapKept.run_setObj_map _ h2, Result.andThen, World.putObj]
  · have hej : es[j]? = some e := by simpa using f2
    obtain ⟨μ', hs'⟩ := hs.setEnts (es := es.modify j fun e => { e with key := vi, val := vv }) (clock := clock) hk hq h1 h2 (MapKept.stamped_modify h3 j _ (fun _ _ => rfl) (fun e' _ he' => by rw [hej] at he'; cases he'; exact f3.symm)) (by simp; omega) (fun e' he' => by
      rw [Array.toList_modify, List.mem_iff_getElem?] at he'
      obtain ⟨i, hi⟩ := he'
      rw [List.getElem?_modify] at hi
      simp only [Option.map_eq_map, Option.map_eq_some_iff] at hi
      obtain ⟨e0, g1, g2⟩ := hi
      split at g2
      · subst g2; exact hnew _
      · subst g2; exact h5 _ (List.mem_of_getElem? g1)) (l := mapPut (keyEq k) x y (xs.map (kv ag))) (by rw [Array.toList_modify]; exact f4)
    refine ⟨_, μ', ?_, hs'⟩
    have f1' : Instr.findNow d vi es.toList 0 = some (some (j, e.val)) := by rw [f1]; simp
    simp [Instr.mapUpdate, run_underlying ht, MapKept.run_getObj_map h2, hck, MapKept.run_findKey ha f1', hej, f3, MapKept.run_keyThatStays hkey, MapKept.run_setObj_map _ h2, Result.andThen, World.putObj]
theorem delete_run {st : St} {tmps : Array Value} (hs : Sim A0 w0 st tmps w μ) {q : Nat} {k v : Ty} {ag : Bool} {xs : List (Ty.mapT k v ag).den} (hk : k.isKey = true) (hq : getL st.lsts q = some ⟨Ty.mapT k v ag, xs⟩) {vm vi : Value} (hv : RepAV (cx A0 w0 st.recs st.lsts w μ) (.whole q) vm)
    {x : k.den} {A' : Nat → Prop} (hx : Rep A' w k x [vi]) {t a b u ty : Nat} {d : TypeDesc} (ht : P.underlying t = some (.map a b)) (ha : P.underlying a = some d) (hd : keyDesc k d) :
    ∃ w' μ', (Builtin.delete_ #[t, u] ty #[vm, vi]).run P w = .ok (.tuple #[]) w' ∧ Sim A0 w0 { st with lsts := st.lsts.set q (some ⟨Ty.mapT k v ag, (mapDel (keyEq k) x (xs.map (kv ag))).map (ent ag)⟩) } tmps w' μ' := by
  obtain ⟨bk, es, clock, h1, h2, h3, h4, h5, h6⟩ := map_block hs.mem hk hq
  simp only [RepAV, cx] at hv
  obtain ⟨b', hb', rfl⟩ := (WholeAt.map (mapT_isMap k v ag)).1 (hv.2.2 _ hq)
  rw [h1] at hb'; cases hb'
  have hkey := key_is hd hx
  have hck : ∀ em, (Instr.checkKey em 10000 a vi).run P w = .ok () w := fun em => MapKept.run_checkKey ha hkey em 9999
  rcases del_rep hd hx 0 h6 with ⟨f1, f2⟩ | ⟨j, e, f1, f2, f4⟩
  · obtain ⟨μ', hs'⟩ := hs.setEnts (es := es) (clock := clock) hk hq h1 h2 h3 h4 h5 (l := mapDel (keyEq k) x (xs.map (kv ag))) (by rw [f2]; exact h6)
    refine ⟨_, μ', ?_, hs'⟩
    simp [Builtin.delete_, run_underlying ht, MapKept.run_getObj_map h2, hck, MapKept.run_findKey ha f1, MapKept.run_setObj_map _ h2, Result.andThen, World.putObj]
  · have hj : j < es.size := by have := (List.getElem?_eq_some_iff.1 f2).1; simpa using this
    have hel : (es.eraseIdxIfInBounds j).toList = es.toList.eraseIdx j := by simp [Array.eraseIdxIfInBounds, hj]
    obtain ⟨μ', hs'⟩ := hs.setEnts (es := es.eraseIdxIfInBounds j) (clock := clock) hk hq h1 h2 (MapKept.stamped_erase h3 j) (by
      have := congrArg List.length hel
      simp only [Array.length_toList] at this
      have h7 := List.length_eraseIdx_le es.toList j
      simp only [Array.length_toList] at h7
      omega) (fun e' he' => by
      rw [hel] at he'
      exact h5 e' (List.mem_of_mem_eraseIdx he')) (l := mapDel (keyEq k) x (xs.map (kv ag))) (by rw [hel]; exact f4)
    refine ⟨_, μ', ?_, hs'⟩
    have f1' : Instr.findNow d vi es.toList 0 = some (some (j, e.val)) := by rw [f1]; simp
    simp [Builtin.delete_, run_underlying ht, MapKept.run_getObj_map h2, hck, MapKept.run_findKey ha f1', MapKept.run_setObj_map _ h2, Result.andThen, World.putObj]
theorem makeMap_run {st : St} {tmps : Array Value} (hs : Sim A0 w0 st tmps w μ) {k v : Ty} {ag : Bool} (t : Nat) :
    ∃ w' μ', (Instr.makeMap t none).run P w = .ok (.map (some w.heap.size)) w' ∧ RepAV (cx A0 w0 st.recs (st.lsts ++ [some ⟨Ty.mapT k v ag, []⟩]) w' μ') (.whole st.lsts.length) (.map (some w.heap.size)) ∧ Sim A0 w0 { st with lsts := st.lsts ++ [some ⟨Ty.mapT k v ag, []⟩] } tmps w' μ' := by
  have hpl := mapT_isMap k v ag
  have hmem := hs.mem.newLst' (l := ⟨Ty.mapT k v ag, []⟩) (us := []) (rest := []) (vs := #[]) (c := 0) ⟨by simp only [RepAll], fun _ => rfl⟩ rfl (by simp) (Nat.le_refl _) (.map #[] 0) (ownL_map.2 ⟨#[], 0, heap_alloc_new w _, MapKept.stamped_empty 0, by simp, by simp, by simp⟩) (fun h => by cases ag <;> simp [Ty.mapT] at h)
  refine ⟨w.alloc (.map #[] 0), _, by simp [Instr.makeMap, Result.andThen], ?_, hs.slots.mono (le_newLst _ _ _), hmem⟩
  simp only [RepAV, cx]
  refine ⟨by simp, rfl, fun o ho => ?_⟩
  rw [getL_new] at ho; cases ho
  exact (WholeAt.map hpl).2 ⟨w.heap.size, by simp [Mu.upd, Mu.setCap], rfl⟩
end
end Go.Pe
end
section
namespace Go.Pe
open Go.RowKit
set_option linter.unusedSectionVars false
set_option linter.unusedVariables false
set_option linter.unusedSimpArgs false
variable [GI]
variable {P : Program} {ε : Env} {A0 : Dom} {w0 w : World} {μ : Mu} {st : St} {tmps : Array Value} {S : Type}
def mpairs (k v : Ty) (ag : Bool) (xs : List (Ty.mapT k v ag).den) : List (k.den × v.den) := xs.map (kv ag)
def mget (k v : Ty) (ag : Bool) (xs : List (Ty.mapT k v ag).den) (key : k.den) : Option v.den := mapGet (keyEq k) key (mpairs k v ag xs)
def mput (k v : Ty) (ag : Bool) (xs : List (Ty.mapT k v ag).den) (key : k.den) (y : v.den) : List (Ty.mapT k v ag).den := (mapPut (keyEq k) key y (mpairs k v ag xs)).map (ent ag)
theorem mapInfo_ok (hε : EnvOk P ε) {t : Nat} {k v : Ty} {j : TI} (h : mapInfo ε t = some (k, v, j)) : ∃ a b d, P.underlying t = some (.map a b) ∧ P.underlying a = some d ∧ keyDesc k d ∧ k.isKey = true ∧ ε.ti b = some j ∧ j.ty = some v := by
  unfold mapInfo at h
  split at h
  · rename_i i hi
    split at h
    · rename_i a b hd
      split at h
      · rename_i k' j' hk hj
        split at h
        · rename_i v' hv
          cases h
          obtain ⟨ia, hia, hkk⟩ := Option.bind_eq_some_iff.1 hk
          have hu := (hε.ti t i hi).under
          have hua := (hε.ti a ia hia).under
          refine ⟨a, b, ia.desc, by rw [hu, hd], hua, ?_, ?_, hj, hv⟩
          · unfold keyKind at hkk
            split at hkk
            · rename_i hq; cases hkk; exact hq
            · rename_i hq; cases hkk; exact hq
            · cases hkk
          · unfold keyKind at hkk
            split at hkk <;> first | cases hkk; rfl | cases hkk
        · cases h
      · cases h
    · cases h
  · cases h
theorem asMap_ok {k v : Ty} {ag : Bool} {lsts : List (Option LObj)} {q : Nat} {l : List (k.den × v.den)} (h : asMap k v ag lsts q = some l) : ∃ xs : List (Ty.mapT k v ag).den, getL lsts q = some ⟨Ty.mapT k v ag, xs⟩ ∧ l = xs.map (kv ag) := by
  unfold asMap at h
  split at h
  · rename_i o ho
    split at h
    · rename_i he
      obtain ⟨e, xs⟩ := o
      cases he
      simp only [Option.some.injEq] at h
      exact ⟨xs, ho, h.symm⟩
    · cases h
  · cases h
theorem evMakeMap_run (hε : EnvOk P ε) (hs : Sim A0 w0 st tmps w μ) {t : Nat} (K : AV → St → Option S) (r : S) (h : evMakeMap ε st t K = some r) :
    ∃ av st', K av st' = some r ∧ ∃ v w', (Instr.makeMap t none).run P w = .ok v w' ∧ Post A0 w0 tmps av st' v w' := by
  unfold evMakeMap at h
  split at h
  · rename_i k v j hi
    obtain ⟨w', μ', h1, h2, h3⟩ := makeMap_run (P := P) hs (k := k) (v := v) (ag := j.agg) t
    exact ⟨_, _, h, _, w', h1, μ', h2, h3⟩
  · cases h
theorem evDelete_run (hε : EnvOk P ε) (hs : Sim A0 w0 st tmps w μ) {t u ty : Nat} {m i : AV} {vm vi : Value} (hm : RepAV (cx A0 w0 st.recs st.lsts w μ) m vm) (hi : RepAV (cx A0 w0 st.recs st.lsts w μ) i vi) (K : St → Option S) (r : S) (h : evDelete ε st t m i K = some r) :
    ∃ st', K st' = some r ∧ ∃ w' μ', (Builtin.delete_ #[t, u] ty #[vm, vi]).run P w = .ok (.tuple #[]) w' ∧ Sim A0 w0 st' tmps w' μ' := by
  unfold evDelete at h
  split at h
  · rename_i k v j q hinf
    obtain ⟨a, b, d, ht, ha, hd, hk, hj, hv⟩ := mapInfo_ok hε hinf
    simp only [Option.bind_eq_some_iff] at h
    obtain ⟨l, hl, key, hkey, h⟩ := h
    obtain ⟨xs, hq, rfl⟩ := asMap_ok hl
    have hx := asTy_rep (lsts := []) (A' := Imm A0 w0 μ w) (fun _ h => h) (fun t o v h => no_lists t o v h) hkey hi
    obtain ⟨w', μ', h1, h2⟩ := delete_run (P := P) (u := u) (ty := ty) hs hk hq hm hx ht ha hd
    exact ⟨_, h, w', μ', h1, h2⟩
  · cases h
theorem packVal_rep {c : Cx} {A' : Nat → Prop} (hA : ∀ b, c.A b → A' b) {v : Ty} {x : AV} {vv : Value} {y : v.den} (h : packVal [] v x = some y) (hx : RepAV c x vv) : Rep A' c.w v y (cellsOf (isAgg' x) vv) ∧ (isAgg' x = true → ∃ us, vv = .agg us) := by
  simp only [packVal, Option.bind_eq_some_iff] at h
  obtain ⟨z, hz, h⟩ := h
  split at h
  · rename_i hz2
    cases h
    have fin : ∀ us, RepAVs c x.cells us → Rep A' c.w v z.1 us := fun us hu => by
      obtain ⟨u1, u2, e, h1, h2⟩ := packTo_rep (lsts := []) hA (fun t o v h => no_lists t o v h) hz hu
      rw [hz2] at h2
      have := h2.nil; subst this
      rw [e, List.append_nil]; exact h1
    cases x with
    | agg l =>
      simp only [RepAV] at hx
      obtain ⟨us, rfl, hu⟩ := hx
      exact ⟨fin us.toList hu, fun _ => ⟨us, rfl⟩⟩
    | _ => exact ⟨fin [vv] (RepAVs.one hx), fun h => by cases h⟩
  · cases h
theorem evMapUpdate_run (hε : EnvOk P ε) (hs : Sim A0 w0 st tmps w μ) {t : Nat} {m i x : AV} {vm vi vv : Value} (hm : RepAV (cx A0 w0 st.recs st.lsts w μ) m vm) (hi : RepAV (cx A0 w0 st.recs st.lsts w μ) i vi) (hx : RepAV (cx A0 w0 st.recs st.lsts w μ) x vv) (K : St → Option S) (r : S) (h : evMapUpdate ε st t m i x K = some r) :
    ∃ st', K st' = some r ∧ ∃ w' μ', (Instr.mapUpdate t vm vi vv).run P w = .ok () w' ∧ Sim A0 w0 st' tmps w' μ' := by
  unfold evMapUpdate at h
  split at h
  · rename_i k v j q hinf
    obtain ⟨a, b, d, ht, ha, hd, hk, hj, hv⟩ := mapInfo_ok hε hinf
    simp only [Option.bind_eq_some_iff] at h
    obtain ⟨l, hl, key, hkey, y, hy, h⟩ := h
    obtain ⟨xs, hq, rfl⟩ := asMap_ok hl
    split at h
    · rename_i hag
      rw [beq_iff_eq] at hag
      unfold appOk lenOk at h
      split at h
      · rename_i hn
        split at h
        · rename_i hkl
          have hx1 := asTy_rep (lsts := []) (A' := Imm A0 w0 μ w) (fun _ h => h) (fun t o v h => no_lists t o v h) hkey hi
          obtain ⟨hy1, hy2⟩ := packVal_rep (A' := Imm A0 w0 μ w) (fun _ h => h) hy hx
          rw [hag] at hy1 hy2
          have hx1' : Rep (Imm A0 w0 μ w) w k key [vi] := hx1
          obtain ⟨w', μ', h1, h2⟩ := mapUpdate_run (P := P) hs hk hq hm hx1' hy1 hy2 ht ha hd (by simp at hn; omega) (fun s e => by
            subst e
            cases k <;> simp only [keyDesc] at hd
            · simp [Rep] at hx1'
            · simp only [Rep, List.cons.injEq, and_true, Value.string.injEq] at hx1'
              rw [hx1']
              simpa [keyLen, ByteArray.size] using hkl)
          exact ⟨_, h, w', μ', h1, h2⟩
        · cases h
      · cases h
    · cases h
  · cases h
theorem evLookup_run (hε : EnvOk P ε) (hs : Sim A0 w0 st tmps w μ) {t : Nat} {x i : AV} {vm vi : Value} {cOk : Bool} (hm : RepAV (cx A0 w0 st.recs st.lsts w μ) x vm) (hi : RepAV (cx A0 w0 st.recs st.lsts w μ) i vi) (K : AV → Option S) (r : S) (h : evLookup ε t st.lsts x i cOk K = some r) :
    ∃ av v, K av = some r ∧ (Instr.lookup t vm vi cOk).run P w = .ok v w ∧ RepAV (cx A0 w0 st.recs st.lsts w μ) av v := by
  unfold evLookup at h
  split at h
  · rename_i k v j q hinf
    obtain ⟨a, b, d, ht, ha, hd, hk, hj, hv⟩ := mapInfo_ok hε hinf
    simp only [Option.bind_eq_some_iff] at h
    obtain ⟨l, hl, key, hkey, z, hz, h⟩ := h
    obtain ⟨xs, hq, rfl⟩ := asMap_ok hl
    split at h
    · rename_i hz2
      have hx1 := asTy_rep (lsts := []) (A' := Imm A0 w0 μ w) (fun _ h => h) (fun t o v h => no_lists t o v h) hkey hi
      have hti := hε.ti b j hj
      obtain ⟨inf, hinf2, hsz, hby, zv, hzv, hzl, hzr⟩ := hti.info
      have hzag := hti.zag inf zv hinf2 hzv
      have hzrun : (zeroValue b).run P w = .ok zv w := by simp [zeroValue, typeInfo, hinf2, hzv]
      obtain ⟨u1, u2, e1, r1, r2⟩ := packTo_rep (lsts := []) (A' := Imm A0 w0 μ w) (fun _ h => h) (fun t o v h => no_lists t o v h) hz (hzr (cx A0 w0 st.recs st.lsts w μ))
      rw [hz2] at r2
      have := r2.nil; subst this
      rw [List.append_nil] at e1
      rw [← e1] at r1
      obtain ⟨val, hrun, hval⟩ := lookup_run (P := P) hs.mem hk hq hm hx1 ht ha hd hzrun cOk
      have hrep : RepAV (cx A0 w0 st.recs st.lsts w μ) (valOf v j.agg ((mapGet (keyEq k) key (xs.map (kv j.agg))).getD z.1)) val := by
        have key2 : ∀ y : v.den, Rep (Imm A0 w0 μ w) w v y (cellsOf j.agg val) → (j.agg = true → ∃ us, val = .agg us) → RepAV (cx A0 w0 st.recs st.lsts w μ) (valOf v j.agg y) val := by
          intro y hy hag
          unfold valOf
          cases hja : j.agg with
          | true =>
            rw [hja] at hy
            obtain ⟨us, rfl⟩ := hag hja
            simp only [RepAV]
            exact ⟨us, rfl, unpack_rep (c := cx A0 w0 st.recs st.lsts w μ) hy⟩
          | false =>
            rw [hja] at hy
            simp only [RepAV]
            exact hy
        cases hg : mapGet (keyEq k) key (xs.map (kv j.agg)) with
        | none =>
          rw [hg] at hval
          subst hval
          refine key2 z.1 ?_ ?_
          · unfold cellsOf
            split
            · exact r1
            · rename_i hja
              have : val.cells.toList = [val] := by rw [hja] at hzag; cases val <;> first | rfl | simp [isAggV] at hzag
              rw [← this]; exact r1
          · intro hja
            rw [hja] at hzag
            cases val <;> simp [isAggV] at hzag
            exact ⟨_, rfl⟩
        | some y =>
          rw [hg] at hval
          exact key2 y hval.1 hval.2
      cases cOk with
      | true =>
        refine ⟨_, _, h, hrun, ?_⟩
        simp only [if_true, RepAV]
        exact ⟨_, rfl, RepAVs.cons hrep (RepAVs.one (by simp only [RepAV, Rep]))⟩
      | false => exact ⟨_, _, h, hrun, hrep⟩
    · cases h
  · cases h
end Go.Pe
end
section
namespace Go.Pe
open Go.RowKit
set_option linter.unusedSectionVars false
variable [GI]
set_option linter.unusedSimpArgs false
set_option linter.unusedVariables false

theorem fillR_length : ∀ (l : List (Option (List SAV))) (z : recsDen l), (fillR l z).length = l.length
  | [], _ => rfl
  | none :: r, z => by simp [fillR, fillR_length r z]
  | some l :: r, z => by simp [fillR, fillR_length r z.2]
theorem fillT_length : ∀ (l : List (Option Ty)) (z : lstsDen l), (fillT l z).length = l.length
  | [], _ => rfl
  | none :: r, z => by simp [fillT, fillT_length r z]
  | some l :: r, z => by simp [fillT, fillT_length r z.2]
theorem getL_nil {α : Type} (i : Nat) : getL ([] : List (Option α)) i = none := by simp [getL]
theorem getL_cons0 {α : Type} (x : Option α) (l : List (Option α)) : getL (x :: l) 0 = x := by cases x <;> rfl
theorem getL_consS {α : Type} (x : Option α) (l : List (Option α)) (i : Nat) : getL (x :: l) (i + 1) = getL l i := by simp [getL]
theorem getL_tail {α : Type} (l : List (Option α)) (i : Nat) : getL l.tail i = getL l (i + 1) := by
  cases l with
  | nil => simp [getL_nil]
  | cons x l => simp [getL_consS]

theorem absR_get {lsts keep nr} : ∀ {l : List (Option (List SAV))} {vs : List (Option (List AV))} {z : recsDen l}, absR lsts keep nr l vs = some z →
    (∀ r s, getL l r = some s → ∃ c x, getL vs r = some c ∧ absL lsts keep nr s c = some x ∧ getL (fillR l z) r = some (fillL s x) ∧ isMark c = false) ∧ (∀ r, getL l r = none → getL (fillR l z) r = none)
  | [], vs, z, _ => ⟨fun r s h => by simp [getL_nil] at h, fun r _ => by simp [fillR, getL_nil]⟩
  | none :: l, vs, z, h => by
    simp only [absR] at h
    obtain ⟨h1, h2⟩ := absR_get h
    refine ⟨fun r s hr => ?_, fun r hr => ?_⟩
    · cases r with
      | zero => simp [getL_cons0] at hr
      | succ r =>
        rw [getL_consS] at hr
        obtain ⟨c, x, e1, e2, e3, e4⟩ := h1 r s hr
        exact ⟨c, x, by rw [← getL_tail]; exact e1, e2, by simp only [fillR, getL_consS]; exact e3, e4⟩
    · cases r with
      | zero => simp [fillR, getL_cons0]
      | succ r => simp only [fillR, getL_consS] at hr ⊢; exact h2 r hr
  | some s0 :: l, [], z, h => by simp [absR] at h
  | some s0 :: l, none :: vs, z, h => by simp [absR] at h
  | some s0 :: l, some c0 :: vs, z, h => by
    simp only [absR] at h
    split at h
    · cases h
    rename_i hmk
    simp only [Option.bind_eq_some_iff, Option.some.injEq] at h
    obtain ⟨x, hx, y, hy, rfl⟩ := h
    obtain ⟨h1, h2⟩ := absR_get hy
    refine ⟨fun r s hr => ?_, fun r hr => ?_⟩
    · cases r with
      | zero => rw [getL_cons0] at hr; cases hr; exact ⟨c0, x, rfl, hx, rfl, hmk⟩
      | succ r =>
        rw [getL_consS] at hr
        obtain ⟨c, x, e1, e2, e3, e4⟩ := h1 r s hr
        exact ⟨c, x, by rw [getL_consS]; exact e1, e2, by simp only [fillR, getL_consS]; exact e3, e4⟩
    · cases r with
      | zero => simp [getL_cons0] at hr
      | succ r => simp only [fillR, getL_consS] at hr ⊢; exact h2 r hr

theorem absT_get : ∀ {l : List (Option Ty)} {vs : List (Option LObj)} {z : lstsDen l}, absT l vs = some z →
    (∀ t e, getL l t = some e → ∃ xs : List e.den, getL (fillT l z) t = some ⟨e, xs⟩ ∧ (getL vs t = some ⟨e, xs⟩ ∨ (getL vs t = none ∧ xs = [] ∧ e.isMap = false))) ∧ (∀ t, getL l t = none → getL (fillT l z) t = none)
  | [], vs, z, _ => ⟨fun r s h => by simp [getL_nil] at h, fun r _ => by simp [fillT, getL_nil]⟩
  | none :: l, vs, z, h => by
    simp only [absT] at h
    obtain ⟨h1, h2⟩ := absT_get h
    refine ⟨fun r s hr => ?_, fun r hr => ?_⟩
    · cases r with
      | zero => simp [getL_cons0] at hr
      | succ r =>
        rw [getL_consS] at hr
        obtain ⟨xs, e1, e2⟩ := h1 r s hr
        rw [getL_tail] at e2
        exact ⟨xs, by simp only [fillT, getL_consS]; exact e1, e2⟩
    · cases r with
      | zero => simp [fillT, getL_cons0]
      | succ r => simp only [fillT, getL_consS] at hr ⊢; exact h2 r hr
  | some t0 :: l, vs, z, h => by
    simp only [absT, Option.bind_eq_some_iff, Option.some.injEq] at h
    obtain ⟨x, hx, y, hy, rfl⟩ := h
    obtain ⟨h1, h2⟩ := absT_get hy
    refine ⟨fun r s hr => ?_, fun r hr => ?_⟩
    · cases r with
      | zero =>
        rw [getL_cons0] at hr; cases hr
        refine ⟨x, rfl, ?_⟩
        split at hx
        · rename_i o ho
          split at hx
          · rename_i e
            obtain ⟨e0, xs0⟩ := o
            cases e
            simp only [Option.some.injEq] at hx; subst hx
            left
            cases vs with
            | nil => cases ho
            | cons v vs => simp at ho; subst ho; rfl
          · cases hx
        · rename_i hno
          split at hx
          · cases hx
          rename_i hpl
          simp only [Option.some.injEq] at hx; subst hx
          right
          refine ⟨?_, rfl, hpl⟩
          cases vs with
          | nil => simp [getL_nil]
          | cons v vs =>
            cases v with
            | none => rfl
            | some o => exact absurd rfl (hno o)
      | succ r =>
        rw [getL_consS] at hr
        obtain ⟨xs, e1, e2⟩ := h1 r s hr
        rw [getL_tail] at e2
        exact ⟨xs, by simp only [fillT, getL_consS]; exact e1, e2⟩
    · cases r with
      | zero => simp [getL_cons0] at hr
      | succ r => simp only [fillT, getL_consS] at hr ⊢; exact h2 r hr

section
variable {A0 : Dom} {w0 w : World} {st : St} {tmps : Array Value} {μ : Mu}

def Mu.keep (μ : Mu) (sh : Shape) : Mu := { μ with at_ := fun x => match x with | .r r => if (getL sh.recs r).isSome then μ.at_ (.r r) else none | .l t => (if (getL sh.lsts t).isSome then μ.at_ (.l t) else none) | .n k => μ.at_ (.n k), dp := μ.dp.map fun d => ⟨none, d.cap, d.fs⟩ }
theorem keep_some {sh : Shape} {x : Loc} {b : Nat} (h : (μ.keep sh).at_ x = some b) : μ.at_ x = some b := by
  cases x with
  | n k => exact h
  | r r => simp only [Mu.keep] at h; split at h <;> first | exact h | cases h
  | l t => simp only [Mu.keep] at h; split at h <;> first | exact h | cases h
theorem imm_keep {sh : Shape} {b : Nat} (h : Imm A0 w0 μ w b) : Imm A0 w0 (μ.keep sh) w b := ⟨h.1, h.2.1, fun x hx => h.2.2 x (keep_some hx)⟩

mutual
theorem absA_rep (hs : Sim A0 w0 st tmps w μ) {sh : Shape} {z : sh.den} (hR : absR st.lsts sh.lsts sh.recs.length sh.recs st.recs = some z.2.1) (hT : absT sh.lsts st.lsts = some z.2.2) : ∀ {s : SAV} {v : AV} {x : s.den} {val : Value}, absA st.lsts sh.lsts sh.recs.length s v = some x → RepAV (cx A0 w0 st.recs st.lsts w μ) v val →
    RepAV (cx A0 w0 (fillR sh.recs z.2.1) (fillT sh.lsts z.2.2) w (μ.keep sh)) (fillA s x) val
  | .dead, v, x, val, h, hr => by simp only [fillA, RepAV]
  | .stk, v, x, val, h, hr => by
    simp only [absA] at h
    split at h
    · cases h
      simp only [fillA, RepAV, RepSX, cx] at hr ⊢
      obtain ⟨cap, h1, h2, h3⟩ := hr
      exact ⟨cap, by simp [Mu.keep, h1], h2, h3⟩
    · cases h
  | .same, v, x, val, h, hr => by
    simp only [absA] at h
    split at h
    · simp only [fillA, RepAV, RepSX, cx] at hr ⊢; exact hr
    · cases h
  | .hole t, v, x, val, h, hr => by
    have hm := hs.mem
    simp only [absA] at h
    split at h
    · rename_i hc
      simp only [Bool.and_eq_true] at hc
      have hcommon : (∀ j, v ≠ .whole j) → RepAV (cx A0 w0 (fillR sh.recs z.2.1) (fillT sh.lsts z.2.2) w (μ.keep sh)) (fillA (.hole t) x) val := by
        intro hnw
        have h' : asTy [] t v = some x := by
          cases v <;> simp only [asTy] at h ⊢ <;> first | exact h | skip
          exact absurd rfl (hnw _)
        have := asTy_rep (c := cx A0 w0 st.recs st.lsts w μ) (A' := Imm A0 w0 (μ.keep sh) w) (lsts := []) (fun b hb => imm_keep hb) (fun t o v h => no_lists t o v h) h' hr
        simp only [fillA, RepAV]; exact this
      cases v with
      | whole j =>
        simp only [asTy] at h
        split at h
        · rename_i o ho
          cases hp : o.e.isMap with
          | true => rw [hp] at h; cases h
          | false =>
          rw [hp] at h
          dsimp only at h
          split at h
          · rename_i e
            simp only [RepAV] at hr
            subst e
            simp only [Option.some.injEq] at h; subst h
            have hshut : getL sh.lsts j = none := by simpa [shut] using hc.2
            simp only [fillA, RepAV]
            exact whole_rep hp (hm.hlst j o ho) (hr.2.2 o ho) (fun b hb => imm_keep hb) fun b hb => by
              obtain ⟨h1, h2, _⟩ := hm.live _ _ hb
              refine ⟨hm.own_ok hb, h2, fun y hy => ?_⟩
              have := hm.inj _ _ _ (keep_some hy) hb
              subst this
              simp [Mu.keep, hshut] at hy
          · cases h
        · cases h
      | _ => exact hcommon (by simp)
    · cases h
  | .ptr r off, v, x, val, h, hr => by
    simp only [absA] at h
    split at h
    · split at h
      · rename_i hc
        obtain ⟨rfl, rfl, hlt⟩ := hc
        simp only [fillA, RepAV, cx] at hr ⊢
        refine ⟨by rw [fillR_length]; exact hlt, hr.2.1, fun hl => ?_⟩
        cases hsr : getL sh.recs r with
        | none => rw [(absR_get hR).2 r hsr] at hl; simp at hl
        | some sl =>
          obtain ⟨c, x, e1, _, _⟩ := (absR_get hR).1 r sl hsr
          obtain ⟨b, hb, hv⟩ := hr.2.2 (by rw [e1]; rfl)
          exact ⟨b, by simp [Mu.keep, hsr, hb], hv⟩
      · cases h
    · cases h
  | .bld r, v, x, val, h, hr => by
    simp only [absA] at h
    split at h
    · split at h
      · rename_i hc
        obtain ⟨rfl, hlt⟩ := hc
        simp only [fillA, RepAV, cx] at hr ⊢
        refine ⟨by rw [fillR_length]; exact hlt, hr.2.1, fun hl => ?_⟩
        cases hsr : getL sh.recs r with
        | none => rw [(absR_get hR).2 r hsr] at hl; simp at hl
        | some sl =>
          obtain ⟨c, x, e1, _, _⟩ := (absR_get hR).1 r sl hsr
          obtain ⟨b, hb, hv⟩ := hr.2.2 (by rw [e1]; rfl)
          exact ⟨b, by simp [Mu.keep, hsr, hb], hv⟩
      · cases h
    · cases h
  | .whole t, v, x, val, h, hr => by
    have hm := hs.mem
    simp only [absA] at h
    split at h
    · split at h
      · rename_i hc
        obtain ⟨rfl, hlive, hkeep⟩ := hc
        obtain ⟨e, he⟩ := Option.isSome_iff_exists.1 hkeep
        obtain ⟨xs, g1, g2⟩ := (absT_get hT).1 t e he
        simp only [fillA, RepAV, cx] at hr ⊢
        refine ⟨by rw [fillT_length]; exact getL_lt he, hr.2.1, fun o ho => ?_⟩
        rw [g1] at ho; cases ho
        rcases g2 with g2 | ⟨g2, _⟩
        · exact (hr.2.2 _ g2).tr rfl rfl (by simp [Mu.keep, he]) (Mu.capOf_eq (by simp [Mu.keep]) _)
        · rw [g2] at hlive; simp at hlive
      · cases h
    · split at h
      · rename_i hc
        obtain ⟨hdead, hkeep, hpt⟩ := hc
        obtain ⟨e, he⟩ := Option.isSome_iff_exists.1 hkeep
        have hpe : e.isMap = false := by simpa [plainT, he] using hpt
        obtain ⟨xs, g1, g2⟩ := (absT_get hT).1 t e he
        simp only [fillA, RepAV, cx] at hr ⊢
        subst hr
        refine ⟨by rw [fillT_length]; exact getL_lt he, rfl, fun o ho => ?_⟩
        rw [show getL (fillT sh.lsts z.2.2) t = some ⟨e, xs⟩ from g1] at ho; cases ho
        refine .inl ⟨?_, hpe, rfl⟩
        simp only [Mu.keep, he, Option.isSome_some, if_true]
        cases hat : μ.at_ (.l t) with
        | none => rfl
        | some b =>
          have := (hm.live _ _ hat).2.2
          simp only at this
          rw [Option.isNone_iff_eq_none] at hdead
          rw [hdead] at this; simp at this
      · cases h
    · cases h
  | .eptr t off, v, x, val, h, hr => by
    simp only [absA] at h
    split at h
    · split at h
      · rename_i hc
        obtain ⟨rfl, rfl, hlive, hkeep⟩ := hc
        cases h
        obtain ⟨e, he⟩ := Option.isSome_iff_exists.1 hkeep
        obtain ⟨xs, g1, g2⟩ := (absT_get hT).1 t e he
        simp only [fillA, RepAV, cx] at hr ⊢
        refine ⟨by rw [fillT_length]; exact getL_lt he, hr.2.1, fun o ho => ?_⟩
        rw [g1] at ho; cases ho
        rcases g2 with g2 | ⟨g2, _⟩
        · obtain ⟨b, hb, hv⟩ := hr.2.2 _ g2
          exact ⟨b, by simp [Mu.keep, he, hb], hv⟩
        · rw [g2] at hlive; simp at hlive
      · cases h
    · cases h
  | .nilP, v, x, val, h, hr => by
    simp only [absA] at h
    split at h
    · simpa only [fillA, RepAV] using hr
    · cases h
  | .nilS, v, x, val, h, hr => by
    simp only [absA] at h
    split at h
    · simpa only [fillA, RepAV] using hr
    · cases h
  | .agg l, v, x, val, h, hr => by
    simp only [absA] at h
    split at h
    · simp only [fillA, RepAV] at hr ⊢
      obtain ⟨us, e, hu⟩ := hr
      exact ⟨us, e, absL_rep hs hR hT h hu⟩
    · cases h
  | .ifc q l, v, x, val, h, hr => by
    simp only [absA] at h
    split at h
    · split at h
      · rename_i hq
        obtain rfl := Nat.eq_of_beq_eq_true hq
        simp only [fillA, RepAV] at hr ⊢
        obtain ⟨us, e, hu⟩ := hr
        exact ⟨us, e, absL_rep hs hR hT h hu⟩
      · cases h
    · cases h
  | .fn f a b, v, x, val, h, hr => by
    simp only [absA] at h
    split at h
    · split at h
      · rename_i hf
        have hf := fnEq_eq hf
        subst hf
        simp only [Option.bind_eq_some_iff, Option.some.injEq] at h
        obtain ⟨x1, h1, x2, h2, rfl⟩ := h
        simp only [fillA, RepAV] at hr ⊢
        obtain ⟨a', b', e, g1, g2⟩ := hr
        exact ⟨a', b', e, absL_rep hs hR hT h1 g1, absL_rep hs hR hT h2 g2⟩
      · cases h
    · cases h
theorem absL_rep (hs : Sim A0 w0 st tmps w μ) {sh : Shape} {z : sh.den} (hR : absR st.lsts sh.lsts sh.recs.length sh.recs st.recs = some z.2.1) (hT : absT sh.lsts st.lsts = some z.2.2) : ∀ {l : List SAV} {vs : List AV} {x : SAVs.den l} {vals : List Value}, absL st.lsts sh.lsts sh.recs.length l vs = some x → RepAVs (cx A0 w0 st.recs st.lsts w μ) vs vals →
    RepAVs (cx A0 w0 (fillR sh.recs z.2.1) (fillT sh.lsts z.2.2) w (μ.keep sh)) (fillL l x) vals
  | [], [], _, _, _, hr => by simpa only [fillL, RepAVs] using hr
  | [], _ :: _, _, _, h, _ => by simp [absL] at h
  | _ :: _, [], _, _, h, _ => by simp [absL] at h
  | s :: l, v :: vs, x, vals, h, hr => by
    simp only [absL, Option.bind_eq_some_iff, Option.some.injEq] at h
    obtain ⟨y, hy, ys, hys, rfl⟩ := h
    obtain ⟨val, rest, rfl, h1, h2⟩ := hr.cons'
    simp only [fillL]
    exact RepAVs.cons (absA_rep hs hR hT hy h1) (absL_rep hs hR hT hys h2)
end
end

theorem fillA_bld {s : SAV} {z : s.den} {r : Nat} (h : fillA s z = .bld r) : s = .bld r := by
  cases s <;> simp only [fillA] at h <;> first | (cases h; done) | (cases h; rfl)
theorem absL_bld {lsts keep nr} {s : List SAV} {c : List AV} {x} (h : absL lsts keep nr s c = some x) (hb : isBld (fillL s x) = true) : isBld c = true := by
  obtain ⟨r, l', e⟩ := isBld_some hb
  cases s with
  | nil => simp [fillL] at e
  | cons s0 s =>
    cases c with
    | nil => simp [absL] at h
    | cons v vs =>
      simp only [absL, Option.bind_eq_some_iff, Option.some.injEq] at h
      obtain ⟨y, hy, ys, hys, rfl⟩ := h
      simp only [fillL, List.cons.injEq] at e
      have h1 := fillA_bld e.1
      subst h1
      simp only [absA] at hy
      split at hy
      · rfl
      · cases hy

theorem fillL_nomark : ∀ (l : List SAV) (z : SAVs.den l) (c : List AV), fillL l z ≠ .sx .mark :: c
  | [], _, _ => by simp [fillL]
  | s :: l, z, c => by
    simp only [fillL]
    intro e
    simp only [List.cons.injEq] at e
    have := e.1
    cases s <;> simp [fillA] at this
theorem abs_sound {A0 w0 w st} {tmps : Array Value} {μ} (hs : Sim A0 w0 st tmps w μ) {sh : Shape} {z : sh.den} (hnp : A0.np ≤ sh.recs.length) (hnl : A0.nl ≤ sh.lsts.length) (h : abs sh st = some z) : Sim A0 w0 (fill sh z) tmps w (μ.keep sh) := by
  unfold abs at h
  simp only [Option.bind_eq_some_iff, Option.some.injEq] at h
  obtain ⟨x, hx, y, hR, t, hT, rfl⟩ := h
  have hm := hs.mem
  have hR' : absR st.lsts sh.lsts sh.recs.length sh.recs st.recs = some ((x, y, t) : sh.den).2.1 := hR
  have hT' : absT sh.lsts st.lsts = some ((x, y, t) : sh.den).2.2 := hT
  refine ⟨absL_rep hs hR' hT' hx hs.slots, ?_⟩
  have hlist : ∀ t0 o, getL (fillT sh.lsts t) t0 = some o → ∃ e, getL sh.lsts t0 = some e ∧ (getL st.lsts t0 = some o ∨ (getL st.lsts t0 = none ∧ o.xs = [] ∧ o.e.isMap = false)) := by
    intro t0 o ho
    cases he : getL sh.lsts t0 with
    | none => rw [(absT_get hT).2 t0 he] at ho; cases ho
    | some e =>
      obtain ⟨xs, g1, g2⟩ := (absT_get hT).1 t0 e he
      rw [g1] at ho; cases ho
      exact ⟨e, rfl, g2⟩
  constructor
  · intro r cells hr _
    simp only [fill] at hr
    cases hsr : getL sh.recs r with
    | none => rw [(absR_get hR).2 r hsr] at hr; cases hr
    | some sl =>
      obtain ⟨c, x', e1, e2, e3, emk⟩ := (absR_get hR).1 r sl hsr
      rw [e3] at hr; cases hr
      obtain ⟨b, vs, hb, ho, hv⟩ := hm.hrec r c e1 emk
      exact ⟨b, vs, by simp [Mu.keep, hsr, hb], ho, absL_rep hs hR' hT' e2 hv⟩
  · intro t0 o ho
    simp only [fill] at ho
    obtain ⟨e, he, g⟩ := hlist t0 o ho
    have hdead : getL st.lsts t0 = none → (μ.keep sh).at_ (.l t0) = none := by
      intro g2
      cases hat : (μ.keep sh).at_ (.l t0) with
      | none => rfl
      | some b =>
        have := (hm.live _ _ (keep_some hat)).2.2
        simp only at this
        rw [g2] at this; simp at this
    rcases g with g | ⟨g1, g2⟩
    · rcases hm.hlst t0 o g with ⟨h1, h2⟩ | ⟨b, vs, hb, ho', hsz, hcap, us, rest, e1, hr⟩
      · exact .inl ⟨by simp only [cx, Mu.keep, he, Option.isSome_some, if_true]; exact h1, h2⟩
      · exact .inr ⟨b, vs, by simp only [cx, Mu.keep, he, Option.isSome_some, if_true]; exact hb, ho', hsz, hcap, us, rest, e1, hr.imp fun x u hx => hx.mono (fun b hb => imm_keep hb) fun _ _ => rfl⟩
    · exact .inl ⟨hdead g1, g2⟩
  · intro l b hb
    obtain ⟨h1, h2, h3⟩ := hm.live l b (keep_some hb)
    refine ⟨h1, h2, ?_⟩
    cases l with
    | r r =>
      simp only [fill]
      cases hsr : getL sh.recs r with
      | none => simp [Mu.keep, hsr] at hb
      | some sl => obtain ⟨c, x', e1, e2, e3, emk⟩ := (absR_get hR).1 r sl hsr; rw [e3]; rfl
    | n k => simp only [Mu.keep]; simpa using h3
    | l t0 =>
      simp only [fill]
      cases hst : getL sh.lsts t0 with
      | none => simp [Mu.keep, hst] at hb
      | some e => obtain ⟨xs, g1, g2⟩ := (absT_get hT).1 t0 e hst; rw [g1]; rfl
  · intro l l' b h1 h2; exact hm.inj _ _ _ (keep_some h1) (keep_some h2)
  · exact hm.below
  · intro b hb
    obtain ⟨h1, h2, h3⟩ := hm.fr b hb
    exact ⟨h1, h2, fun x hx => h3 x (keep_some hx)⟩
  · intro b hb
    obtain ⟨h1, h3⟩ := hm.xo b hb
    exact ⟨h1, fun x hx => h3 x (keep_some hx)⟩
  · simp only [fill]; rw [fillR_length]; exact hnp
  · intro r b hb
    obtain ⟨h1, h2⟩ := hm.pins r b hb
    refine ⟨h1, fun hsome => ?_⟩
    simp only [fill] at hsome
    cases hsr : getL sh.recs r with
    | none => rw [(absR_get hR).2 r hsr] at hsome; simp at hsome
    | some sl =>
      obtain ⟨c, x', e1, _, _⟩ := (absR_get hR).1 r sl hsr
      simp only [Mu.keep, hsr, Option.isSome_some, if_true]
      exact h2 (by rw [e1]; rfl)
  · exact hm.gi
  · constructor
    · intro r cells hr hbl b hb
      simp only [fill] at hr
      cases hsr : getL sh.recs r with
      | none => rw [(absR_get hR).2 r hsr] at hr; cases hr
      | some sl =>
        obtain ⟨c, x', e1, e2, e3, emk⟩ := (absR_get hR).1 r sl hsr
        rw [e3] at hr; cases hr
        exact hm.bty.r r c e1 (absL_bld e2 hbl) b (keep_some hb)
    · intro t0 o ho he8 b hb
      simp only [fill] at ho
      obtain ⟨e, he, g⟩ := hlist t0 o ho
      rcases g with g | ⟨g1, _⟩
      · exact hm.bty.l t0 o g he8 b (keep_some hb)
      · have := (hm.live _ _ (keep_some hb)).2.2
        simp only at this
        rw [g1] at this; simp at this
  · intro r cells hr
    simp only [fill] at hr
    cases hsr : getL sh.recs r with
    | none => rw [(absR_get hR).2 r hsr] at hr; cases hr
    | some sl =>
      obtain ⟨c, x', e1, e2, e3, emk⟩ := (absR_get hR).1 r sl hsr
      rw [e3] at hr
      exact absurd (Option.some.inj hr) (fillL_nomark _ _ _)
  · intro d hd
    simp only [Mu.keep, Option.map_eq_some_iff] at hd
    obtain ⟨d0, hd0, rfl⟩ := hd
    have hdeep := hm.deep d0 hd0
    have h1 : (cx A0 w0 st.recs st.lsts w μ).Deep1 (cx A0 w0 (fill sh (x, y, t)).recs (fill sh (x, y, t)).lsts w (μ.keep sh)) := ⟨fun b hb => imm_keep hb, fun _ _ => rfl, fun _ _ => rfl, fun _ _ _ _ => rfl⟩
    refine ⟨fun r hr => (by cases hr), hdeep.lim, ?_⟩
    rcases hdeep.row with ⟨h2, h3, h4⟩ | ⟨b, vs, pre, rest, h2, h3, h4, h5, h6, h7⟩
    · exact .inl ⟨h2, h3, rfl⟩
    · exact .inr ⟨b, vs, pre, rest, h2, h3, h4, by simp; omega, h6, h7.mono h1⟩
  · refine hm.pinl.of (by simp only [fill]; rw [fillT_length]; exact hnl) fun t0 o ht0 ho hmp => ?_
    simp only [fill] at ho
    obtain ⟨e, he, g⟩ := hlist t0 o ho
    rcases g with g | ⟨_, _, g3⟩
    · exact ⟨o, g, hmp, by simp [Mu.keep, he]⟩
    · rw [g3] at hmp; cases hmp
end Go.Pe
end
