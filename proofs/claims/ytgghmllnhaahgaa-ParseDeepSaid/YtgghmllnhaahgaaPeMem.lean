/- The operations that make or write own memory. -/
import Derived.Test.YtgghmllnhaahgaaPeOps3
namespace Go.Pe
open Go.RowKit
set_option linter.unusedSectionVars false
variable [GI]
set_option linter.unusedSimpArgs false
set_option linter.unusedVariables false

theorem getL_lt {α : Type} {l : List (Option α)} {i : Nat} {x : α} (h : getL l i = some x) : i < l.length := by
  unfold getL at h
  split at h
  · rename_i h1; exact (List.getElem?_eq_some_iff.1 h1).1
  · cases h
theorem getL_app {α : Type} {l : List (Option α)} {y : Option α} {i : Nat} (h : i < l.length) : getL (l ++ [y]) i = getL l i := by
  unfold getL; rw [List.getElem?_append_left h]
theorem getL_new {α : Type} {l : List (Option α)} {y : Option α} : getL (l ++ [y]) l.length = y := by
  unfold getL; rw [List.getElem?_append_right (Nat.le_refl _)]; simp; cases y <;> rfl
theorem getL_set {α : Type} {l : List (Option α)} {y : Option α} {i j : Nat} (h : i < l.length) : getL (l.set i y) j = if j = i then y else getL l j := by
  unfold getL
  by_cases e : j = i
  · subst e; rw [List.getElem?_set_self h, if_pos rfl]; cases y <;> rfl
  · rw [List.getElem?_set_ne (Ne.symm e), if_neg e]

def Mu.upd (μ : Mu) (x : Loc) (b : Nat) : Mu := { μ with at_ := fun y => if y = x then some b else μ.at_ y }
def Mu.setCap (μ : Mu) (t c : Nat) : Mu := { μ with cap := fun s => if s = t then c else μ.cap s }
theorem RepSX.congr {μ μ' : Mu} {keep : Value} (h1 : μ'.dp = μ.dp) (h2 : μ'.at_ (.n 0) = μ.at_ (.n 0)) {x : SX} {v : Value} (h : RepSX μ keep x v) : RepSX μ' keep x v := by
  cases x <;> simp only [RepSX, hdrV, h1, h2] at h ⊢ <;> exact h
theorem RepSX.upd {μ : Mu} {keep : Value} {y : Loc} {b : Nat} (hy : y ≠ .n 0) {x : SX} {v : Value} (h : RepSX μ keep x v) : RepSX (μ.upd y b) keep x v :=
  RepSX.congr (μ := μ) (μ' := μ.upd y b) rfl (by simp only [Mu.upd]; rw [if_neg (Ne.symm hy)]) h

section
variable {A0 : Dom} {w0 w : World} {recs : List (Option (List AV))} {lsts : List (Option LObj)} {μ : Mu}

theorem heap_alloc (w : World) (o : Obj) {k : Nat} (h : k < w.heap.size) : (w.alloc o).heap[k]? = w.heap[k]? := Below.heap_alloc w o k h
theorem heap_alloc_new (w : World) (o : Obj) : (w.alloc o).heap[w.heap.size]? = some o := by
  show (w.heap.push o)[w.heap.size]? = _
  simp

theorem imm_upd {x : Loc} {o : Obj} {b : Nat} (h : Imm A0 w0 μ w b) : Imm A0 w0 (μ.upd x w.heap.size) (w.alloc o) b := by
  refine ⟨h.1, by have := h.2.1; simp; omega, fun y hy => ?_⟩
  simp only [Mu.upd] at hy
  split at hy
  · cases hy; exact absurd h.2.1 (Nat.lt_irrefl _)
  · exact h.2.2 y hy
theorem imm_cap {t c b : Nat} : Imm A0 w0 (μ.setCap t c) w b ↔ Imm A0 w0 μ w b := Iff.rfl

theorem le_newRec (o : Obj) (cells : List AV) : (cx A0 w0 recs lsts w μ).Le (cx A0 w0 (recs ++ [some cells]) lsts (w.alloc o) (μ.upd (.r recs.length) w.heap.size)) :=
  ⟨fun _ hb => imm_upd hb, fun b hb => heap_alloc w o hb.2.1, by simp [cx], Nat.le_refl _,
   fun r hr hs => by
     have hr' : r < recs.length := hr
     simp only [cx, getL_app hr'] at hs ⊢
     exact ⟨hs, by simp only [Mu.upd]; rw [if_neg (by intro e; cases e; exact absurd hr' (Nat.lt_irrefl _))]⟩,
   fun t o' ht ho => ⟨o', ho, rfl, rfl, by simp [cx, Mu.upd], rfl⟩, fun x v h => RepSX.upd (by simp) h⟩

theorem Mem.newRec' (hm : Mem A0 w0 recs lsts w μ) {cells : List AV} {us : Array Value} (el : TypeId) (hr : RepAVs (cx A0 w0 (recs ++ [some cells]) lsts (w.alloc (.cells us el)) (μ.upd (.r recs.length) w.heap.size)) cells us.toList) (hbt : isBld cells = true → el = GI.bt) :
    Mem A0 w0 (recs ++ [some cells]) lsts (w.alloc (.cells us el)) (μ.upd (.r recs.length) w.heap.size) := by
  have hnm : ∀ l, cells ≠ .sx .mark :: l := by
    rintro l rfl
    obtain ⟨v, vs, _, h, _⟩ := hr.cons'
    simp only [RepAV, RepSX] at h
  have hle := le_newRec (A0 := A0) (w0 := w0) (w := w) (recs := recs) (lsts := lsts) (μ := μ) (.cells us el) cells
  have hlive : ∀ x b, μ.at_ x = some b → x ≠ .r recs.length := by
    intro x b hx e; subst e
    obtain ⟨c, hc⟩ := Option.isSome_iff_exists.1 (hm.live _ _ hx).2.2
    exact absurd (getL_lt hc) (Nat.lt_irrefl _)
  constructor
  · intro r cells' h hk
    rcases Nat.lt_trichotomy r recs.length with hlt | heq | hgt
    · rw [getL_app hlt] at h
      obtain ⟨b, vs, hb, ho, hv⟩ := hm.hrec r cells' h hk
      exact ⟨b, vs, by simp only [Mu.upd]; rw [if_neg (hlive _ _ hb)]; exact hb, ho.ext (heap_alloc w _ (hm.live _ _ hb).2.1), hv.mono hle⟩
    · subst heq
      rw [getL_new] at h; cases h
      exact ⟨w.heap.size, us, by simp [Mu.upd], ⟨el, heap_alloc_new w _⟩, hr⟩
    · have := getL_lt h; simp at this; omega
  · intro t o ht
    rcases hm.hlst t o ht with ⟨h1, h2⟩ | ⟨b, vs, hb, ho, hsz, hcap, us', rest, e, hr'⟩
    · exact .inl ⟨by simpa [cx, Mu.upd] using h1, h2⟩
    · exact .inr ⟨b, vs, by simpa [cx, Mu.upd] using hb, ho.ext (heap_alloc w _ (hm.live _ _ hb).2.1), hsz, hcap, us', rest, e, hr'.imp fun x u hx => hx.mono hle.A hle.w⟩
  · intro x b hx
    simp only [Mu.upd] at hx
    split at hx
    · rename_i e; cases hx; subst e
      exact ⟨hm.below.size, by simp, by simp [getL_new]⟩
    · obtain ⟨h1, h2, h3⟩ := hm.live x b hx
      refine ⟨h1, by simp; omega, ?_⟩
      cases x with
      | r r =>
        obtain ⟨c, hc⟩ := Option.isSome_iff_exists.1 h3
        simp only; rw [getL_app (getL_lt hc)]; exact h3
      | l t => exact h3
      | n k => exact h3
  · intro x y b hx hy
    simp only [Mu.upd] at hx hy
    split at hx <;> split at hy
    · simp_all
    · cases hx; exact absurd (hm.live _ _ hy).2.1 (Nat.lt_irrefl _)
    · cases hy; exact absurd (hm.live _ _ hx).2.1 (Nat.lt_irrefl _)
    · exact hm.inj _ _ _ hx hy
  · exact hm.below.alloc hm.below.size _
  · intro b hb
    obtain ⟨h1, h2, h3⟩ := hm.fr b hb
    refine ⟨by simp; omega, by rw [heap_alloc w _ h1]; exact h2, fun x hx => ?_⟩
    simp only [Mu.upd] at hx
    split at hx
    · cases hx; exact absurd h1 (Nat.lt_irrefl _)
    · exact h3 x hx
  · intro b hb
    obtain ⟨h1, h3⟩ := hm.xo b hb
    refine ⟨by simp; omega, fun x hx => ?_⟩
    simp only [Mu.upd] at hx
    split at hx
    · cases hx; exact absurd h1 (Nat.lt_irrefl _)
    · exact h3 x hx
  · have := hm.np; simp; omega
  · intro r b hb
    obtain ⟨h1, h2⟩ := hm.pins r b hb
    have h0 := Nat.lt_of_lt_of_le h1 hm.np
    refine ⟨h1, fun hs => ?_⟩
    rw [getL_app h0] at hs
    simp only [Mu.upd]
    rw [if_neg (by intro e; cases e; exact absurd h0 (Nat.lt_irrefl _))]
    exact h2 hs
  · exact hm.gi
  · refine hm.bty.map (fun r' c' h1 h2 b hb => ?_) (fun t' o' h1 h2 b hb => .inl ⟨t', o', h1, h2, by simpa [Mu.upd] using hb⟩) fun x b vs T hx hv => ⟨vs, (heap_alloc w _ (hm.live _ _ hx).2.1).trans hv⟩
    rcases Nat.lt_trichotomy r' recs.length with hlt | heq | hgt
    · rw [getL_app hlt] at h1
      simp only [Mu.upd] at hb
      rw [if_neg (by intro e; cases e; exact absurd hlt (Nat.lt_irrefl _))] at hb
      exact .inl ⟨r', c', h1, h2, hb⟩
    · subst heq
      rw [getL_new] at h1; cases h1
      simp only [Mu.upd, if_true] at hb
      cases hb
      exact .inr ⟨us, by rw [heap_alloc_new]; rw [hbt h2]⟩
    · have := getL_lt h1; simp at this; omega
  · intro r c h
    rcases Nat.lt_trichotomy r recs.length with hlt | heq | hgt
    · rw [getL_app hlt] at h
      exact (hm.htop r c h).imp (c := cx A0 w0 recs lsts w μ) rfl (by simp [cx, Mu.upd]) (fun b hb => heap_alloc w _ (hm.live _ _ hb).2.1) fun us hu => hu.mono hle
    · subst heq
      rw [getL_new] at h; exact absurd (Option.some.inj h) (hnm c)
    · have := getL_lt h; simp at this; omega
  · intro d hd
    refine (hm.deep d hd).mono (c := cx A0 w0 recs lsts w μ) ⟨hle.A, hle.w, fun k => by simp [cx, Mu.upd], fun k b hb => heap_alloc w _ (hm.live _ _ hb).2.1, hle.nr, fun r hr h => ?_⟩
    have hr' : r < recs.length := hr
    simp only [cx, Mu.upd]; rw [if_neg (by intro e; cases e; exact absurd hr' (Nat.lt_irrefl _))]; exact h
theorem Mem.newRec (hm : Mem A0 w0 recs lsts w μ) {cells : List AV} {us : Array Value} (hr : RepAVs (cx A0 w0 recs lsts w μ) cells us.toList) (el : TypeId) (hbt : isBld cells = true → el = GI.bt) :
    Mem A0 w0 (recs ++ [some cells]) lsts (w.alloc (.cells us el)) (μ.upd (.r recs.length) w.heap.size) :=
  hm.newRec' el (hr.mono (le_newRec _ _)) hbt

theorem le_newLst (o : Obj) (l : LObj) (c : Nat) : (cx A0 w0 recs lsts w μ).Le (cx A0 w0 recs (lsts ++ [some l]) (w.alloc o) ((μ.upd (.l lsts.length) w.heap.size).setCap lsts.length c)) :=
  ⟨fun _ hb => imm_upd hb, fun b hb => heap_alloc w o hb.2.1, Nat.le_refl _, by simp [cx],
   fun r hr hs => ⟨hs, by simp [cx, Mu.upd, Mu.setCap]⟩,
   fun t o' ht ho => by
     have ht' : t < lsts.length := ht
     simp only [cx, getL_app ht'] at ho
     exact ⟨o', ho, rfl, rfl, by simp only [cx, Mu.upd, Mu.setCap]; rw [if_neg (by intro e; cases e; exact absurd ht' (Nat.lt_irrefl _))], by simp only [cx, Mu.upd, Mu.setCap]; rw [if_neg (by omega)]⟩, fun x v h => RepSX.congr (μ := μ.upd (.l lsts.length) w.heap.size) rfl rfl (RepSX.upd (by simp) h)⟩

theorem Mem.newLst (hm : Mem A0 w0 recs lsts w μ) {l : LObj} {us : List Value} {rest : List Value} (hr : RepAll (Rep (Imm A0 w0 μ w) w l.e) l.xs us) {vs : Array Value} (hvs : vs.toList = us ++ rest) {c : Nat} (hsz : vs.size = c * l.e.size) (hcap : l.xs.length ≤ c) (el : TypeId) (hel : l.e = .int .u8 → el = GI.u8) :
    Mem A0 w0 recs (lsts ++ [some l]) (w.alloc (.cells vs el)) ((μ.upd (.l lsts.length) w.heap.size).setCap lsts.length c) := by
  have hle := le_newLst (A0 := A0) (w0 := w0) (w := w) (recs := recs) (lsts := lsts) (μ := μ) (.cells vs el) l c
  have hlive : ∀ x b, μ.at_ x = some b → x ≠ .l lsts.length := by
    intro x b hx e; subst e
    obtain ⟨c, hc⟩ := Option.isSome_iff_exists.1 (hm.live _ _ hx).2.2
    exact absurd (getL_lt hc) (Nat.lt_irrefl _)
  constructor
  · intro r cells' h hk
    obtain ⟨b, vs', hb, ho, hv⟩ := hm.hrec r cells' h hk
    exact ⟨b, vs', by simp only [Mu.upd, Mu.setCap]; rw [if_neg (hlive _ _ hb)]; exact hb, ho.ext (heap_alloc w _ (hm.live _ _ hb).2.1), hv.mono hle⟩
  · intro t o ht
    rcases Nat.lt_trichotomy t lsts.length with hlt | heq | hgt
    · rw [getL_app hlt] at ht
      rcases hm.hlst t o ht with ⟨h1, h2⟩ | ⟨b, vs', hb, ho, hsz', hcap', us', rest', e, hr'⟩
      · exact .inl ⟨by simp only [cx, Mu.upd, Mu.setCap]; rw [if_neg (by intro e; cases e; exact absurd hlt (Nat.lt_irrefl _))]; exact h1, h2⟩
      · refine .inr ⟨b, vs', by simp only [cx, Mu.upd, Mu.setCap]; rw [if_neg (hlive _ _ hb)]; exact hb, ho.ext (heap_alloc w _ (hm.live _ _ hb).2.1), ?_, ?_, us', rest', e, hr'.imp fun x u hx => hx.mono hle.A hle.w⟩
        · simp only [cx, Mu.upd, Mu.setCap]; rw [if_neg (by omega)]; exact hsz'
        · simp only [cx, Mu.upd, Mu.setCap]; rw [if_neg (by omega)]; exact hcap'
    · subst heq
      rw [getL_new] at ht; cases ht
      exact .inr ⟨w.heap.size, vs, by simp [cx, Mu.upd, Mu.setCap], ⟨el, heap_alloc_new w _⟩, by simp [cx, Mu.upd, Mu.setCap, hsz], by simp [cx, Mu.upd, Mu.setCap, hcap], us, rest, hvs, hr.imp fun x u hx => hx.mono hle.A hle.w⟩
    · have := getL_lt ht; simp at this; omega
  · intro x b hx
    simp only [Mu.upd, Mu.setCap] at hx
    split at hx
    · rename_i e; cases hx; subst e
      exact ⟨hm.below.size, by simp, by simp [getL_new]⟩
    · obtain ⟨h1, h2, h3⟩ := hm.live x b hx
      refine ⟨h1, by simp; omega, ?_⟩
      cases x with
      | r r => exact h3
      | n k => exact h3
      | l t =>
        obtain ⟨c, hc⟩ := Option.isSome_iff_exists.1 h3
        simp only; rw [getL_app (getL_lt hc)]; exact h3
  · intro x y b hx hy
    simp only [Mu.upd, Mu.setCap] at hx hy
    split at hx <;> split at hy
    · simp_all
    · cases hx; exact absurd (hm.live _ _ hy).2.1 (Nat.lt_irrefl _)
    · cases hy; exact absurd (hm.live _ _ hx).2.1 (Nat.lt_irrefl _)
    · exact hm.inj _ _ _ hx hy
  · exact hm.below.alloc hm.below.size _
  · intro b hb
    obtain ⟨h1, h2, h3⟩ := hm.fr b hb
    refine ⟨by simp; omega, by rw [heap_alloc w _ h1]; exact h2, fun x hx => ?_⟩
    simp only [Mu.upd, Mu.setCap] at hx
    split at hx
    · cases hx; exact absurd h1 (Nat.lt_irrefl _)
    · exact h3 x hx
  · intro b hb
    obtain ⟨h1, h3⟩ := hm.xo b hb
    refine ⟨by simp; omega, fun x hx => ?_⟩
    simp only [Mu.upd, Mu.setCap] at hx
    split at hx
    · cases hx; exact absurd h1 (Nat.lt_irrefl _)
    · exact h3 x hx
  · exact hm.np
  · intro r b hb
    obtain ⟨h1, h2⟩ := hm.pins r b hb
    exact ⟨h1, fun hs => by simp only [Mu.upd, Mu.setCap]; rw [if_neg (by intro e; cases e)]; exact h2 hs⟩
  · exact hm.gi
  · refine hm.bty.map (fun r' c' h1 h2 b hb => .inl ⟨r', c', h1, h2, by simpa [Mu.upd, Mu.setCap] using hb⟩) (fun t' o' h1 h2 b hb => ?_) fun x b vs T hx hv => ⟨vs, (heap_alloc w _ (hm.live _ _ hx).2.1).trans hv⟩
    rcases Nat.lt_trichotomy t' lsts.length with hlt | heq | hgt
    · rw [getL_app hlt] at h1
      simp only [Mu.upd, Mu.setCap] at hb
      rw [if_neg (by intro e; cases e; exact absurd hlt (Nat.lt_irrefl _))] at hb
      exact .inl ⟨t', o', h1, h2, hb⟩
    · subst heq
      rw [getL_new] at h1; cases h1
      simp only [Mu.upd, Mu.setCap, if_true] at hb
      cases hb
      exact .inr ⟨vs, by rw [heap_alloc_new]; rw [hel h2]⟩
    · have := getL_lt h1; simp at this; omega
  · intro r c h
    exact (hm.htop r c h).imp (c := cx A0 w0 recs lsts w μ) rfl (by simp [cx, Mu.upd, Mu.setCap]) (fun b hb => heap_alloc w _ (hm.live _ _ hb).2.1) fun us hu => hu.mono hle
  · intro d hd
    exact (hm.deep d hd).mono (c := cx A0 w0 recs lsts w μ) ⟨hle.A, hle.w, fun k => by simp [cx, Mu.upd, Mu.setCap], fun k b hb => heap_alloc w _ (hm.live _ _ hb).2.1, hle.nr, fun r hr h => by simp only [cx, Mu.upd, Mu.setCap]; rw [if_neg (by intro e; cases e)]; exact h⟩

/-- A new list of nothing, without memory. -/
theorem le_nilLst (l : LObj) : (cx A0 w0 recs lsts w μ).Le (cx A0 w0 recs (lsts ++ [some l]) w μ) :=
  ⟨fun _ hb => hb, fun b hb => rfl, Nat.le_refl _, by simp [cx], fun r hr hs => ⟨hs, rfl⟩,
   fun t o' ht ho => by
     have ht' : t < lsts.length := ht
     simp only [cx, getL_app ht'] at ho
     exact ⟨o', ho, rfl, rfl, rfl, rfl⟩, fun _ _ h => h⟩
theorem Mem.nilLst (hm : Mem A0 w0 recs lsts w μ) {l : LObj} (hl : l.xs = []) : Mem A0 w0 recs (lsts ++ [some l]) w μ := by
  have hle := le_nilLst (A0 := A0) (w0 := w0) (w := w) (recs := recs) (lsts := lsts) (μ := μ) l
  constructor
  · intro r cells' h hk
    obtain ⟨b, vs', hb, ho, hv⟩ := hm.hrec r cells' h hk
    exact ⟨b, vs', hb, ho, hv.mono hle⟩
  · intro t o ht
    rcases Nat.lt_trichotomy t lsts.length with hlt | heq | hgt
    · rw [getL_app hlt] at ht
      exact hm.hlst t o ht
    · subst heq
      rw [getL_new] at ht; cases ht
      refine .inl ⟨?_, hl⟩
      show μ.at_ _ = none
      cases hx : μ.at_ (.l lsts.length) with
      | none => rfl
      | some b =>
        obtain ⟨c, hc⟩ := Option.isSome_iff_exists.1 (hm.live _ _ hx).2.2
        exact absurd (getL_lt hc) (Nat.lt_irrefl _)
    · have := getL_lt ht; simp at this; omega
  · intro x b hx
    obtain ⟨h1, h2, h3⟩ := hm.live x b hx
    refine ⟨h1, h2, ?_⟩
    cases x with
    | r r => exact h3
    | n k => exact h3
    | l t =>
      obtain ⟨c, hc⟩ := Option.isSome_iff_exists.1 h3
      simp only; rw [getL_app (getL_lt hc)]; exact h3
  · exact hm.inj
  · exact hm.below
  · exact hm.fr
  · exact hm.xo
  · exact hm.np
  · exact hm.pins
  · exact hm.gi
  · refine hm.bty.map (fun r' c' h1 h2 b hb => .inl ⟨r', c', h1, h2, hb⟩) (fun t' o' h1 h2 b hb => ?_) fun x b vs T hx hv => ⟨vs, hv⟩
    rcases Nat.lt_trichotomy t' lsts.length with hlt | heq | hgt
    · rw [getL_app hlt] at h1
      exact .inl ⟨t', o', h1, h2, hb⟩
    · subst heq
      obtain ⟨c, hc⟩ := Option.isSome_iff_exists.1 (hm.live _ _ hb).2.2
      exact absurd (getL_lt hc) (Nat.lt_irrefl _)
    · have := getL_lt h1; simp at this; omega
  · intro r c h
    exact (hm.htop r c h).imp (c := cx A0 w0 recs lsts w μ) rfl rfl (fun b hb => rfl) fun us hu => hu.mono hle
  · intro d hd
    exact (hm.deep d hd).mono (c := cx A0 w0 recs lsts w μ) ⟨hle.A, hle.w, fun k => rfl, fun k b hb => rfl, hle.nr, fun r hr h => h⟩
end
end Go.Pe
