/- Loops over a list: the first that is so; all of them, one by one. -/
import Derived.Test.YtgghmllnhaahgaaDoorPeTac
namespace Go.Pe
open Go.RowKit
set_option linter.unusedSectionVars false
variable [GI]
theorem go_scan {sh : Shape} {α β : Type} {step : (sh.den → Option β) → sh.den → Option β} {l : List α} (y : Nat → sh.den) (p : α → Bool) (out : Nat → Option β) (fin : Option β)
    (h1 : ∀ i (h : i < l.length) rec, step rec (y i) = bif p l[i] then out i else rec (y (i + 1))) (h2 : ∀ rec, step rec (y l.length) = fin) (hm : l.length + 1 ≤ fuelOf sh (y 0)) :
    go step (y 0) = match l.findIdx? p with | some k => out k | none => fin := by
  cases hf : l.findIdx? p with
  | none =>
    rw [List.findIdx?_eq_none_iff] at hf
    refine go_seq (y := y) (n := l.length) (fun i hi rec => ?_) h2 hm
    rw [h1 i hi, hf _ (List.getElem_mem hi)]; rfl
  | some k =>
    rw [List.findIdx?_eq_some_iff_getElem] at hf
    obtain ⟨hk, hp, hlt⟩ := hf
    refine go_seq (y := y) (n := k) (fun i hi rec => ?_) (fun rec => ?_) (by omega)
    · rw [h1 i (by omega)]
      have := hlt i hi
      simp only [Bool.not_eq_true] at this
      rw [this]; rfl
    · rw [h1 k hk, hp]; rfl
def foldi {σ α : Type} (f : Nat → σ → α → σ) : Nat → σ → List α → σ
  | _, s, [] => s
  | k, s, x :: l => foldi f (k + 1) (f k s x) l
theorem foldi_eq {σ α : Type} (f : σ → α → σ) : ∀ (l : List α) (k : Nat) (s : σ), foldi (fun _ => f) k s l = l.foldl f s
  | [], _, _ => rfl
  | x :: l, k, s => foldi_eq f l (k + 1) (f s x)
theorem go_foldi {sh : Shape} {σ α β : Type} {step : (sh.den → Option β) → sh.den → Option β} {l : List α} (y : Nat → σ → sh.den) (f : Nat → σ → α → σ) (Inv : Nat → σ → Prop) {s0 : σ} {fin : σ → Option β} (h0 : Inv 0 s0)
    (h1 : ∀ i s (h : i < l.length), Inv i s → Inv (i + 1) (f i s l[i]) ∧ ∀ rec, step rec (y i s) = rec (y (i + 1) (f i s l[i]))) (h2 : ∀ s, Inv l.length s → ∀ rec, step rec (y l.length s) = fin s) (hm : l.length + 1 ≤ fuelOf sh (y 0 s0)) :
    go step (y 0 s0) = fin (foldi f 0 s0 l) ∧ Inv l.length (foldi f 0 s0 l) := by
  have key : ∀ (l' : List α) (i : Nat) (s : σ) (m : Nat), l.drop i = l' → i + l'.length = l.length → Inv i s → l'.length + 1 ≤ m → iter step m (y i s) = fin (foldi f i s l') ∧ Inv l.length (foldi f i s l') := by
    intro l'
    induction l' with
    | nil =>
      intro i s m hd hi hI hm
      obtain ⟨m, rfl⟩ : ∃ k, m = k + 1 := ⟨m - 1, by simp at hm; omega⟩
      have : i = l.length := by simpa using hi
      subst this
      exact ⟨by rw [iter, h2 s hI]; rfl, hI⟩
    | cons x l' ih =>
      intro i s m hd hi hI hm
      obtain ⟨m, rfl⟩ : ∃ k, m = k + 1 := ⟨m - 1, by simp at hm; omega⟩
      have hlt : i < l.length := by simp at hi; omega
      have hx : l[i] = x := by
        rw [List.drop_eq_getElem_cons hlt] at hd
        exact (List.cons.inj hd).1
      obtain ⟨hI', hs⟩ := h1 i s hlt hI
      rw [hx] at hI' hs
      have hd' : l.drop (i + 1) = l' := by
        rw [List.drop_eq_getElem_cons hlt] at hd
        exact (List.cons.inj hd).2
      rw [iter, hs]
      exact ih (i + 1) _ m hd' (by simp at hi; omega) hI' (by simp at hm; omega)
  exact key l 0 s0 _ rfl (by simp) h0 hm
end Go.Pe
