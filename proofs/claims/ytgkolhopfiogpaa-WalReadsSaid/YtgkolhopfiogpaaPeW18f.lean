import Derived.Test.YtgkolhopfiogpaaPeW18e
namespace Go.Pe.Try
open Go.Proofs Go.RowKit
set_option maxRecDepth 100000
theorem parse_length : ∀ (k : Nat) (s : List UInt8) (r : List (List UInt8)), parse k s = some r → r.length ≤ s.length
  | 0, s, r, h => by
    simp only [parse] at h
    split at h
    · cases h; simp
    · cases h
  | k + 1, s, r, h => by
    simp only [parse] at h
    split at h
    · cases h; simp
    · split at h
      · cases h
      · split at h
        · cases h
        · obtain ⟨q, hq, rfl⟩ := Option.map_eq_some_iff.1 h
          have := parse_length k _ q hq
          simp at this ⊢
          omega
theorem guard2 (x0 : List UInt8) (x2 : List (List UInt8)) (x7 : List UInt8) (x8 : Int) (s : List UInt8) (hs : s.length < 1073741824) (b w : List (List UInt8)) (f : Int) (is : Bool)
    (hb : (b, f) = match parse s.length s with | some r => (r, 0) | none => ([], 41)) (hw : (w, is) = match parse s.length s with | some r => (r, true) | none => ([], false)) :
    f3_p2_F (f3_p2_y x0 x2 x7 x8 b f w is) = some (f3_p2_o0_y x0 x2 x7 x8 false) := by
  rw [f3_p2_eq]
  cases hp : parse s.length s with
  | none =>
    rw [hp] at hb hw
    simp only [Prod.mk.injEq] at hb hw
    obtain ⟨rfl, rfl⟩ := hb
    obtain ⟨rfl, rfl⟩ := hw
    simp [alive_eq]
  | some r =>
    rw [hp] at hb hw
    simp only [Prod.mk.injEq] at hb hw
    obtain ⟨rfl, rfl⟩ := hb
    obtain ⟨rfl, rfl⟩ := hw
    have := parse_length _ _ _ hp
    simp [alive_eq, same_eq _ _ (show w.length < 4611686018427387904 by omega)]
end Go.Pe.Try
