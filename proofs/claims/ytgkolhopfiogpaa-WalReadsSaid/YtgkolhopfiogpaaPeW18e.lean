import Derived.Test.YtgkolhopfiogpaaPeW18d
namespace Go.Pe.Try
open Go.Proofs Go.RowKit
set_option maxRecDepth 100000
theorem num_be4 (n : Nat) (h : n < 4294967296) : num (be4 n) = n := by
  simp only [num, be4, List.foldl_cons, List.foldl_nil, UInt8.toNat_ofNat']
  omega
theorem parse_frames : ∀ (l : List (List UInt8)) (k : Nat), (∀ s ∈ l, s.length ≤ 4096) → (l.flatMap frame).length ≤ k → parse k (l.flatMap frame) = some l
  | [], 0, _, _ => by simp [parse]
  | [], k + 1, _, _ => by simp [parse]
  | s :: l, 0, _, h => by simp [frame, be4_length] at h
  | s :: l, k + 1, hs, h => by
    have hs0 := hs s (by simp)
    have e : (s :: l).flatMap frame = be4 s.length ++ (s ++ l.flatMap frame) := by rw [List.flatMap_cons, frame, List.append_assoc]
    rw [e] at h ⊢
    have h1 : be4 s.length ++ (s ++ l.flatMap frame) ≠ [] := by simp [be4]
    have h2 : ¬ (be4 s.length ++ (s ++ l.flatMap frame)).length < 4 := by rw [List.length_append, be4_length]; omega
    have h3 : (be4 s.length ++ (s ++ l.flatMap frame)).take 4 = be4 s.length := by rw [List.take_append_of_le_length (by rw [be4_length]; omega), List.take_of_length_le (by rw [be4_length]; omega)]
    have h4 : (be4 s.length ++ (s ++ l.flatMap frame)).drop 4 = s ++ l.flatMap frame := by rw [List.drop_append_of_le_length (by rw [be4_length]; omega), List.drop_of_length_le (by rw [be4_length]; omega)]; rfl
    simp only [parse, if_neg h1, if_neg h2, h3, h4, num_be4 _ (show s.length < 4294967296 by omega)]
    rw [if_neg (by simp; omega)]
    have h5 : (s ++ l.flatMap frame).drop s.length = l.flatMap frame := by simp
    have h6 : (s ++ l.flatMap frame).take s.length = s := by simp
    rw [h5, h6, parse_frames l k (fun t ht => hs t (by simp [ht])) (by rw [List.length_append, List.length_append, be4_length] at h; omega)]
    rfl
theorem alive_eq : f15_F () = some (true, ()) := by
  rw [f15_eq, frame_eq _ (by decide), Option.bind_some]
  have hp : parse (frame [97, 98]).length (frame [97, 98]) = some [[97, 98]] := by
    have := parse_frames [[97, 98]] (frame [97, 98]).length (by intro s hs; simp at hs; subst hs; decide) (by simp)
    simpa using this
  show ((f12_F (frame [97, 98], ())).bind _) = _
  rw [read_eq _ (by decide), hp]
  rfl
end Go.Pe.Try
