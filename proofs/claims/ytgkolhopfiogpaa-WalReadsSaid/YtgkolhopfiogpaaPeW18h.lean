import Derived.Test.YtgkolhopfiogpaaPeW18g
namespace Go.Pe.Try
open Go.Proofs Go.RowKit
set_option maxRecDepth 100000
theorem guard0 (x0 x7 : List UInt8) (x8 : Int) (l : List (List UInt8)) (hl : l.length ≤ 20) (hs : ∀ s ∈ l, s.length ≤ 100) :
    f3_p0_F (f3_p0_y x0 x7 x8 (l.flatMap frame) l 0 l) = some (f3_p0_o0_y x0 x7 x8 false) := by
  rw [f3_p0_eq, frames_eq l (by omega) (fun s h => by have := hs s h; omega), Option.bind_some]
  simp [same_eq l l (by omega)]
theorem law (a0 a1 : List UInt8) (a2 : List (List UInt8)) : f3_F (a0, (a1, (a2, ()))) = some (true, ()) := by
  rw [f3_eq]
  have c1 : ∀ {S : Type} (K : List UInt8 → Option S), cutHi a0 (minI (a0.length : Int) 4100) K = K (a0.take 4100) := fun K => cut_min a0 4100 K
  have c2 : ∀ {S : Type} (K : List UInt8 → Option S), cutHi a1 (minI (a1.length : Int) 6000) K = K (a1.take 6000) := fun K => cut_min a1 6000 K
  rw [c1, c2]
  have l0 : (a0.take 4100).length ≤ 4100 := by simp; omega
  have l1 : (a1.take 6000).length ≤ 6000 := by simp; omega
  generalize a0.take 4100 = e at l0 ⊢
  generalize a1.take 6000 = s at l1 ⊢
  have hread := read_eq s (by omega)
  have href := ref_eq s (by omega)
  obtain ⟨x7, x8, hf, hfin⟩ : ∃ (x7 : List UInt8) (x8 : Int), f11_F (e, ()) = some (x7, (x8, ())) ∧ ((4096 < e.length ∧ x7 = [] ∧ x8 = 2) ∨ (e.length ≤ 4096 ∧ x7 = frame e ∧ x8 = 0)) := by
    by_cases h : e.length ≤ 4096
    · exact ⟨_, _, frame_eq e h, .inr ⟨h, rfl, rfl⟩⟩
    · exact ⟨_, _, frame_long e (by omega), .inl ⟨by omega, rfl, rfl⟩⟩
  rw [hf, Option.bind_some]
  obtain ⟨b, f, hb, hb2⟩ : ∃ (b : List (List UInt8)) (f : Int), f12_F (s, ()) = some (b, (f, ())) ∧ (b, f) = match parse s.length s with | some r => (r, 0) | none => ([], 41) := by
    rw [hread]; cases parse s.length s <;> exact ⟨_, _, rfl, rfl⟩
  obtain ⟨w, is, hw, hw2⟩ : ∃ (w : List (List UInt8)) (is : Bool), f13_F (s, ()) = some (w, (is, ())) ∧ (w, is) = match parse s.length s with | some r => (r, true) | none => ([], false) := by
    rw [href]; cases parse s.length s <;> exact ⟨_, _, rfl, rfl⟩
  rw [hb, Option.bind_some, hw, Option.bind_some]
  rw [guard2 e a2 x7 x8 s (by omega) b w f is hb2 hw2, Option.bind_some]
  have p1 : f3_p2_o0_x72 (f3_p2_o0_y e a2 x7 x8 false) = false := rfl
  have p2 : f3_p2_o0_x2 (f3_p2_o0_y e a2 x7 x8 false) = a2 := rfl
  have p3 : f3_p2_o0_x0 (f3_p2_o0_y e a2 x7 x8 false) = e := rfl
  have p4 : f3_p2_o0_x7 (f3_p2_o0_y e a2 x7 x8 false) = x7 := rfl
  have p5 : f3_p2_o0_x8 (f3_p2_o0_y e a2 x7 x8 false) = x8 := rfl
  have c3 : ∀ {S : Type} (K : List (List UInt8) → Option S), cutHi a2 (minI (a2.length : Int) 20) K = K (a2.take 20) := fun K => cut_min a2 20 K
  rw [p1, cond_false, p2, p3, p4, p5, c3]
  have l2 : (a2.take 20).length ≤ 20 := by simp; omega
  generalize a2.take 20 = l at l2 ⊢
  rw [appOk, if_pos (by omega)]
  have hgo : go f3_p1_st (f3_p1_y e x7 x8 [] l.length 0 l) = some (.inl (f3_p1_o0_y e x7 x8 ((l.map tk).flatMap frame) (l.map tk))) := by
    refine go_le (m := l.length + 1) (fun n hn => ?_) ?_
    · have := law_loop e x7 x8 l l2 l.length 0 (by omega) n hn
      simpa using this
    · simp only [fuelOf, fuelL, SAV.fuel, Ty.fuel, fuelR, fuelT]
      omega
  rw [hgo, Option.bind_some]
  have ht : ∀ t ∈ l.map tk, t.length ≤ 100 := fun t h => by obtain ⟨u, _, rfl⟩ := List.mem_map.1 h; exact tk_len u
  have hfl := flat_len (l.map tk) ht
  have hml : (l.map tk).length = l.length := by simp
  generalize l.map tk = m at ht hfl hml ⊢
  have q1 : f3_p1_o0_x13 (f3_p1_o0_y e x7 x8 (m.flatMap frame) m) = m.flatMap frame := rfl
  have q2 : f3_p1_o0_x0 (f3_p1_o0_y e x7 x8 (m.flatMap frame) m) = e := rfl
  have q3 : f3_p1_o0_x7 (f3_p1_o0_y e x7 x8 (m.flatMap frame) m) = x7 := rfl
  have q4 : f3_p1_o0_x8 (f3_p1_o0_y e x7 x8 (m.flatMap frame) m) = x8 := rfl
  have q5 : f3_p1_o0_l0 (f3_p1_o0_y e x7 x8 (m.flatMap frame) m) = m := rfl
  dsimp only
  rw [q1, q2, q3, q4, q5, read_eq _ (by omega), parse_frames m _ (fun t h => by have := ht t h; omega) (Nat.le_refl _), Option.bind_some, guard0 e x7 x8 m (by omega) ht, Option.bind_some]
  have r1 : f3_p0_o0_x127 (f3_p0_o0_y e x7 x8 false) = false := rfl
  have r2 : f3_p0_o0_x0 (f3_p0_o0_y e x7 x8 false) = e := rfl
  have r3 : f3_p0_o0_x7 (f3_p0_o0_y e x7 x8 false) = x7 := rfl
  have r4 : f3_p0_o0_x8 (f3_p0_o0_y e x7 x8 false) = x8 := rfl
  rw [r1, cond_false, r2, r3, r4]
  rcases hfin with ⟨h, rfl, rfl⟩ | ⟨h, rfl, rfl⟩
  · have : decide ((e.length : Int) > 4096) = true := by simp; omega
    rw [this]; rfl
  · have : decide ((e.length : Int) > 4096) = false := by simp; omega
    rw [this, cond_false, frames_eq [e] (by simp) (by intro s hs; simp at hs; subst hs; exact h)]
    simp
end Go.Pe.Try
