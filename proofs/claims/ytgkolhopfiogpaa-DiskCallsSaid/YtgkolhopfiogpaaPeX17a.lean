/- Disks, in plain Lean. -/
namespace Go.Pe.X17
abbrev Sec := List UInt8
abbrev Wr := Int × List UInt8
def badS (s : Sec) : Bool := (s.length : Int) != 128
def badW (n : Nat) (w : Wr) : Bool := decide (w.1 < 0) || (decide (w.1 ≥ (n : Int)) || (w.2.length : Int) != 128)
/-- Which disks may be. -/
def right (S : List Sec) (D : List Wr) : Bool := !(decide ((S.length : Int) < 4)) && (!(decide ((S.length : Int) > 64)) && (!(decide ((D.length : Int) > 200)) && (!S.any badS && !D.any (badW S.length))))
structure Right (S : List Sec) (D : List Wr) : Prop where
  lo : 4 ≤ S.length
  hi : S.length ≤ 64
  few : D.length ≤ 200
  sec : ∀ s ∈ S, s.length = 128
  wr : ∀ w ∈ D, 0 ≤ w.1 ∧ w.1 < (S.length : Int) ∧ w.2.length = 128
theorem right_iff {S : List Sec} {D : List Wr} : right S D = true ↔ Right S D := by
  unfold right
  simp only [Bool.and_eq_true, Bool.not_eq_true', decide_eq_false_iff_not, List.any_eq_false, badS, badW, bne_iff_ne, Bool.or_eq_true, decide_eq_true_eq, Classical.not_not, not_or]
  constructor
  · rintro ⟨h1, h2, h3, h4, h5⟩
    exact ⟨by omega, by omega, by omega, fun s hs => by have := h4 s hs; omega, fun w hw => by have := h5 w hw; omega⟩
  · rintro ⟨h1, h2, h3, h4, h5⟩
    exact ⟨by omega, by omega, by omega, fun s hs => by have := h4 s hs; omega, fun w hw => by have := h5 w hw; omega⟩
/-- A sector as it stands. -/
def stand (at_ : Int) (s : Sec) (w : Wr) : Sec := bif w.1 == at_ then w.2 else s
def stands (S : List Sec) (D : List Wr) (k : Nat) : Sec := D.foldl (stand k) (S.getD k [])
/-- All that was written, written. -/
def put (S : List Sec) (w : Wr) : List Sec := S.set w.1.toNat w.2
theorem puts_len (D : List Wr) : ∀ S : List Sec, (D.foldl put S).length = S.length := by
  induction D with
  | nil => intro S; rfl
  | cons w D ih => intro S; rw [List.foldl_cons, ih]; simp [put]
theorem puts_get (D : List Wr) : ∀ (S : List Sec), (∀ w ∈ D, 0 ≤ w.1 ∧ w.1 < (S.length : Int)) → ∀ k, k < S.length → (D.foldl put S).getD k [] = stands S D k := by
  induction D with
  | nil => intro S _ k _; rfl
  | cons w D ih =>
    intro S h k hk
    obtain ⟨h0, h1⟩ := h w (by simp)
    rw [List.foldl_cons, ih (put S w) (fun v hv => by simpa [put] using h v (by simp [hv])) k (by simpa [put] using hk)]
    unfold stands
    rw [List.foldl_cons]
    congr 1
    simp only [put, stand, List.getD_eq_getElem?_getD, List.getElem?_set]
    by_cases e : w.1 = (k : Int)
    · have h2 : w.1.toNat = k := by omega
      have h3 : (w.1 == (k : Int)) = true := by simp [e]
      simp [h2, h3, hk]
    · have h2 : ¬ w.1.toNat = k := by omega
      have h3 : (w.1 == (k : Int)) = false := by simpa using e
      simp [h2, h3]
theorem puts_right {S : List Sec} {D : List Wr} (h : Right S D) : Right (D.foldl put S) [] := by
  have key : ∀ (D : List Wr) (S : List Sec), (∀ s ∈ S, s.length = 128) → (∀ w ∈ D, w.2.length = 128) → ∀ s ∈ D.foldl put S, s.length = 128 := by
    intro D
    induction D with
    | nil => intro S h _; exact h
    | cons w D ih =>
      intro S h1 h2
      refine ih (put S w) (fun s hs => ?_) fun v hv => h2 v (by simp [hv])
      rcases List.mem_or_eq_of_mem_set hs with h | h
      · exact h1 s h
      · rw [h]; exact h2 w (by simp)
  exact ⟨by rw [puts_len]; exact h.lo, by rw [puts_len]; exact h.hi, by simp, key D S h.sec fun w hw => (h.wr w hw).2.2, by simp⟩
/-- With those that are kept. -/
def keptS (keep : List Bool) (i : Nat) (S : List Sec) (w : Wr) : List Sec := bif keep.getD i false then put S w else S
end Go.Pe.X17
