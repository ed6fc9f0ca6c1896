/- Sectors of 128 bytes, and what is written to them: in plain Lean. -/
namespace Go.Pe.X18
/-- A row of sectors, each of 128 bytes. -/
def Uni (s : List (List UInt8)) : Prop := ∀ x ∈ s, x.length = 128
theorem flat_len : ∀ {s : List (List UInt8)}, Uni s → s.flatten.length = 128 * s.length
  | [], _ => rfl
  | x :: s, h => by
    have h1 := h x (by simp)
    have h2 := flat_len (s := s) fun y hy => h y (by simp [hy])
    simp only [List.flatten_cons, List.length_append, List.length_cons, h1, h2]; omega
theorem flat_get : ∀ {s : List (List UInt8)}, Uni s → ∀ i, s.flatten[i]? = (s[i / 128]?).bind fun x => x[i % 128]?
  | [], _, i => by simp
  | x :: s, h, i => by
    have h1 := h x (by simp)
    have ih := flat_get (s := s) fun y hy => h y (by simp [hy])
    rw [List.flatten_cons]
    by_cases hi : i < 128
    · rw [List.getElem?_append_left (by omega), Nat.div_eq_of_lt hi, Nat.mod_eq_of_lt hi]; rfl
    · rw [List.getElem?_append_right (by omega), h1, ih, show i / 128 = (i - 128) / 128 + 1 by omega, show i % 128 = (i - 128) % 128 by omega]; rfl
def chunk (all : List UInt8) (j : Nat) : List UInt8 := (all.take ((j + 1) * 128)).drop (j * 128)
theorem chunk_get (all : List UInt8) (j k : Nat) (hk : k < 128) : (chunk all j)[k]? = all[j * 128 + k]? := by
  unfold chunk
  rw [List.getElem?_drop, List.getElem?_take_of_lt (by omega)]
theorem chunk_len (all : List UInt8) (j : Nat) (h : (j + 1) * 128 ≤ all.length) : (chunk all j).length = 128 := by
  unfold chunk; simp; omega
/-- What is written, from one sector on to another. -/
def writes (all : List UInt8) (lo : Nat) : Nat → List (Int × List UInt8)
  | 0 => []
  | n + 1 => ((lo : Int), chunk all lo) :: writes all (lo + 1) n
theorem writes_len (all : List UInt8) : ∀ (lo n : Nat), (writes all lo n).length = n
  | _, 0 => rfl
  | lo, n + 1 => by simp [writes, writes_len all (lo + 1) n]
theorem writes_mem {all : List UInt8} : ∀ {lo n : Nat} {w : Int × List UInt8}, w ∈ writes all lo n ↔ ∃ j, lo ≤ j ∧ j < lo + n ∧ w = ((j : Int), chunk all j)
  | lo, 0, w => by simp [writes]; omega
  | lo, n + 1, w => by
    rw [writes, List.mem_cons, writes_mem]
    constructor
    · rintro (rfl | ⟨j, h1, h2, rfl⟩)
      · exact ⟨lo, Nat.le_refl _, by omega, rfl⟩
      · exact ⟨j, by omega, by omega, rfl⟩
    · rintro ⟨j, h1, h2, rfl⟩
      by_cases e : j = lo
      · left; rw [e]
      · right; exact ⟨j, by omega, by omega, rfl⟩
theorem writes_snoc (all : List UInt8) : ∀ (lo n : Nat), writes all lo (n + 1) = writes all lo n ++ [(((lo + n : Nat) : Int), chunk all (lo + n))]
  | lo, 0 => by simp [writes]
  | lo, n + 1 => by
    rw [writes, writes_snoc all (lo + 1) n, writes, show lo + 1 + n = lo + (n + 1) by omega]; rfl
theorem writes_get (all : List UInt8) : ∀ (lo n k : Nat), k < n → (writes all lo n)[k]? = some (((lo + k : Nat) : Int), chunk all (lo + k))
  | _, 0, _, h => by omega
  | lo, n + 1, 0, _ => by simp [writes]
  | lo, n + 1, k + 1, h => by
    rw [writes, List.getElem?_cons_succ, writes_get all (lo + 1) n k (by omega)]
    rw [show lo + 1 + k = lo + (k + 1) by omega]
/-- A row with sectors written. -/
def put (s : List (List UInt8)) (l : List (Int × List UInt8)) : List (List UInt8) := l.foldl (fun s w => s.set w.1.toNat w.2) s
theorem put_len (l : List (Int × List UInt8)) : ∀ s, (put s l).length = s.length := by
  induction l with
  | nil => intro s; rfl
  | cons w l ih => intro s; show (put (s.set _ _) l).length = _; rw [ih]; simp
/-- All that is written is of one text. -/
def Of (all : List UInt8) (n : Nat) (l : List (Int × List UInt8)) : Prop := ∀ w ∈ l, ∃ j, j < n ∧ w = ((j : Int), chunk all j)
theorem put_get {all : List UInt8} {n : Nat} : ∀ {l : List (Int × List UInt8)}, Of all n l → ∀ {s : List (List UInt8)}, s.length = n → ∀ j : Nat, (put s l)[j]? = if (j : Int) ∈ l.map (·.1) then some (chunk all j) else s[j]?
  | [], _, s, _, j => by simp [put]
  | w :: l, h, s, hs, j => by
    obtain ⟨k, hk, rfl⟩ := h w (by simp)
    have ih := put_get (l := l) (fun w hw => h w (by simp [hw])) (s := s.set k (chunk all k)) (by simp [hs]) j
    show (put (s.set (Int.toNat (k : Int)) (chunk all k)) l)[j]? = _
    rw [Int.toNat_natCast, ih]
    by_cases h1 : (j : Int) ∈ l.map (·.1)
    · rw [if_pos h1, if_pos (by simp only [List.map_cons, List.mem_cons]; exact .inr h1)]
    · rw [if_neg h1, List.getElem?_set]
      by_cases h2 : k = j
      · subst h2
        rw [if_pos rfl, if_pos (by omega), if_pos (by simp)]
      · rw [if_neg h2, if_neg]
        simp only [List.map_cons, List.mem_cons, not_or]
        exact ⟨by omega, h1⟩
theorem put_uni {all : List UInt8} {n : Nat} {l : List (Int × List UInt8)} (h : Of all n l) (hall : 128 * n ≤ all.length) {s : List (List UInt8)} (hs : s.length = n) (hu : Uni s) : Uni (put s l) := by
  intro x hx
  obtain ⟨j, hj⟩ := List.mem_iff_getElem?.1 hx
  rw [put_get h hs] at hj
  split at hj
  · rename_i hm
    cases hj
    have hjn : j < n := by
      rw [List.mem_map] at hm
      obtain ⟨w, hw, e⟩ := hm
      obtain ⟨k, hk, rfl⟩ := h w hw
      simp only at e; omega
    exact chunk_len all j (by omega)
  · exact hu x (List.mem_of_getElem? hj)
/-- The text behind: as it was, or as what is written. -/
theorem put_flat {all : List UInt8} {n : Nat} {l : List (Int × List UInt8)} (h : Of all n l) (hall : all.length = 128 * n) {s : List (List UInt8)} (hs : s.length = n) (hu : Uni s) (i : Nat) :
    (put s l).flatten[i]? = if ((i / 128 : Nat) : Int) ∈ l.map (·.1) then all[i]? else s.flatten[i]? := by
  rw [flat_get (put_uni h (by omega) hs hu), put_get h hs, flat_get hu]
  split
  · rw [Option.bind_some, chunk_get _ _ _ (Nat.mod_lt _ (by omega))]
    congr 1; omega
  · rfl
/-- The text that is written. -/
def whole (s : List (List UInt8)) (used : Nat) (data : List UInt8) : List UInt8 := s.flatten.take used ++ data ++ List.replicate (128 * s.length - used - data.length) 0
theorem whole_len {s : List (List UInt8)} (hu : Uni s) {used : Nat} {data : List UInt8} (h : used + data.length ≤ 128 * s.length) : (whole s used data).length = 128 * s.length := by
  have := flat_len hu
  unfold whole
  generalize s.flatten = t at this ⊢
  simp only [List.length_append, List.length_take, List.length_replicate]; omega
theorem whole_take {s : List (List UInt8)} (hu : Uni s) {used : Nat} {data : List UInt8} (h : used + data.length ≤ 128 * s.length) : (whole s used data).take (used + data.length) = s.flatten.take used ++ data := by
  have := flat_len hu
  unfold whole
  generalize s.flatten = t at this ⊢
  rw [List.take_append_of_le_length (by simp; omega), List.take_of_length_le (by simp; omega)]
theorem whole_below {s : List (List UInt8)} (hu : Uni s) {used : Nat} {data : List UInt8} (h : used ≤ 128 * s.length) {i : Nat} (hi : i < used) : (whole s used data)[i]? = s.flatten[i]? := by
  have := flat_len hu
  unfold whole
  generalize s.flatten = t at this ⊢
  rw [List.append_assoc, List.getElem?_append_left (by simp; omega), List.getElem?_take_of_lt hi]
theorem whole_mid {s : List (List UInt8)} (hu : Uni s) {used : Nat} {data : List UInt8} (h : used ≤ 128 * s.length) {i : Nat} (h1 : used ≤ i) (h2 : i - used < data.length) : (whole s used data)[i]? = data[i - used]? := by
  have := flat_len hu
  unfold whole
  generalize s.flatten = t at this ⊢
  rw [List.getElem?_append_left (by simp; omega), List.getElem?_append_right (by simp; omega), List.length_take, show min used t.length = used by omega]
theorem whole_end {s : List (List UInt8)} (hu : Uni s) {used : Nat} {data : List UInt8} (h : used ≤ 128 * s.length) {i : Nat} (h1 : used ≤ i) (h2 : data.length ≤ i - used) (h3 : i < 128 * s.length) : (whole s used data)[i]? = some 0 := by
  have := flat_len hu
  unfold whole
  generalize s.flatten = t at this ⊢
  rw [List.getElem?_append_right (by simp; omega), List.getElem?_replicate_of_lt]
  simp; omega
/-- How many sectors are written. -/
def many (used : Nat) (data : List UInt8) : Nat := if data = [] then 0 else (used + data.length + 127) / 128 - used / 128
def lays (s : List (List UInt8)) (used : Nat) (data : List UInt8) : List (Int × List UInt8) := writes (whole s used data) (used / 128) (many used data)
theorem lay_of {s : List (List UInt8)} {used : Nat} {data : List UInt8} (h : used + data.length ≤ 128 * s.length) : Of (whole s used data) s.length (lays s used data) := by
  intro w hw
  obtain ⟨j, h1, h2, rfl⟩ := writes_mem.1 hw
  refine ⟨j, ?_, rfl⟩
  unfold many at h2
  split at h2
  · omega
  · omega
theorem lay_mem {s : List (List UInt8)} {used : Nat} {data : List UInt8} (hd : data ≠ []) (j : Nat) : (j : Int) ∈ (lays s used data).map (·.1) ↔ used / 128 ≤ j ∧ j * 128 < used + data.length := by
  have hp : 0 < data.length := List.length_pos_iff.2 hd
  rw [List.mem_map]
  constructor
  · rintro ⟨w, hw, e⟩
    obtain ⟨k, h1, h2, rfl⟩ := writes_mem.1 hw
    unfold many at h2
    rw [if_neg hd] at h2
    simp only at e
    omega
  · rintro ⟨h1, h2⟩
    refine ⟨_, writes_mem.2 ⟨j, h1, ?_, rfl⟩, rfl⟩
    unfold many
    rw [if_neg hd]; omega
/-- WHAT IS LAID IS READ. -/
theorem lay_text {s : List (List UInt8)} (hu : Uni s) {used : Nat} {data : List UInt8} (h : used + data.length ≤ 128 * s.length) : (put s (lays s used data)).flatten.take (used + data.length) = s.flatten.take used ++ data := by
  by_cases hd : data = []
  · subst hd
    have : lays s used [] = [] := by simp [lays, many, writes]
    rw [this]; simp [put]
  · rw [← whole_take hu h]
    apply List.ext_getElem?
    intro i
    by_cases hi : i < used + data.length
    · rw [List.getElem?_take_of_lt hi, List.getElem?_take_of_lt hi, put_flat (lay_of h) (whole_len hu h) rfl hu]
      split
      · rfl
      · rename_i hm
        rw [lay_mem hd] at hm
        rw [whole_below hu (by omega) (by omega)]
    · rw [List.getElem?_eq_none (by rw [List.length_take]; omega), List.getElem?_eq_none (by rw [List.length_take]; omega)]
/-- With only some of it written, what was there is still read. -/
theorem some_text {s : List (List UInt8)} (hu : Uni s) {used : Nat} {data : List UInt8} (h : used + data.length ≤ 128 * s.length) {l : List (Int × List UInt8)} (hl : Of (whole s used data) s.length l) : (put s l).flatten.take used = s.flatten.take used := by
  apply List.ext_getElem?
  intro i
  by_cases hi : i < used
  · rw [List.getElem?_take_of_lt hi, List.getElem?_take_of_lt hi, put_flat hl (whole_len hu h) rfl hu]
    split
    · exact whole_below hu (by omega) hi
    · rfl
  · rw [List.getElem?_eq_none (by rw [List.length_take]; omega), List.getElem?_eq_none (by rw [List.length_take]; omega)]
end Go.Pe.X18
