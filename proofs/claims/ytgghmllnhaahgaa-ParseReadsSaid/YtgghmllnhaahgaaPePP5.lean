/- The parser's keys, beginnings and ends, told. -/
import Derived.Test.YtgghmllnhaahgaaPePP4
namespace Go.Pe.Try
open Go.Proofs Go.RowKit
set_option maxRecDepth 100000
set_option linter.unusedSimpArgs false
set_option linter.unusedVariables false
def late (keys : List (List UInt8)) (s : List UInt8) : Bool := match keys.getLast? with | some k => !Op.bytesLess k s | none => false
def keyS (keys : List (List UInt8)) : List UInt8 → Except Int (List (List UInt8) × List UInt8)
  | [] => .error 3
  | c :: r => if c = 34 then (match txt r [] with
      | .error e => .error e
      | .ok (s, r) => if late keys s = true then .error 23 else (match r with
          | [] => .error 3
          | d :: r' => if d = 58 then .ok (keys ++ [s], r') else .error 20)) else .error 20
def clo (k : Int) : UInt8 := if k = 4 then 125 else 93
def addV (f v : V) : V := ⟨f.kind, f.n, f.s, f.items ++ [v], f.keys⟩
def withK (f : V) (ks : List (List UInt8)) : V := ⟨f.kind, f.n, f.s, f.items, ks⟩
theorem end_eq (k n : Int) (s : List UInt8) (is : List V) (ks : List (List UInt8)) : f23_F ((k, (n, (s, (is, (ks, ()))))), ()) = some (((clo k).toNat : Int), ()) := by
  rw [f23_eq]; unfold clo
  by_cases h : k = 4
  · subst h; rfl
  · have : (k == 4) = false := by simpa using h
    simp [this, h]
theorem key_eq (t : List UInt8) (n : Int) (l : List V) (f : V) (hl : l.length ≤ 100000) (hk : f.keys.length ≤ 100000) : h25_F (h25_y t n (l ++ [f])) = some (match keyS f.keys t with
    | .error e => .inr (h25_z_y e)
    | .ok (ks, r) => .inl (h25_o_y r n (l ++ [withK f ks]))) := by
  rw [h25_eq, text_eq]
  cases t with
  | nil => simp [keyS]
  | cons c r =>
    by_cases hc : c = 34
    · subst hc
      simp only [if_true, keyS]
      cases htx : txt r [] with
      | error e => simp
      | ok p =>
        obtain ⟨s, r⟩ := p
        clear htx
        simp only [Option.bind_some, h40_o_x0_y, h40_o_r0_0_y, h40_o_r0_1_y, lastOf_app]
        rw [appOk_lt (by omega), take_eq _ (by simp)]
        have happ : appOk (f.keys.length + [s].length) = fun (K : Option (h25_O.den ⊕ h25_Z.den)) => K := by
          funext K; exact appOk_lt (by simp; omega) K
        have htail : ((match r with | [] => some (Sum.inr (h22_z_y 3)) | c :: r => if c ∈ ([58] : List UInt8) then some (Sum.inl (h22_o_y (c.toNat : Int) r n)) else some (Sum.inr (h22_z_y 20)) : Option (h22_O.den ⊕ h22_Z.den)).bind fun o => (match o with | .inl z => some (Sum.inl (h25_o_y (h22_o_r0_0 z) (h22_o_r0_1 z) (l ++ [V.mk f.kind f.n f.s f.items (f.keys ++ [s])]))) | .inr z => some (Sum.inr (h25_z_y (h22_z_x0_0_0 z))))) =
            some (match (match r with | [] => Except.error 3 | d :: r' => if d = 58 then Except.ok (f.keys ++ [s], r') else Except.error 20 : Except Int (List (List UInt8) × List UInt8)) with
              | .error e => .inr (h25_z_y e)
              | .ok (ks, r) => .inl (h25_o_y r n (l ++ [withK f ks]))) := by
          cases r with
          | nil => simp
          | cons d r' =>
            by_cases hd : d = 58
            · simp [hd, withK]
            · simp [hd]
        rw [happ]
        unfold late
        rcases List.eq_nil_or_concat f.keys with hk0 | ⟨ks, k, hks⟩
        · have h0 : ¬ ((f.keys.length : Int) > 0) := by rw [hk0]; simp
          have hgl : f.keys.getLast? = none := by rw [hk0]; rfl
          simp only [h0, decide_false, cond_false, hgl, Bool.false_eq_true, if_false]
          exact htail
        · have hlen : f.keys.length = ks.length + 1 := by rw [hks]; simp
          have h0 : ((f.keys.length : Int) > 0) := by omega
          have hgl : f.keys.getLast? = some k := by rw [hks]; simp
          have hw : IntKind.i64.wrap ((f.keys.length : Int) - 1) = (ks.length : Int) := by rw [wrap64 (by omega) (by omega)]; omega
          have hgk : f.keys[Int.toNat (ks.length : Int)]? = some k := by rw [hks]; simp
          simp only [h0, decide_true, cond_true, hgl]
          rw [hw, within_lt (by omega), hgk, Option.bind_some]
          cases Op.bytesLess k s with
          | false => simp [h12_eq]
          | true =>
            simp only [Bool.not_true, cond_false, Bool.false_eq_true, if_false]
            exact htail
    · simp [keyS, hc]
def openS (k : Int) (r : List UInt8) : Except Int ((V × List UInt8) ⊕ (V × List UInt8)) :=
  if k = 4 then (match keyS [] r with | .error e => .error e | .ok (ks, r) => .ok (.inr (⟨4, 0, [], [], ks⟩, r))) else .ok (.inr (⟨k, 0, [], [], []⟩, r))
def beginS (depth : Nat) (n : Nat) (t : List UInt8) : Except Int ((V × List UInt8) ⊕ (V × List UInt8)) :=
  if depth = 12 then .error 21 else if n = 2000 then .error 22 else match t with
    | [] => .error 3
    | c :: r => if (c == 45 || digitB c) = true then (match num (c :: r) with | .error e => .error e | .ok (v, r) => .ok (.inl (⟨1, v, [], [], []⟩, r)))
      else if c = 34 then (match txt r [] with | .error e => .error e | .ok (s, r) => .ok (.inl (⟨2, 0, s, [], []⟩, r)))
      else if c = 91 ∨ c = 123 then (match r with
        | [] => openS (if c = 123 then 4 else 3) []
        | d :: r' => if d = clo (if c = 123 then 4 else 3) then .ok (.inl (⟨if c = 123 then 4 else 3, 0, [], [], []⟩, r')) else openS (if c = 123 then 4 else 3) (d :: r'))
      else .error 20
theorem push_eq (k : Int) (t : List UInt8) (n : Int) (fs : List V) (h : fs.length ≤ 100000) : h41_F (h41_y k 0 [] t n fs) = some (h41_o_y t n (fs ++ [⟨k, 0, [], [], []⟩])) := by
  rw [h41_eq, appOk_lt (by omega)]; simp [sameInt]
theorem begin_eq (t : List UInt8) (ht : t.length ≤ 70000) (n : Nat) (hn : n ≤ 2000) (fs : List V) (hf : fs.length ≤ 100000) : h20_F (h20_y t (n : Int) fs) = some (match beginS fs.length n t with
    | .error e => .inr (h20_z_y e)
    | .ok (.inl (v, r)) => .inl (h20_o_y v.kind v.n v.s v.items v.keys true r ((n + 1 : Nat) : Int) fs)
    | .ok (.inr (f, r)) => .inl (h20_o_y 0 0 [] [] [] false r ((n + 1 : Nat) : Int) (fs ++ [f]))) := by
  rw [h20_eq, h20_p4_eq]
  unfold beginS
  by_cases h12 : fs.length = 12
  · simp [h12, h12_eq]
  have h12' : ((fs.length : Int) == 12) = false := by simp; omega
  rw [h12']
  by_cases h20 : n = 2000
  · simp [h12, h20, h12_eq]
  have h20' : ((n : Int) == 2000) = false := by simp; omega
  have hw : IntKind.i64.wrap ((n : Int) + 1) = ((n + 1 : Nat) : Int) := by rw [wrap64 (by omega) (by omega)]; omega
  simp only [h20', cond_false, Option.bind_some, h12, h20, if_false, h20_p4_o0_r0_0_y, h20_p4_o0_r0_1_y, h20_p4_o0_r0_2_y, h20_p4_o0_r1_0_y, h20_p4_o0_r1_1_y, h20_p4_o0_r1_2_y, hw]
  rw [next_eq]
  cases t with
  | nil => simp
  | cons c r =>
    simp only [Option.bind_some, h36_o_x0_y, h36_o_r0_0_y, h36_o_r0_1_y]
    rw [h20_p2_eq]
    have e45 : ((c.toNat : Int) == 45) = (c == 45) := by
      rw [Bool.eq_iff_iff]; simp only [beq_iff_eq]; rw [← UInt8.toNat_inj]; simp only [UInt8.reduceToNat]; omega
    have e34 : ((c.toNat : Int) == 34) = decide (c = 34) := by
      rw [Bool.eq_iff_iff]; simp only [beq_iff_eq, decide_eq_true_eq]; rw [← UInt8.toNat_inj]; simp only [UInt8.reduceToNat]; omega
    have e123 : ((c.toNat : Int) == 123) = decide (c = 123) := by
      rw [Bool.eq_iff_iff]; simp only [beq_iff_eq, decide_eq_true_eq]; rw [← UInt8.toNat_inj]; simp only [UInt8.reduceToNat]; omega
    have hp2 : (bif (c.toNat : Int) == 45 then some (h20_p2_o0_y (c.toNat : Int) true (c :: r) ((n + 1 : Nat) : Int) fs 0 0 []) else (f37_F ((c.toNat : Int), ())).bind fun r108 => some (h20_p2_o0_y (c.toNat : Int) r108.1 (c :: r) ((n + 1 : Nat) : Int) fs 0 0 [])) = some (h20_p2_o0_y (c.toNat : Int) (c == 45 || digitB c) (c :: r) ((n + 1 : Nat) : Int) fs 0 0 []) := by
      rw [digit_eq, e45]
      cases c == 45 <;> simp
    rw [hp2]
    simp only [Option.bind_some, h20_p2_o0_x31_y, h20_p2_o0_x4_y, h20_p2_o0_r0_0_y, h20_p2_o0_r0_1_y, h20_p2_o0_r0_2_y, h20_p2_o0_r1_0_y, h20_p2_o0_r1_1_y, h20_p2_o0_r1_2_y, e34]
    cases hdig : (c == 45 || digitB c) with
    | true =>
      rw [number_eq (c :: r) ht _ (by simp)]
      cases num (c :: r) with
      | error e => rfl
      | ok p => rfl
    | false =>
      simp only [cond_false, Bool.false_eq_true, if_false]
      by_cases h34 : c = 34
      · subst h34
        simp only [decide_true, cond_true, if_true]
        rw [text_eq]
        simp only [if_true]
        cases txt r [] with
        | error e => rfl
        | ok p =>
          simp only [Option.bind_some]
          rw [f39_eq]; rfl
      · simp only [h34, decide_false, cond_false, if_false]
        rw [h20_p3_eq, take_eq _ (by simp)]
        by_cases hb : c = 91 ∨ c = 123
        · have hm : c ∈ ([91, 123] : List UInt8) := by simpa using hb
          simp only [hm, if_true, Option.bind_some, h22_o_x0_y, h22_o_r0_0_y, h22_o_r0_1_y, e123, hb]
          have hk : (bif decide (c = 123) then some (Sum.inr (h20_p3_o1_y r ((n + 1 : Nat) : Int) fs 0 0 [] 4 0 [])) else some (Sum.inr (h20_p3_o1_y r ((n + 1 : Nat) : Int) fs 0 0 [] 3 0 [])) : Option (OutDen h20_p3_outs)) = some (Sum.inr (h20_p3_o1_y r ((n + 1 : Nat) : Int) fs 0 0 [] (if c = 123 then 4 else 3) 0 [])) := by
            by_cases h : c = 123 <;> simp [h]
          rw [hk]
          generalize hkk : (if c = 123 then (4 : Int) else 3) = k
          simp only [Option.bind_some, h20_p3_o1_r0_0_y, h20_p3_o1_r0_1_y, h20_p3_o1_r0_2_y, h20_p3_o1_r1_0_y, h20_p3_o1_r1_1_y, h20_p3_o1_r1_2_y, h20_p3_o1_r2_0_y, h20_p3_o1_r2_1_y, h20_p3_o1_r2_2_y]
          have hopen : ((h20_p1_F (h20_p1_y r ((n + 1 : Nat) : Int) fs 0 0 [] k 0 [])).bind fun o137 => (match o137 with | .inl z138 => some (Sum.inl (h20_o_y 0 0 [] [] [] false (h20_p1_o0_r0_0 z138) (h20_p1_o0_r0_1 z138) (h20_p1_o0_r0_2 z138))) | .inr o139 => some (Sum.inr (h20_z_y (h20_p1_o1_x0_0_0 o139))))) = some (match openS k r with
              | .error e => .inr (h20_z_y e)
              | .ok (.inl (v, r)) => .inl (h20_o_y v.kind v.n v.s v.items v.keys true r ((n + 1 : Nat) : Int) fs)
              | .ok (.inr (f, r)) => .inl (h20_o_y 0 0 [] [] [] false r ((n + 1 : Nat) : Int) (fs ++ [f]))) := by
            rw [h20_p1_eq, push_eq _ _ _ _ hf]
            unfold openS
            by_cases h4 : k = 4
            · subst h4
              simp only [Option.bind_some, h41_o_r0_0_y, h41_o_r0_1_y, h41_o_r0_2_y, BEq.rfl, cond_true, if_true]
              rw [key_eq _ _ _ _ hf (by simp [V.keys])]
              simp only [V.keys]
              cases keyS [] r with
              | error e => simp
              | ok p => simp [withK, V.kind, V.n, V.s, V.items]
            · have : (k == 4) = false := by simpa using h4
              simp [this, h4]
          cases r with
          | nil =>
            have hz : h20_p0_F (h20_p0_y [] ((n + 1 : Nat) : Int) fs 0 0 [] k 0 []) = some (h20_p0_o0_y false [] ((n + 1 : Nat) : Int) fs 0 0 [] k 0 []) := by rw [h20_p0_eq]; simp
            rw [hz]
            simp only [Option.bind_some, h20_p0_o0_x65_y, cond_false, h20_p0_o0_r0_0_y, h20_p0_o0_r0_1_y, h20_p0_o0_r0_2_y, h20_p0_o0_r1_0_y, h20_p0_o0_r1_1_y, h20_p0_o0_r1_2_y, h20_p0_o0_r2_0_y, h20_p0_o0_r2_1_y, h20_p0_o0_r2_2_y]
            exact hopen
          | cons d r' =>
            have hz : h20_p0_F (h20_p0_y (d :: r') ((n + 1 : Nat) : Int) fs 0 0 [] k 0 []) = some (h20_p0_o0_y (decide (d = clo k)) (d :: r') ((n + 1 : Nat) : Int) fs 0 0 [] k 0 []) := by
              have hnth : nth (d :: r') (0 : Int) = some d := by simp [nth]
              have ed : ((d.toNat : Int) == ((clo k).toNat : Int)) = decide (d = clo k) := by
                rw [Bool.eq_iff_iff]; simp only [beq_iff_eq, decide_eq_true_eq]; rw [← UInt8.toNat_inj]; omega
              have hne : ((d :: r') != ([] : List UInt8)) = true := by simp
              rw [h20_p0_eq, hne, cond_true, hnth, Option.bind_some, end_eq, Option.bind_some]
              simp only [ed]
            rw [hz]
            simp only [Option.bind_some, h20_p0_o0_x65_y, h20_p0_o0_r0_0_y, h20_p0_o0_r0_1_y, h20_p0_o0_r0_2_y, h20_p0_o0_r1_0_y, h20_p0_o0_r1_1_y, h20_p0_o0_r1_2_y, h20_p0_o0_r2_0_y, h20_p0_o0_r2_1_y, h20_p0_o0_r2_2_y]
            by_cases hcl : d = clo k
            · simp only [hcl, decide_true, cond_true, if_true, cutLo_one]; rfl
            · simp only [hcl, decide_false, cond_false, if_false]
              exact hopen
        · have hm : c ∉ ([91, 123] : List UInt8) := by simpa using hb
          simp [hm, hb]
end Go.Pe.Try
