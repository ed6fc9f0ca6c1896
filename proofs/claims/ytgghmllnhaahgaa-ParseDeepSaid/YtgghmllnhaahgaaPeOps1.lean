/- The operations that only compute: each comes to what the evaluator tells. -/
import Derived.Test.YtgghmllnhaahgaaPeSim
import Derived.Laws.StructEq
namespace Go.Pe
open Go.RowKit
set_option linter.unusedSectionVars false
variable [GI]
set_option linter.unusedSimpArgs false
set_option linter.unusedVariables false

theorem toList_str (s : List UInt8) : (⟨s.toArray⟩ : ByteArray).toList = s := by rw [ByteArray.toList_eq]
theorem size_str (s : List UInt8) : (⟨s.toArray⟩ : ByteArray).size = s.length := by simp [ByteArray.size]
theorem get_str (s : List UInt8) (n : Nat) : (⟨s.toArray⟩ : ByteArray)[n]? = s[n]? := by
  by_cases h : n < s.length
  · rw [List.getElem?_eq_getElem h, getElem?_pos _ _ (by rw [size_str]; exact h)]; rfl
  · rw [List.getElem?_eq_none (by omega), getElem?_neg _ _ (by rw [size_str]; exact h)]
theorem extract_str (s : List UInt8) (l h : Nat) : (⟨s.toArray⟩ : ByteArray).extract l h = ⟨((s.take h).drop l).toArray⟩ := by
  apply ByteArray.ext
  simp [ByteArray.data_extract, List.extract_eq_take_drop, List.drop_take]

section
variable {P : Program} {S : Type} {c : Cx} {w : World}

theorem guard_ok (op : BinOp) (t : TypeId) (X Y : Operand) (x y : Value) (hx : (∀ a, x ≠ .agg a) ∧ x ≠ .nilIface) : (eqGuard op t X Y x y).run P w = .ok () w := by
  unfold eqGuard
  obtain ⟨h1, h2⟩ := hx
  cases op <;> simp <;> cases x <;> simp_all

theorem int_run (op : BinOp) (t : TypeId) (k : IntKind) (x y : Int) (K : AV → Option S) (r : S) (h : evInt op k x y K = some r) (hop : op ≠ .shl ∧ op ≠ .shr) :
    ∃ av v, K av = some r ∧ (binOp op t (.int k x) (.int k y)).run P w = .ok v w ∧ RepAV c av v := by
  obtain ⟨h1, h2⟩ := hop
  cases op <;> simp only [evInt] at h <;> first | (exact absurd rfl h1) | (exact absurd rfl h2) | cases h | skip
  case quo =>
    split at h
    · cases h
    · rename_i hy
      exact ⟨_, .int k (k.wrap (x.tdiv y)), h, by simp [binOp, Op.intDiv, hy], by simp only [RepAV, Rep]⟩
  case rem =>
    split at h
    · cases h
    · rename_i hy
      exact ⟨_, .int k (x.tmod y), h, by simp [binOp, Op.intDiv, hy], by simp only [RepAV, Rep]⟩
  all_goals exact ⟨_, _, h, by simp only [binOp, Op.intArith, Op.intBits, Op.intCmp, ne_eq, not_true, if_false]; rfl, by simp only [RepAV, Rep]⟩

theorem str_run (op : BinOp) (t : TypeId) (x y : List UInt8) (K : AV → Option S) (r : S) (h : evStr op x y K = some r) :
    ∃ av v, K av = some r ∧ (binOp op t (.string ⟨x.toArray⟩) (.string ⟨y.toArray⟩)).run P w = .ok v w ∧ RepAV c av v := by
  cases op <;> simp only [evStr] at h <;> first | cases h | skip
  case add =>
    split at h
    · rename_i hl
      refine ⟨_, .string ⟨(x ++ y).toArray⟩, h, ?_, by simp only [RepAV, Rep]⟩
      simp only [binOp]
      rw [run_string_add_sum w _ _ (by rw [size_str, size_str]; omega), ByteArray.mk_append_mk]
    · cases h
  all_goals exact ⟨_, _, h, by simp only [binOp, Op.stringOp, toList_str]; rfl, by simp only [RepAV, Rep, bne]⟩

theorem un_run (op : UnOp) {x : AV} {vx : Value} (hx : RepAV c x vx) (K : AV → Option S) (r : S) (h : evUn op x K = some r) :
    ∃ av v, K av = some r ∧ (Op.unary op vx).run P w = .ok v w ∧ RepAV c av v := by
  unfold evUn at h
  split at h
  · simp only [RepAV, Rep, List.cons.injEq, and_true] at hx; subst hx
    exact ⟨_, _, h, rfl, by simp only [RepAV, Rep]⟩
  · simp only [RepAV, Rep, List.cons.injEq, and_true] at hx; subst hx
    exact ⟨_, _, h, rfl, by simp only [RepAV, Rep]⟩
  · cases h


/-! ### Types -/
variable {ε : Env}
/-! ### '==' of structs of plain fields -/
theorem bytes_beq (a b : List UInt8) : ((⟨a.toArray⟩ : ByteArray) == ⟨b.toArray⟩) = (a == b) := by
  rw [Go.beq_toListBytes, toList_str, toList_str]
theorem part_scalar {t : TypeId} {us : Array Value} {i : Nat} {v : Value} (ht : P.underlying t = some .bool ∨ (∃ k, P.underlying t = some (.int k)) ∨ P.underlying t = some .string) (hi : us[i]? = some v) : (part t us i).run P w = .ok v w := by
  have hagg : (isAgg t).run P w = .ok false w := by
    unfold isAgg
    rcases ht with hu | ⟨k, hu⟩ | hu <;> simp [run_underlying hu]
  unfold part
  simp [hagg, hi]
theorem eqField_run (hε : EnvOk P ε) {f : Field} {d : Nat} {x y : AV} {vx vy : Value} {b : Bool} (hx : RepAV c x vx) (hy : RepAV c y vy) (h : eqField ε f x y = some b) :
    (P.underlying f.type = some .bool ∨ (∃ k, P.underlying f.type = some (.int k)) ∨ P.underlying f.type = some .string) ∧ (Op.equalIn (d + 1) f.type vx vy).run P w = .ok b w := by
  unfold eqField at h
  split at h
  · rename_i i hi
    have hu := (hε.ti _ i hi).under
    unfold eqCell at h
    split at h
    · rename_i hd
      rw [hd] at hu
      simp only [RepAV, Rep, List.cons.injEq, and_true] at hx hy
      subst hx; subst hy; cases h
      exact ⟨.inl hu, by simp [Op.equalIn, run_underlying hu]⟩
    · rename_i hd
      rw [hd] at hu
      split at h
      · rename_i e; subst e
        simp only [RepAV, Rep, List.cons.injEq, and_true] at hx hy
        subst hx; subst hy; cases h
        exact ⟨.inr (.inl ⟨_, hu⟩), by simp [Op.equalIn, run_underlying hu]⟩
      · cases h
    · rename_i hd
      rw [hd] at hu
      simp only [RepAV, Rep, List.cons.injEq, and_true] at hx hy
      subst hx; subst hy; cases h
      exact ⟨.inr (.inr hu), by simp [Op.equalIn, run_underlying hu, bytes_beq]⟩
    · cases h
  · cases h
theorem eqCells_run (hε : EnvOk P ε) {d : Nat} : ∀ (fs : List Field) (xs ys : List AV) (us vs pu pv : List Value) (ua va : Array Value) (i : Nat) (r : Bool), eqFs i fs = true → pu.length = i → pv.length = i → ua.toList = pu ++ us → va.toList = pv ++ vs → RepAVs c xs us → RepAVs c ys vs →
    eqCells ε fs xs ys = some r → (Op.eqFields (d + 1) ua va fs).run P w = .ok r w := by
  intro fs
  induction fs with
  | nil =>
    intro xs ys us vs pu pv ua va i r _ _ _ _ _ _ _ h
    cases xs <;> cases ys <;> simp [eqCells] at h
    subst h; simp [Op.eqFields]
  | cons f fs ih =>
    intro xs ys us vs pu pv ua va i r hof h1 h2 h3 h4 hu hv h
    simp only [eqFs, Bool.and_eq_true] at hof
    obtain ⟨⟨hn, ho⟩, hof⟩ := hof
    have ho := Nat.eq_of_beq_eq_true ho
    have hn' : f.name ≠ "_" := by simpa using hn
    cases xs with
    | nil => simp [eqCells] at h
    | cons x xs =>
    cases ys with
    | nil => cases xs <;> cases fs <;> simp [eqCells] at h
    | cons y ys =>
    obtain ⟨u, us', rfl, hu1, hu2⟩ := hu.cons'
    obtain ⟨v, vs', rfl, hv1, hv2⟩ := hv.cons'
    have e1 : ua[f.offset]? = some u := by rw [← Array.getElem?_toList, h3, ho, ← h1]; simp
    have e2 : va[f.offset]? = some v := by rw [← Array.getElem?_toList, h4, ho, ← h2]; simp
    have key : ∀ b s, eqField ε f x y = some b → (Op.eqFields (d + 1) ua va fs).run P w = .ok s w → (Op.eqFields (d + 1) ua va (f :: fs)).run P w = .ok (b && s) w := by
      intro b s hb hs
      obtain ⟨g1, g2⟩ := eqField_run (P := P) (c := c) (w := w) (d := d) hε hu1 hv1 hb
      simp only [Op.eqFields, if_pos hn', Sem.run_bind, part_scalar g1 e1, part_scalar g1 e2, g2, Result.andThen_ok]
      cases b
      · simp
      · simpa using hs
    have rest : ∀ s, eqCells ε fs xs ys = some s → (Op.eqFields (d + 1) ua va fs).run P w = .ok s w := fun s hs =>
      ih xs ys us' vs' (pu ++ [u]) (pv ++ [v]) ua va (i + 1) s hof (by simp [h1]) (by simp [h2]) (by simp [h3]) (by simp [h4]) hu2 hv2 hs
    by_cases hlast : fs = [] ∧ xs = [] ∧ ys = []
    · obtain ⟨rfl, rfl, rfl⟩ := hlast
      have := key r true (by simpa [eqCells] using h) (by simp [Op.eqFields])
      simpa using this
    · have h' : ((eqField ε f x y).bind fun b => (eqCells ε fs xs ys).bind fun r => some (b && r)) = some r := by
        cases fs <;> cases xs <;> cases ys <;> simp_all [eqCells]
      simp only [Option.bind_eq_some_iff, Option.some.injEq] at h'
      obtain ⟨b, hb, s, hs, rfl⟩ := h'
      exact key b s hb (rest s hs)
theorem bin_run (hε : EnvOk P ε) (op : BinOp) (t : TypeId) {x y : AV} {vx vy : Value} (hx : RepAV c x vx) (hy : RepAV c y vy) (X Y : Operand) (K : AV → Option S) (r : S) (h : evBin ε op t x y K = some r) :
    ∃ av v, K av = some r ∧ (do eqGuard op t X Y vx vy; binOp op t vx vy : Sem Value).run P w = .ok v w ∧ RepAV c av v := by
  unfold evBin at h
  split at h
  · simp only [RepAV, Rep, List.cons.injEq, and_true] at hx hy
    subst hx; subst hy
    rename_i k a k' b
    have hg : ∀ op X Y, (eqGuard op t X Y (.int k a) (.int k' b)).run P w = .ok () w := fun op X Y => guard_ok op t X Y _ _ ⟨by simp, by simp⟩
    split at h
    · split at h
      · cases h
      · rename_i hb
        exact ⟨_, .int k (k.wrap (a * 2 ^ (min b.toNat k.bits))), h, by simp [hg, binOp, Op.shift, hb], by simp only [RepAV, Rep]⟩
    · split at h
      · cases h
      · rename_i hb
        exact ⟨_, .int k (a.fdiv (2 ^ (min b.toNat k.bits))), h, by simp [hg, binOp, Op.shift, hb], by simp only [RepAV, Rep]⟩
    · split at h
      · rename_i h1 h2 hk
        subst hk
        obtain ⟨av, v, hK, hr, hp⟩ := int_run (P := P) (c := c) (w := w) op t k a b K r h ⟨h1, h2⟩
        exact ⟨av, v, hK, by simp [hg, hr], hp⟩
      · cases h
  · simp only [RepAV, Rep, List.cons.injEq, and_true] at hx hy
    subst hx; subst hy
    obtain ⟨av, v, hK, hr, hp⟩ := str_run (P := P) (c := c) (w := w) op t _ _ K r h
    refine ⟨av, v, hK, ?_, hp⟩
    rename_i a b
    have hg := guard_ok (P := P) (w := w) op t X Y (.string ⟨a.toArray⟩) (.string ⟨b.toArray⟩) ⟨by simp, by simp⟩
    simp [hg, hr]
  · rename_i a b
    simp only [RepAV] at hx hy
    obtain ⟨us, rfl, hu⟩ := hx
    obtain ⟨vs, rfl, hv⟩ := hy
    split at h
    · rename_i fs hfs
      unfold eqT at hfs
      split at hfs
      · rename_i i hi
        split at hfs
        · rename_i heq
          split at hfs
          · rename_i fs' hdesc
            cases hfs
            obtain ⟨fs2, hu2, hst, hgt, hof⟩ := (hε.ti t i hi).eq heq
            have hu3 := (hε.ti t i hi).under
            rw [hdesc, hu2] at hu3
            cases hu3
            have key : ∀ r, eqCells ε fs'.toList a b = some r → (Op.equal t (.agg us) (.agg vs)).run P w = .ok r w := by
              intro r hr
              have hff : P.fieldsOf t = fs' := by simp [Program.fieldsOf, hu2]
              unfold Op.equal
              rw [show Op.maxDepth = (Op.maxDepth - 2) + 1 + 1 from by decide, run_equalIn_struct w _ t us vs (by rw [hff]; exact hu2) hst, hff]
              exact eqCells_run hε fs'.toList a b us.toList vs.toList [] [] us vs 0 r hof rfl rfl rfl rfl hu hv hr
            have hg : ∀ op, (eqGuard op t X Y (.agg us) (.agg vs)).run P w = .ok () w := by
              intro op
              unfold eqGuard
              cases op <;> simp [hgt, Go.program, Sem.run]
            cases op <;> simp only at h <;> first | cases h | skip
            · simp only [Option.bind_eq_some_iff] at h
              obtain ⟨r', hr', h⟩ := h
              exact ⟨_, .bool r', h, by simp [hg, binOp, key r' hr'], by simp only [RepAV, Rep]⟩
            · simp only [Option.bind_eq_some_iff] at h
              obtain ⟨r', hr', h⟩ := h
              exact ⟨_, .bool (!r'), h, by simp [hg, binOp, key r' hr'], by simp only [RepAV, Rep]⟩
          · cases hfs
        · cases hfs
      · cases hfs
    · cases h
  · split at h
    · rename_i a b _ hb
      change Bool at a b
      simp only [RepAV, Rep, List.cons.injEq, and_true] at hx hy
      subst hx; subst hy
      have hu : P.underlying t = some .bool := by
        unfold isBool at hb
        split at hb
        · rename_i i hi
          split at hb
          · rename_i hd; rw [(hε.ti t i hi).under, hd]
          · cases hb
        · cases hb
      have hg := guard_ok (P := P) (w := w) op t X Y (.bool a) (.bool b) ⟨by simp, by simp⟩
      have he : (Op.equal t (.bool a) (.bool b)).run P w = .ok (a == b) w := by
        unfold Op.equal
        rw [show Op.maxDepth = (Op.maxDepth - 1) + 1 from by decide]
        unfold Op.equalIn
        simp only [Sem.run_bind, run_underlying hu, Result.andThen_ok]
        rfl
      cases op <;> simp only [evBool] at h <;> first | cases h | skip
      · exact ⟨_, .bool (a == b), h, by simp [hg, binOp, he], by simp only [RepAV, Rep]⟩
      · exact ⟨_, .bool (a != b), h, by simp [hg, binOp, he, bne], by simp only [RepAV, Rep]⟩
    · cases h
  · cases h

variable (hε : EnvOk P ε)
include hε
theorem elemT_ok {t et : Nat} (h : elemT ε t = some et) : P.underlying t = some (.slice et) := by
  unfold elemT at h
  split at h
  · rename_i i hi
    split at h
    · rename_i e hd
      cases h
      rw [(hε.ti t i hi).under, hd]
    · cases h
  · cases h
theorem isStr_ok {t : Nat} (h : isStr ε t = true) : P.underlying t = some .string := by
  unfold isStr at h
  split at h
  · rename_i i hi
    split at h
    · rename_i hd; rw [(hε.ti t i hi).under, hd]
    · cases h
  · cases h
theorem szOk_ok {t : Nat} {e : Ty} (h : szOk ε t e = true) : ∃ et inf, P.underlying t = some (.slice et) ∧ P.info? et = some inf ∧ inf.size = e.size := by
  unfold szOk at h
  split at h
  · rename_i et het
    split at h
    · rename_i i hi
      obtain ⟨inf, h1, h2, _⟩ := (hε.ti et i hi).info
      exact ⟨et, inf, elemT_ok hε het, h1, by rw [h2]; exact beq_iff_eq.1 h⟩
    · cases h
  · cases h
theorem isByteSlice_ok {t : Nat} (h : isByteSlice ε t = true) : ∃ et inf, P.underlying t = some (.slice et) ∧ P.underlying et = some (.int .u8) ∧ P.info? et = some inf ∧ inf.size = 1 := by
  unfold isByteSlice at h
  split at h
  · rename_i et het
    split at h
    · rename_i i hi
      split at h
      · rename_i hd
        obtain ⟨inf, h1, h2, _⟩ := (hε.ti et i hi).info
        exact ⟨et, inf, elemT_ok hε het, by rw [(hε.ti et i hi).under, hd], h1, by rw [h2]; exact beq_iff_eq.1 h⟩
      · cases h
    · cases h
  · cases h

omit hε in
theorem list_rep {lsts : List (Option LObj)} (hc : c.lsts = lsts) (hl : ∀ t o, getL lsts t = some o → LstAt c t o) {x : AV} {v : Value} {o : LObj} (hx : RepAV c x v) (h : x.list lsts = some o) :
    ∃ a cap, v = .slice a o.xs.length cap ∧ o.xs.length ≤ cap := by
  unfold AV.list at h
  split at h
  · cases h; simp only [RepAV, Rep] at hx
    obtain ⟨v', e, a, cap, rfl, hc, _⟩ := hx
    simp only [List.cons.injEq, and_true] at e; subst e; exact ⟨a, cap, rfl, hc⟩
  · cases h; simp only [RepAV] at hx
    obtain ⟨⟨a, rfl⟩, _⟩ := hx; exact ⟨a, _, rfl, Nat.le_refl _⟩
  · rename_i t
    simp only [RepAV, hc] at hx
    have := hx.2.2 o h
    rcases hl t o h with ⟨h1, h2⟩ | ⟨b, vs, hb, ho, hsz, hcap, _⟩ <;> rcases this with ⟨h3, rfl⟩ | ⟨b', h3, rfl⟩
    · exact ⟨none, 0, by rw [h2]; rfl, by rw [h2]; exact Nat.le_refl _⟩
    · rw [h1] at h3; cases h3
    · rw [h3] at hb; cases hb
    · exact ⟨_, _, rfl, hcap⟩
  · cases h

theorem len_run {t : Nat} {ts : Array Nat} (ht : ts[0]? = some t) (ty : TypeId) {lsts : List (Option LObj)} (hc : c.lsts = lsts) (hl : ∀ t o, getL lsts t = some o → LstAt c t o) {x : AV} {vx : Value} (hx : RepAV c x vx) (K : AV → Option S) (r : S) (h : evLen ε t lsts x K = some r) :
    ∃ av v, K av = some r ∧ (Builtin.len_ ts ty #[vx]).run P w = .ok v w ∧ RepAV c av v := by
  unfold evLen at h
  split at h
  · split at h
    · rename_i hs
      simp only [RepAV, Rep, List.cons.injEq, and_true] at hx; subst hx
      exact ⟨_, _, h, by simp [Builtin.len_, ht, run_underlying (isStr_ok hε hs), size_str]; rfl, by simp only [RepAV, Rep, goInt]⟩
    · cases h
  · split at h
    · rename_i hs
      obtain ⟨et, he⟩ := Option.isSome_iff_exists.1 hs
      simp only [RepAV] at hx; subst hx
      exact ⟨_, _, h, by simp [Builtin.len_, ht, run_underlying (elemT_ok hε he)]; rfl, by simp only [RepAV, Rep, goInt]⟩
    · cases h
  · split at h
    · rename_i hs
      obtain ⟨et, he⟩ := Option.isSome_iff_exists.1 hs
      simp only [RepAV, RepSX] at hx
      obtain ⟨cap, _, rfl, h0⟩ := hx
      unfold hdrV
      split
      · rename_i hn
        exact ⟨_, _, h, by simp [Builtin.len_, ht, run_underlying (elemT_ok hε he)]; rfl, by simp only [RepAV, Rep, goInt]; rw [h0 hn]; rfl⟩
      · exact ⟨_, _, h, by simp [Builtin.len_, ht, run_underlying (elemT_ok hε he)]; rfl, by simp only [RepAV, Rep, goInt]⟩
    · cases h
  · split at h
    · rename_i hs
      obtain ⟨et, he⟩ := Option.isSome_iff_exists.1 hs
      simp only [RepAV, RepSX] at hx
      obtain ⟨cap, b, _, _, rfl, _⟩ := hx
      exact ⟨_, _, h, by simp [Builtin.len_, ht, run_underlying (elemT_ok hε he)]; rfl, by simp only [RepAV, Rep, goInt]⟩
    · cases h
  · split at h
    · rename_i hs
      obtain ⟨et, he⟩ := Option.isSome_iff_exists.1 hs
      split at h
      · rename_i o ho
        obtain ⟨a, cap, rfl, _⟩ := list_rep hc hl hx ho
        exact ⟨_, _, h, by simp [Builtin.len_, ht, run_underlying (elemT_ok hε he)]; rfl, by simp only [RepAV, Rep, goInt]⟩
      · cases h
    · cases h

theorem index_run {t : Nat} {x i : AV} {vx vi : Value} (hx : RepAV c x vx) (hi : RepAV c i vi) (K : AV → Option S) (r : S) (h : evIndex ε t x i K = some r) :
    ∃ av v, K av = some r ∧ (Instr.index t vx vi).run P w = .ok v w ∧ RepAV c av v := by
  unfold evIndex at h
  split at h
  · split at h
    · rename_i hs
      simp only [RepAV, Rep, List.cons.injEq, and_true] at hx hi; subst hx; subst hi
      simp only [Option.bind_eq_some_iff] at h
      obtain ⟨b, hb, h⟩ := h
      unfold nth at hb
      refine ⟨_, _, h, ?_, by simp only [RepAV, Rep]; rfl⟩
      simp only [Instr.index, asIntOf, Sem.run_bind, Sem.run_pure, Result.andThen_ok, run_underlying (isStr_ok hε hs), get_str, hb]
    · cases h
  · cases h

omit hε in
theorem cut_run {α : Type} (L : List α) {lo hi : Option AV} {vlo vhi : Option Value} {b : Bool} {cap : Nat}
    (hlo : match lo, vlo with | none, none => True | some a, some v => RepAV c a v | _, _ => False)
    (hhi : match hi, vhi with | none, none => True | some a, some v => RepAV c a v | _, _ => False)
    (hcap : L.length ≤ cap) (K : List α → Option S) (r : S) (h : cut L lo hi K = some r) :
    ∃ l h' : Nat, l ≤ h' ∧ h' ≤ L.length ∧ K ((L.take h').drop l) = some r ∧ (Instr.sliceBounds b L.length cap vlo vhi none).run P w = .ok (l, h', cap) w := by
  unfold cut at h
  split at h
  · cases vlo <;> cases vhi <;> simp only at hlo hhi
    refine ⟨0, L.length, Nat.zero_le _, Nat.le_refl _, by simpa using h, ?_⟩
    simp [Instr.sliceBounds]
  · rename_i k a
    unfold cutLo at h
    split at h
    · rename_i hh
      cases vlo <;> cases vhi <;> simp only at hlo hhi
      simp only [RepAV, Rep, List.cons.injEq, and_true] at hlo; subst hlo
      refine ⟨Int.toNat a, L.length, by omega, Nat.le_refl _, by simpa using h, ?_⟩
      simp [Instr.sliceBounds, Instr.sliceBound, asIntOf, hh]
    · cases h
  · rename_i k a
    change Int at a
    unfold cutHi at h
    split at h
    · rename_i hh
      cases vlo <;> cases vhi <;> simp only at hlo hhi
      simp only [RepAV, Rep, List.cons.injEq, and_true] at hhi; subst hhi
      refine ⟨0, Int.toNat a, by omega, by omega, by simpa using h, ?_⟩
      have : 0 ≤ (a : Int) ∧ (a : Int) ≤ (cap : Int) := by omega
      simp [Instr.sliceBounds, Instr.sliceBound, asIntOf, this]
    · cases h
  · rename_i k a k' b
    change Int at a; change Int at b
    unfold cutMid at h
    split at h
    · rename_i hh
      cases vlo <;> cases vhi <;> simp only at hlo hhi
      simp only [RepAV, Rep, List.cons.injEq, and_true] at hhi hlo; subst hhi; subst hlo
      refine ⟨Int.toNat a, Int.toNat b, by omega, by omega, h, ?_⟩
      have h1 : 0 ≤ (b : Int) ∧ (b : Int) ≤ (cap : Int) := by omega
      have h3 : ((Int.toNat b : Nat) : Int) = b := by omega
      simp [Instr.sliceBounds, Instr.sliceBound, asIntOf, h1, hh.1, hh.2.1, h3]
    · cases h
  · cases h
omit hε in
theorem cut_run3 {α : Type} (L : List α) {lo : Option AV} {vlo : Option Value} {b : Bool} {cap : Nat} {k k' : IntKind} {n : Int}
    (hlo : match lo, vlo with | none, none => True | some a, some v => RepAV c a v | _, _ => False)
    (hcap : L.length ≤ cap) (K : List α → Option S) (r : S) (h : cut L lo (some (.d (.int k) n)) K = some r) :
    ∃ l h' : Nat, l ≤ h' ∧ h' ≤ L.length ∧ K ((L.take h').drop l) = some r ∧ (Instr.sliceBounds b L.length cap vlo (some (.int k n)) (some (.int k' n))).run P w = .ok (l, h', h') w := by
  unfold cut at h
  split at h
  · rename_i hh; cases hh
  · rename_i hh; cases hh
  · rename_i k a hk
    cases hk
    unfold cutHi at h
    split at h
    · rename_i hh
      cases vlo <;> simp only at hlo
      refine ⟨0, Int.toNat n, by omega, by omega, by simpa using h, ?_⟩
      have : 0 ≤ n ∧ n ≤ (cap : Int) := by omega
      have h4 : ((Int.toNat n : Nat) : Int) = n := by omega
      simp [Instr.sliceBounds, Instr.sliceBound, asIntOf, this, h4]
    · cases h
  · rename_i k a k' b hk
    cases hk
    change Int at a
    unfold cutMid at h
    split at h
    · rename_i hh
      cases vlo <;> simp only at hlo
      simp only [RepAV, Rep, List.cons.injEq, and_true] at hlo; subst hlo
      refine ⟨Int.toNat a, Int.toNat n, by omega, by omega, h, ?_⟩
      have h1 : 0 ≤ n ∧ n ≤ (cap : Int) := by omega
      have h3 : ((Int.toNat n : Nat) : Int) = n := by omega
      simp [Instr.sliceBounds, Instr.sliceBound, asIntOf, h1, hh.1, hh.2.1, h3]
    · cases h
  · cases h
end
end Go.Pe
