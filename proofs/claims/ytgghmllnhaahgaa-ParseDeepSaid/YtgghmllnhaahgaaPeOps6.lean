/- make, literals of slices, calls; all operations together. -/
import Derived.Test.YtgghmllnhaahgaaPeOps5
import Derived.Great.BuildSlice
namespace Go.Pe
open Go.RowKit
set_option linter.unusedSectionVars false
variable [GI]
set_option linter.unusedSimpArgs false
set_option linter.unusedVariables false

theorem range_add_map {α : Type} (f : Nat → α) (a b : Nat) : (List.range (a + b)).map f = (List.range a).map f ++ (List.range b).map (fun j => f (a + j)) := by
  rw [List.range_add, List.map_append, List.map_map]; rfl
theorem madeCells_list (z : Array Value) (c : Nat) : (madeCells z (c * z.size)).toList = (List.replicate c z.toList).flatten := by
  simp only [madeCells, Array.toList_map, Array.toList_range]
  induction c with
  | zero => simp
  | succ c ih =>
    rw [Nat.succ_mul, Nat.add_comm, range_add_map, List.replicate_succ, List.flatten_cons]
    congr 1
    · apply List.ext_getElem
      · simp
      · intro i h1 h2
        simp at h1
        simp [Nat.mod_eq_of_lt h1, h1]
    · rw [← ih]
      apply List.map_congr_left
      intro j _
      rw [Nat.add_mod_left]

section
variable {P : Program} {A0 : Dom} {w0 w : World} {st : St} {tmps : Array Value} {a : Act} {μ : Mu} {S : Type} {o : Oper}
variable {ε : Env} (hε : EnvOk P ε)
include hε

theorem make_run' (hs : Sim A0 w0 st tmps w μ) {t : Nat} {l c : AV} {vl vc : Value} (hl : RepAV (cx A0 w0 st.recs st.lsts w μ) l vl) (hc : RepAV (cx A0 w0 st.recs st.lsts w μ) c vc) (K : AV → St → Option S) (r : S) (h : evMake ε st t l c K = some r) :
    ∃ av st', K av st' = some r ∧ ∃ v w', (Instr.makeSlice t vl vc).run P w = .ok v w' ∧ Post A0 w0 tmps av st' v w' := by
  unfold evMake at h
  split at h
  · cases h
  · rename_i et het
    split at h
    · rename_i i k n k' m hi
      change Int at n; change Int at m
      split at h
      · rename_i e he
        split at h
        · rename_i z hz
          unfold makeOk at h
          split at h
          · rename_i hn
            simp only [RepAV, Rep, List.cons.injEq, and_true] at hl hc; subst hl; subst hc
            have hti := hε.ti et i hi
            obtain ⟨inf, hinf, hsz, hby, zv, hzv, hzl, hzr⟩ := hti.info
            have hsz2 := hti.ty e he
            have hzero : RepAVs (cx A0 w0 st.recs st.lsts w μ) i.zero zv.cells.toList := hzr _
            obtain ⟨u1, u2, e1, hz1, hz2⟩ := packTo_rep (lsts := []) (A' := Imm A0 w0 μ w) (fun _ h => h) (fun t o v h => no_lists t o v h) hz hzero
            have hu2 := hz2.nil; subst hu2
            rw [List.append_nil] at e1
            rw [← e1] at hz1
            have hb : (inf.bytes : Int) * m ≤ 281474976710656 := by
              have h1 : (inf.bytes : Int) ≤ 16384 := by omega
              have h2 : (inf.bytes : Int) * m ≤ 16384 * 4294967296 := Int.mul_le_mul h1 hn.2.2 (by omega) (by omega)
              omega
            have hrun := run_make (P := P) w t et inf zv (elemT_ok hε het) hinf hzv k k' n m hn.1 hn.2.1 hb (by omega)
            have hzs : zv.cells.size = inf.size := by rw [hzl, hsz]
            have hcell : (madeCells zv.cells (m.toNat * inf.size)).toList = (List.replicate m.toNat zv.cells.toList).flatten := by
              rw [← hzs]; exact madeCells_list _ _
            have hall : ∀ q : Nat, RepAll (Rep (Imm A0 w0 μ w) w e) (List.replicate q z) (List.replicate q zv.cells.toList).flatten := by
              intro q
              induction q with
              | zero => rfl
              | succ q ih => exact ⟨_, _, rfl, hz1, ih⟩
            have hsplit : (madeCells zv.cells (m.toNat * inf.size)).toList = (List.replicate n.toNat zv.cells.toList).flatten ++ (List.replicate (m.toNat - n.toNat) zv.cells.toList).flatten := by
              rw [hcell, ← List.flatten_append, List.replicate_append_replicate]; congr 2; omega
            have hmem := hs.mem.newLst (l := ⟨e, List.replicate n.toNat z⟩) (hall _) hsplit (c := m.toNat) (by rw [size_madeCells, hsz, hsz2]) (by simp; omega) et (fun e8 => hti.u8 (by rw [he]; exact congrArg some e8))
            refine ⟨_, _, h, _, _, hrun, _, ?_, hs.slots.mono (le_newLst _ _ _), hmem⟩
            simp only [RepAV, cx]
            refine ⟨by simp, rfl, fun o ho => ?_⟩
            rw [getL_new] at ho; cases ho
            exact .inr ⟨w.heap.size, by simp [Mu.upd, Mu.setCap], by simp [Mu.setCap]⟩
          · cases h
        · cases h
      · cases h
    · cases h

omit hε in
theorem fill_all {c : Cx} {e : Ty} : ∀ {parts : List (Nat × AV)} {vs : List (Nat × Value)} {k : Nat} {xs : List e.den} {us : List Value}, packAll e parts k = some xs → parts.length = vs.length →
    (∀ i (h : i < parts.length) (h' : i < vs.length), parts[i].1 = vs[i].1 ∧ RepAV c parts[i].2 vs[i].2) → us.length = (k + parts.length) * e.size →
    ∃ news, Instr.fill (fun i => some (i * e.size, e.size)) us.toArray vs = some (us.take (k * e.size) ++ news).toArray ∧ RepAll (Rep c.A c.w e) xs news
  | [], vs, k, xs, us, h, hl, _, hus => by
    simp only [packAll, Option.some.injEq] at h; subst h
    have : vs = [] := List.eq_nil_of_length_eq_zero hl.symm
    subst this
    refine ⟨[], ?_, rfl⟩
    simp only [List.length_nil, Nat.add_zero] at hus
    rw [List.take_of_length_le (by omega), List.append_nil]; rfl
  | (i, av) :: rest, [], _, _, _, _, hl, _, _ => by simp at hl
  | (i, av) :: rest, (i', v) :: vs, k, xs, us, h, hl, hall, hus => by
    obtain ⟨rfl, hav⟩ := hall 0 (by simp) (by simp)
    simp only [List.getElem_cons_zero] at hav h
    simp only [packAll] at h
    split at h
    · rename_i hc
      obtain ⟨rfl, hok⟩ := hc
      simp only [Option.bind_eq_some_iff] at h
      obtain ⟨x, hx, l, hl', e0⟩ := h
      simp only [Option.some.injEq] at e0; subst e0
      unfold packVal at hx
      simp only [Option.bind_eq_some_iff] at hx
      obtain ⟨z, hz, hx⟩ := hx
      split at hx
      · rename_i hz2
        simp only [Option.some.injEq] at hx; subst hx
        obtain ⟨hcr, hone⟩ := cells_rep hok hav
        obtain ⟨u1, u2, e1, hz1, hz3⟩ := packTo_rep (lsts := []) (A' := c.A) (fun _ h => h) (fun t o v h => no_lists t o v h) hz hcr
        rw [hz2] at hz3
        have hu2 := hz3.nil; subst hu2
        rw [List.append_nil] at e1
        rw [← e1] at hz1
        have hvl := hz1.length
        simp only [List.getElem_cons_zero, List.length_cons] at *
        have hsz : v.cells.size = e.size := by rw [← hvl]; simp
        have hbound : i * e.size + e.size ≤ us.length := by
          rw [hus, ← Nat.succ_mul]; exact Nat.mul_le_mul_right _ (by omega)
        have hf := foldl_set v.cells.toList 0 (i * e.size) us (by simp; omega)
        simp only [Nat.add_zero] at hf
        obtain ⟨news, h1, h2⟩ := fill_all (c := c) (parts := rest) (vs := vs) (k := i + 1) (us := us.take (i * e.size) ++ v.cells.toList ++ us.drop (i * e.size + v.cells.toList.length)) hl' (by omega) (fun j h h' => by
          have := hall (j + 1) (by simpa using h) (by simpa using h')
          simpa using this) (by
            simp only [List.length_append, List.length_take, List.length_drop, hvl]
            have : (i + 1 + rest.length) * e.size = us.length := by rw [hus]; congr 1; omega
            omega)
        refine ⟨v.cells.toList ++ news, ?_, ⟨_, _, rfl, hz1, h2⟩⟩
        simp only [Instr.fill, hsz, ne_eq, not_true, decide_false, Bool.false_or, decide_eq_true_eq, List.size_toArray]
        rw [if_neg (by omega)]
        have e3 : (v.cells.zipIdx.foldl (fun (cs : Array Value) p => cs.setIfInBounds (i * e.size + p.2) p.1) us.toArray) = (us.take (i * e.size) ++ v.cells.toList ++ us.drop (i * e.size + v.cells.toList.length)).toArray := by
          rw [← hf, ← Array.foldl_toList, Array.toList_zipIdx]
        rw [e3, h1]
        congr 2
        rw [← List.append_assoc]
        congr 1
        rw [List.take_append_of_le_length (by simp [hvl, Nat.succ_mul]; omega), List.take_of_length_le (by simp [hvl, Nat.succ_mul]; omega)]
      · cases hx
    · cases h

omit hε in
theorem bslice (w : World) (t e : TypeId) (len : Nat) (parts : Array (Nat × Value)) (cells : Array Value) (ie : TypeInfo) (z : Value) (L : List Value)
    (hu : P.underlying t = some (.slice e)) (hie : P.info? e = some ie) (hz : ie.zero = some z) (hsmall : ¬ 16777216 < len * ie.size) (hpos : ¬ len * ie.size = 0)
    (hL : (madeCells z.cells (len * ie.size)).toList = L)
    (h : Instr.fill (fun i => some (i * ie.size, ie.size)) L.toArray parts.toList = some cells) :
    (Instr.buildSlice t len parts).run P w = .ok (.slice (some ⟨w.heap.size, 0, none⟩) len len) (w.alloc (.cells cells e)) := by
  refine run_buildSlice w t e len parts cells ie z hu hie hz (by rw [show (2 : Nat) ^ 24 = 16777216 from rfl]; exact hsmall) hpos ?_
  rw [← h]; congr 1; rw [← hL]; rfl

theorem buildSlice_run (hs : Sim A0 w0 st a.tmps w μ) {own : Bool} {t len : Nat} {parts : Array (Nat × Operand)} (K : AV → St → Option S) (r : S) (h : evBuildSlice ε st own t len parts.toList K = some r) :
    ∃ av st', K av st' = some r ∧ ∃ v w', (Instr.buildSlice t len (parts.map fun (i, x) => (i, a.eval x))).run P w = .ok v w' ∧ Post A0 w0 a.tmps av st' v w' := by
  unfold evBuildSlice at h
  split at h
  · rename_i e he
    obtain ⟨et, inf, z, hu, hinf, hsz, hby, hz, hzs, hu8⟩ := elemTy_ok hε he
    split at h
    · rename_i hlen
      obtain ⟨hlen, hsmall, hpos⟩ := hlen
      have hns : ¬ (16777216 < len * inf.size) := by rw [hsz]; omega
      split at h
      · rename_i hnil
        have hp : parts = #[] := by apply Array.ext'; simpa using hnil
        subst hp
        simp at hlen; subst hlen
        have hbel : Below w.heap.size w (w.alloc (.cells #[] et)) := (Below.refl _ _).alloc (Nat.le_refl _) _
        refine ⟨_, _, h, .slice (some ⟨w.heap.size, 0, none⟩) 0 0, w.alloc (.cells #[] et), ?_, _, ?_, hs.slots.mono (le_newLst _ _ _), hs.mem.newLst (l := ⟨e, []⟩) (us := []) (rest := []) (vs := #[]) (c := 0) (by simp only [RepAll]) rfl (by simp) (Nat.le_refl _) et hu8⟩
        · simp [Instr.buildSlice, run_underlying hu, sizeOf, typeInfo, hinf, Instr.fill, newRow, Array.range_zero']
        · simp only [RepAV, cx]
          refine ⟨by simp, rfl, fun o ho => ?_⟩
          rw [getL_new] at ho; cases ho
          exact .inr ⟨w.heap.size, by simp [Mu.upd, Mu.setCap], by simp [Mu.setCap]⟩
      · rename_i hne
        simp only [Option.bind_eq_some_iff] at h
        obtain ⟨xs, hxs, h⟩ := h
        obtain ⟨μ1, hs1, _⟩ := Sim.freeze (parts.toList.flatMap fun p => (st.ev p.2).wholes) hs
        generalize st.freeze (parts.toList.flatMap fun p => (st.ev p.2).wholes) = st1 at h hs1 hxs
        have hpl : (parts.toList.map fun p => (p.1, st1.ev p.2)).length = len := by simpa using hlen
        obtain ⟨news, hf, hr⟩ := fill_all (c := cx A0 w0 st1.recs st1.lsts w μ1) (vs := (parts.toList.map fun p => (p.1, a.eval p.2))) (us := (List.replicate len z.cells.toList).flatten) hxs (by simp) (fun i h h' => by
          simp only [List.getElem_map]
          exact ⟨trivial, ev_rep hs1.slots _⟩) (by rw [hpl]; simp [hzs])
        simp only [Nat.zero_mul, List.take_zero, List.nil_append] at hf
        have hxl : xs.length = len := by
          have key : ∀ (ps : List (Nat × AV)) (k : Nat) (ys : List e.den), packAll e ps k = some ys → ys.length = ps.length := by
            intro ps
            induction ps with
            | nil => intro k ys h; simp only [packAll, Option.some.injEq] at h; subst h; rfl
            | cons p ps ih =>
              intro k ys h
              simp only [packAll] at h
              split at h
              · simp only [Option.bind_eq_some_iff] at h
                obtain ⟨x, _, l, hl, e⟩ := h
                simp only [Option.some.injEq] at e; subst e
                simp [ih _ _ hl]
              · cases h
          rw [key _ _ _ hxs, hpl]
        have hzl2 : (madeCells z.cells (len * inf.size)).toList = (List.replicate len z.cells.toList).flatten := by
          have := madeCells_list z.cells len
          rw [hzs, ← hsz] at this
          exact this
        have hbel : Below w.heap.size w (w.alloc (.cells news.toArray et)) := (Below.refl _ _).alloc (Nat.le_refl _) _
        have hrunX : (Instr.buildSlice t len (parts.map fun (i, x) => (i, a.eval x))).run P w = .ok (.slice (some ⟨w.heap.size, 0, none⟩) len len) (w.alloc (.cells news.toArray et)) := by
          have hf' : Instr.fill (fun i => some (i * inf.size, inf.size)) (List.replicate len z.cells.toList).flatten.toArray (parts.map fun (i, x) => (i, a.eval x)).toList = some news.toArray := by
            rw [hsz, ← hf]; simp
          have hlen0 : len ≠ 0 := by
            intro e0; subst e0
            exact hne (List.eq_nil_of_length_eq_zero hlen)
          have h0 : ¬ len * inf.size = 0 := by rw [hsz]; intro e0; rcases Nat.mul_eq_zero.1 e0 with h | h <;> contradiction
          have hrun := bslice (P := P) w t et len (parts.map fun (i, x) => (i, a.eval x)) news.toArray inf z (List.replicate len z.cells.toList).flatten hu hinf hz hns h0 hzl2
          have hrun2 := hrun hf'
          exact hrun2
        cases own
        · dsimp only at h
          refine ⟨_, _, h, .slice (some ⟨w.heap.size, 0, none⟩) len len, _, hrunX, μ1, ?_, hs1.ext hbel⟩
          have hle := cx.ext (A0 := A0) (w0 := w0) (recs := st1.recs) (lsts := st1.lsts) (μ := μ1) hbel
          simp only [RepAV, Rep, List.cons.injEq, and_true]
          refine ⟨⟨_, by rw [hxl]⟩, _, rfl, some ⟨w.heap.size, 0, none⟩, len, by rw [hxl], by rw [hxl]; exact Nat.le_refl _, .inr ⟨_, news, rfl, rfl, ?_, ?_, hr.imp fun x u hx => hx.mono hle.A hle.w⟩⟩
          · exact ⟨hs1.mem.new_ok (Nat.le_refl _), by simp [cx], fun x hx => absurd (hs1.mem.live x _ hx).2.1 (Nat.lt_irrefl _)⟩
          · have hown : Own (w.alloc (.cells news.toArray et)) w.heap.size news.toArray := ⟨et, heap_alloc_new w _⟩
            have := hown.cells
            simpa [cx] using this
        · dsimp only at h
          have hnl : news.length = xs.length * e.size := hr.length fun x u h => h.length
          have hr2 : RepAll (Rep (Imm A0 w0 μ1 w) w e) xs news := hr
          refine ⟨_, _, h, .slice (some ⟨w.heap.size, 0, none⟩) len len, _, hrunX, _, ?_, hs1.slots.mono (le_newLst _ _ _), hs1.mem.newLst (l := ⟨e, xs⟩) (us := news) (rest := []) (vs := news.toArray) (c := len) hr2 (by simp) (by simp [hnl, hxl]) (by simp only; rw [hxl]; exact Nat.le_refl _) et hu8⟩
          simp only [RepAV, cx]
          refine ⟨by simp, rfl, fun o ho => ?_⟩
          rw [getL_new] at ho; cases ho
          exact .inr ⟨w.heap.size, by simp [Mu.upd, Mu.setCap], by simp [Mu.setCap, hxl]⟩
    · cases h
  · cases h

/-! ### Calls -/
omit hε in
/-- What is closed for a while reads as closed values. -/
theorem close_rep {A' : Nat → Prop} (hm : Mem A0 w0 st.recs st.lsts w μ) (hA : ∀ b, Imm A0 w0 μ w b → A' b) (hO : ∀ t b, μ.at_ (.l t) = some b → A' b) : ∀ {x y : AV} {v : Value}, x.close st.lsts = some y → RepAV (cx A0 w0 st.recs st.lsts w μ) x v → y.closed = true ∧ RepAV (c0 A' w) y v := by
  intro x
  refine AV.rec (motive_1 := fun x => ∀ {y : AV} {v : Value}, x.close st.lsts = some y → RepAV (cx A0 w0 st.recs st.lsts w μ) x v → y.closed = true ∧ RepAV (c0 A' w) y v)
    (motive_2 := fun l => ∀ {l' : List AV} {vs : List Value}, closeL st.lsts l = some l' → RepAVs (cx A0 w0 st.recs st.lsts w μ) l vs → closedL l' = true ∧ RepAVs (c0 A' w) l' vs) ?_ ?_ ?_ ?_ ?_ ?_ ?_ ?_ ?_ ?_ ?_ ?_ ?_ ?_ ?_ ?_ ?_ x
  · intro t x y v h hr
    simp only [AV.close, Option.some.injEq] at h; subst h
    simp only [RepAV, AV.closed] at hr ⊢
    exact ⟨trivial, hr.mono hA fun _ _ => rfl⟩
  · intro e x y v h hr
    simp only [AV.close, Option.some.injEq] at h; subst h
    simp only [RepAV, AV.closed] at hr ⊢
    exact ⟨trivial, hr.1, hr.2.mono hA fun _ _ => rfl⟩
  · intro y v h hr
    simp only [AV.close, Option.some.injEq] at h; subst h
    simp only [RepAV, AV.closed] at hr ⊢
    exact ⟨trivial, hr⟩
  · intro t y v h hr
    simp only [AV.close] at h
    split at h
    · rename_i o ho
      simp only [Option.some.injEq] at h; subst h
      simp only [RepAV, AV.closed] at hr ⊢
      exact ⟨trivial, whole_rep (hm.hlst t o ho) (hr.2.2 o ho) hA fun b hb => hO t b hb⟩
    · cases h
  · intro r off y v h; simp [AV.close] at h
  · intro t i off y v h; simp [AV.close] at h
  · intro cells ih y v h hr
    simp only [AV.close] at h
    split at h
    · rename_i hc
      simp only [Option.some.injEq] at h; subst h
      exact ⟨by simpa [AV.closed] using hc, RepAV.closed (c := cx A0 w0 st.recs st.lsts w μ) (c' := c0 A' w) ⟨hA, fun _ _ => rfl⟩ (by simpa [AV.closed] using hc) hr⟩
    · cases h
  · intro l ih y v h hr
    simp only [AV.close, Option.bind_eq_some_iff, Option.some.injEq] at h
    obtain ⟨m, hm', rfl⟩ := h
    simp only [RepAV, AV.closed] at hr ⊢
    obtain ⟨us, e, hu⟩ := hr
    obtain ⟨h1, h2⟩ := ih hm' hu
    exact ⟨h1, us, e, h2⟩
  · intro l ih y v h hr
    simp only [AV.close, Option.bind_eq_some_iff, Option.some.injEq] at h
    obtain ⟨m, hm', rfl⟩ := h
    simp only [RepAV, AV.closed] at hr ⊢
    obtain ⟨us, e, hu⟩ := hr
    obtain ⟨h1, h2⟩ := ih hm' hu
    exact ⟨h1, us, e, h2⟩
  · intro f a b iha ihb y v h hr
    simp only [AV.close, Option.bind_eq_some_iff, Option.some.injEq] at h
    obtain ⟨a', ha, b', hb, rfl⟩ := h
    simp only [RepAV, AV.closed, Bool.and_eq_true] at hr ⊢
    obtain ⟨ua, ub, e, hra, hrb⟩ := hr
    obtain ⟨h1, h2⟩ := iha ha hra
    obtain ⟨h3, h4⟩ := ihb hb hrb
    exact ⟨⟨h1, h3⟩, ua, ub, e, h2, h4⟩
  · intro q l ih y v h hr
    simp only [AV.close, Option.bind_eq_some_iff, Option.some.injEq] at h
    obtain ⟨m, hm', rfl⟩ := h
    simp only [RepAV, AV.closed] at hr ⊢
    obtain ⟨us, e, hu⟩ := hr
    obtain ⟨h1, h2⟩ := ih hm' hu
    exact ⟨h1, us, e, h2⟩
  · intro r y v h; simp [AV.close] at h
  · intro x y v h; simp [AV.close] at h
  · intro y v h hr
    simp only [AV.close, Option.some.injEq] at h; subst h
    simp only [RepAV, AV.closed] at hr ⊢
    exact ⟨trivial, hr⟩
  · intro y v h; simp [AV.close] at h
  · intro l' vs h hr
    simp only [closeL, Option.some.injEq] at h; subst h
    simp only [RepAVs, closedL] at hr ⊢
    exact ⟨trivial, hr⟩
  · intro x xs ihx ihs l' vs h hr
    simp only [closeL, Option.bind_eq_some_iff, Option.some.injEq] at h
    obtain ⟨x', hx, m, hm', rfl⟩ := h
    obtain ⟨v, us, rfl, h1, h2⟩ := hr.cons'
    obtain ⟨g1, g2⟩ := ihx hx h1
    obtain ⟨g3, g4⟩ := ihs hm' h2
    simp only [closedL, Bool.and_eq_true]
    exact ⟨⟨g1, g3⟩, RepAVs.cons g2 g4⟩
omit hε in
theorem closeL_rep {A' : Nat → Prop} (hm : Mem A0 w0 st.recs st.lsts w μ) (hA : ∀ b, Imm A0 w0 μ w b → A' b) (hO : ∀ t b, μ.at_ (.l t) = some b → A' b) : ∀ {l l' : List AV} {vs : List Value}, closeL st.lsts l = some l' → RepAVs (cx A0 w0 st.recs st.lsts w μ) l vs → closedL l' = true ∧ RepAVs (c0 A' w) l' vs
  | [], l', vs, h, hr => by
    simp only [closeL, Option.some.injEq] at h; subst h
    simp only [RepAVs, closedL] at hr ⊢
    exact ⟨trivial, hr⟩
  | x :: xs, l', vs, h, hr => by
    simp only [closeL, Option.bind_eq_some_iff, Option.some.injEq] at h
    obtain ⟨x', hx, m, hm', rfl⟩ := h
    obtain ⟨v, us, rfl, h1, h2⟩ := hr.cons'
    obtain ⟨g1, g2⟩ := close_rep hm hA hO hx h1
    obtain ⟨g3, g4⟩ := closeL_rep hm hA hO hm' h2
    simp only [closedL, Bool.and_eq_true]
    exact ⟨⟨g1, g3⟩, RepAVs.cons g2 g4⟩
omit hε in
mutual
theorem scalar_rep {c c' : Cx} : ∀ {x : AV} {v : Value}, x.scalar = true → RepAV c x v → RepAV c' x v
  | .d .bool _, _, _, hr | .d (.int _) _, _, _, hr | .d .str _, _, _, hr => by simpa only [RepAV, Rep] using hr
  | .nilP, _, _, hr => by simpa only [RepAV] using hr
  | .nilS, _, _, hr => by simpa only [RepAV] using hr
  | .agg l, _, h, hr => by simp only [RepAV] at hr ⊢; obtain ⟨us, e, hu⟩ := hr; exact ⟨us, e, scalarL_rep (by simpa [AV.scalar] using h) hu⟩
  | .tup l, _, h, hr => by simp only [RepAV] at hr ⊢; obtain ⟨us, e, hu⟩ := hr; exact ⟨us, e, scalarL_rep (by simpa [AV.scalar] using h) hu⟩
  | .d .unit _, _, h, _ | .d (.list _) _, _, h, _ | .d (.prod _ _) _, _, h, _ | .d .value _, _, h, _ | .full _ _, _, h, _ | .whole _, _, h, _ | .ptr _ _, _, h, _ | .eptr _ _ _, _, h, _ | .pim _, _, h, _ | .fn _ _ _, _, h, _ | .ifc _ _, _, h, _ | .bld _, _, h, _ | .dead, _, h, _ => by simp [AV.scalar] at h
theorem scalarL_rep {c c' : Cx} : ∀ {l : List AV} {vs : List Value}, scalarL l = true → RepAVs c l vs → RepAVs c' l vs
  | [], _, _, hr => by simpa only [RepAVs] using hr
  | x :: xs, _, h, hr => by
    obtain ⟨v, us, rfl, h1, h2⟩ := hr.cons'
    simp only [scalarL, Bool.and_eq_true] at h
    exact RepAVs.cons (scalar_rep h.1 h1) (scalarL_rep h.2 h2)
end

theorem call_run (hs : Sim A0 w0 st a.tmps w μ) {f : Nat} {args : List Operand} {pre post : List AV} {vpre vpost : List Value} (hpre : RepAVs (cx A0 w0 st.recs st.lsts w μ) pre vpre) (hpost : RepAVs (cx A0 w0 st.recs st.lsts w μ) post vpost) (K : AV → St → Option S) (r : S) (h : evCall ε st f args pre post K = some r) :
    ∃ av st', K av st' = some r ∧ (∃ fn, P.funcs[f]? = some fn ∧ (fn.name == "runtime.NumGoroutine") = false ∧ fn.body.isSome = true) ∧
      Calls P f (vpre ++ args.map a.eval ++ vpost).toArray w fun e w' => ∃ v, e = .returned v ∧ Post A0 w0 a.tmps av st' v w' := by
  unfold evCall at h
  split at h
  · cases h
  · rename_i G sc hG
    obtain ⟨hfn, hS⟩ := hε.fn f G sc hG
    split at h
    · simp only [Option.bind_eq_some_iff] at h
      obtain ⟨as, has, h⟩ := h
      have hargs := (hpre.append (evs_rep hs.slots args)).append hpost
      obtain ⟨hcl, hrep⟩ := closeL_rep (A' := fun b => b < w.heap.size) hs.mem (fun b hb => hb.2.1) (fun t b hb => (hs.mem.live _ _ hb).2.1) has hargs
      obtain ⟨av, hK, hclav, hcalls⟩ := hS S as _ r h (fun b => b < w.heap.size) w _ (fun b hb => hb) (GI.mono hs.mem.gi hs.mem.below) hcl hrep
      split at hK
      · rename_i hsc
        refine ⟨av, st, hK, hfn, hcalls.mono fun e w' ⟨v, he, hbel, hv⟩ => ⟨v, he, μ, scalar_rep hsc hv, hs.ext hbel⟩⟩
      · cases hK
    · obtain ⟨μ1, hs1, himm⟩ := Sim.freeze (args.flatMap fun p => (st.ev p).wholes) hs
      generalize st.freeze (args.flatMap fun p => (st.ev p).wholes) = st1 at h hs1
      simp only at h
      split at h
      · rename_i hcl
        have happ : ∀ {l l' : List AV}, closedL (l ++ l') = true → closedL l = true ∧ closedL l' = true := by
          intro l l'
          induction l with
          | nil => intro h; exact ⟨rfl, by simpa using h⟩
          | cons x xs ih => intro h; simp only [List.cons_append, closedL, Bool.and_eq_true] at h ⊢; exact ⟨⟨h.1, (ih h.2).1⟩, (ih h.2).2⟩
        obtain ⟨h12, h3⟩ := happ hcl
        obtain ⟨h1, h2⟩ := happ h12
        have sub1 : (cx A0 w0 st.recs st.lsts w μ).Sub (c0 (Imm A0 w0 μ1 w) w) := ⟨himm, fun _ _ => rfl⟩
        have sub2 : (cx A0 w0 st1.recs st1.lsts w μ1).Sub (c0 (Imm A0 w0 μ1 w) w) := ⟨fun _ h => h, fun _ _ => rfl⟩
        have hrep := ((RepAVs.closed sub1 hpre h1).append (RepAVs.closed sub2 (evs_rep hs1.slots args) h2)).append (RepAVs.closed sub1 hpost h3)
        obtain ⟨av, hK, hclav, hcalls⟩ := hS S _ _ r h (Imm A0 w0 μ1 w) w _ (fun b hb => hb.2.1) (GI.mono hs.mem.gi hs.mem.below) hcl hrep
        refine ⟨av, st1, hK, hfn, hcalls.mono fun e w' ⟨v, he, hbel, hv⟩ => ⟨v, he, μ1, ?_, hs1.ext hbel⟩⟩
        have sub3 : (c0 (News w w' (Imm A0 w0 μ1 w)) w').Sub (cx A0 w0 st1.recs st1.lsts w' μ1) := by
          refine ⟨fun b hb => ?_, fun _ _ => rfl⟩
          rcases hb with hb | ⟨hb1, hb2⟩
          · exact Imm.ext hbel.size hb
          exact ⟨hs1.mem.new_ok hb1, hb2, fun x hx => by have := (hs1.mem.live x b hx).2.1; omega⟩
        exact RepAV.closed sub3 hclav hv
      · cases h
end
end Go.Pe
