/- The operations that make or write memory: each comes to what the evaluator tells. -/
import Derived.Test.YtgghmllnhaahgaaPeMem2
import Derived.Deep.Upon
namespace Go.Pe
open Go.RowKit
set_option linter.unusedSectionVars false
variable [GI]
set_option linter.unusedSimpArgs false
set_option linter.unusedVariables false

theorem RepV.one {A w x us} (h : RepV A w x us) : ∀ u ∈ us, u.oneCell' = true := by
  obtain ⟨iv, kv, rfl, ⟨a, cap, rfl, _⟩, ⟨a', cap', rfl, _⟩⟩ := h.cells
  intro u hu; simp at hu; rcases hu with rfl | rfl | rfl | rfl | rfl <;> rfl
theorem Rep.one {A w} : ∀ {t : Ty} {x : t.den} {us}, Rep A w t x us → ∀ u ∈ us, u.oneCell' = true
  | .bool, _, _, h, u, hu | .int _, _, _, h, u, hu | .str, _, _, h, u, hu => by simp only [Rep] at h; subst h; simp at hu; subst hu; rfl
  | .unit, _, _, h, u, hu => by simp only [Rep] at h; subst h; cases hu
  | .list _, _, _, ⟨v, e, a, cap, e2, _⟩, u, hu => by subst e; simp at hu; subst hu; subst e2; rfl
  | .prod _ _, _, _, ⟨u1, u2, e, h1, h2⟩, u, hu => by
    subst e
    rcases List.mem_append.1 hu with h | h
    · exact Rep.one h1 u h
    · exact Rep.one h2 u h
  | .value, _, _, h, u, hu => RepV.one h u hu
theorem RepAll.one {A w} {t : Ty} : ∀ {xs : List t.den} {us}, RepAll (Rep A w t) xs us → ∀ u ∈ us, u.oneCell' = true
  | [], _, h, u, hu => by simp only [RepAll] at h; subst h; cases hu
  | x :: xs, _, ⟨u1, u2, e, h1, h2⟩, u, hu => by
    subst e
    rcases List.mem_append.1 hu with h | h
    · exact Rep.one h1 u h
    · exact RepAll.one h2 u h

section
variable {P : Program} {A0 : Dom} {w0 w : World} {st : St} {tmps : Array Value} {a : Act} {μ : Mu} {S : Type} {o : Oper}

theorem below_drew (w : World) : Below w.heap.size w w.drew := (Below.refl _ w).drew

theorem rec_new (hs : Sim A0 w0 st tmps w μ) {cells : List AV} {us : Array Value} (hr : RepAVs (cx A0 w0 st.recs st.lsts w μ) cells us.toList) (el : TypeId) (hnb : isBld cells = false) {bb : Bool} (hbb : bb = true → el = GI.bt) :
    Post A0 w0 tmps (.ptr st.recs.length 0) { st with recs := st.recs ++ [some (bldZero bb st.recs.length cells)] } (.pointer (some ⟨w.heap.size, 0, none⟩)) (w.alloc (.cells us el)) := by
  have key : ∀ cells', (∀ c : Cx, c.recs.length = st.recs.length + 1 → c.μ.at_ (.r st.recs.length) = some w.heap.size → RepAVs c cells us.toList → RepAVs c cells' us.toList) → (isBld cells' = true → el = GI.bt) →
      Post A0 w0 tmps (.ptr st.recs.length 0) { st with recs := st.recs ++ [some cells'] } (.pointer (some ⟨w.heap.size, 0, none⟩)) (w.alloc (.cells us el)) := fun cells' h1 h2 =>
    ⟨_, by simp only [RepAV, cx]; exact ⟨by simp, rfl, fun _ => ⟨w.heap.size, by simp [Mu.upd], rfl⟩⟩, hs.slots.mono (le_newRec _ _),
      hs.mem.newRec' el (h1 _ (by simp [cx]) (by simp [cx, Mu.upd]) (hr.mono (le_newRec _ _))) h2⟩
  unfold bldZero
  split
  · split
    · refine key _ (fun c h1 h2 h3 => ?_) fun _ => hbb rfl
      obtain ⟨v1, vs, e, h4, h5⟩ := h3.cons'
      rw [e]
      refine RepAVs.cons ?_ h5
      simp only [RepAV] at h4 ⊢
      subst h4
      exact ⟨by omega, rfl, fun _ => ⟨_, h2, .inl rfl⟩⟩
    · exact key _ (fun _ _ _ h => h) fun h => by rw [hnb] at h; cases h
  · exact key _ (fun _ _ _ h => h) fun h => by rw [hnb] at h; cases h
theorem consts_nobld {c : Cx} {l : List AV} {us : List Value} (h : ∀ c : Cx, RepAVs c l us) : isBld l = false := by
  cases hb : isBld l with
  | false => rfl
  | true =>
    obtain ⟨r, l', rfl⟩ := isBld_some hb
    obtain ⟨v, vs, _, h1, _⟩ := (h { c with recs := [] }).cons'
    simp only [RepAV] at h1
    exact absurd h1.1 (by simp)
theorem splice_bld {cells new : List AV} {off : Nat} (hc : cellsOk new = true) (h : isBld (splice cells off new) = true) : isBld cells = true := by
  obtain ⟨r, l', e⟩ := isBld_some h
  unfold splice at e
  cases off with
  | zero =>
    simp only [List.take_zero, List.nil_append, Nat.zero_add] at e
    cases new with
    | nil => simp only [List.nil_append, List.length_nil, List.drop_zero] at e; rw [e]; rfl
    | cons x new =>
      rw [List.cons_append, List.cons.injEq] at e
      rw [e.1] at hc
      simp [cellsOk, AV.isCell] at hc
  | succ off =>
    cases cells with
    | nil =>
      simp only [List.take_nil, List.nil_append, List.drop_nil, List.append_nil] at e
      rw [e] at hc
      simp [cellsOk, AV.isCell] at hc
    | cons x cells =>
      rw [List.take_succ_cons, List.cons_append, List.cons_append, List.cons.injEq] at e
      rw [e.1]; rfl
theorem cells_nobld {l : List AV} (h : cellsOk l = true) : isBld l = false := by
  cases hb : isBld l with
  | false => rfl
  | true =>
    obtain ⟨r, l', rfl⟩ := isBld_some hb
    simp [cellsOk, AV.isCell] at h

variable {ε : Env} (hε : EnvOk P ε)
include hε

theorem alloc_run (hs : Sim A0 w0 st tmps w μ) {t : Nat} {i : TI} (hi : ε.ti t = some i) :
    ∃ v w', (Instr.alloc t true (.tuple #[])).run P w = .ok v w' ∧ Post A0 w0 tmps (.ptr st.recs.length 0) { st with recs := st.recs ++ [some (bldZero i.bld st.recs.length i.zero)] } v w' := by
  have hti := hε.ti t i hi
  obtain ⟨inf, hinf, hsz, hby, z, hz, hzl, hzr⟩ := hti.info
  have hzero : RepAVs (cx A0 w0 st.recs st.lsts w μ) i.zero z.cells.toList := hzr _
  exact ⟨_, _, by simp [Instr.alloc, zeroValue, typeInfo, hinf, hz, newVar, newRow], rec_new hs hzero t (consts_nobld (c := cx A0 w0 st.recs st.lsts w μ) hzr) hti.bld⟩
theorem box_run (hs : Sim A0 w0 st tmps w μ) {t : Nat} {i : TI} (hi : ε.ti t = some i) {x : AV} {vx : Value} (hx : RepAV (cx A0 w0 st.recs st.lsts w μ) x vx) (hc : cellsOk x.cells = true) :
    ∃ v w', (Instr.box t vx).run P w = .ok v w' ∧ Post A0 w0 tmps (.ptr st.recs.length 0) { st with recs := st.recs ++ [some (bldZero i.bld st.recs.length x.cells)] } v w' :=
  ⟨_, _, by simp [Instr.box, newVar, newRow], rec_new hs (cells_rep hc hx).1 t (cells_nobld hc) (hε.ti t i hi).bld⟩

omit hε in
theorem storeVar_run {t : Nat} {i : TI} (hti : TiOk P t i) {b off : Nat} {vs : Array Value} {vv : Value} {el : TypeId} (ho : w.heap[b]? = some (.cells vs el (0, 0))) (hsz : vv.cells.size = i.size) (hfit : off + i.size ≤ vs.size) (hone : ∀ u ∈ vv.cells.toList, u.oneCell' = true) :
    (Instr.storeAt t (.pointer (some ⟨b, off, none⟩)) vv).run P w = .ok () (w.setRow b (vs.toList.take off ++ vv.cells.toList ++ vs.toList.drop (off + vv.cells.toList.length)).toArray) := by
  have hst := run_storeCells_at P b off el vv.cells.toList 0 vs w ho (by simp; omega) hone
  simp only [Nat.add_zero] at hst
  simp [Instr.storeAt, Instr.sureAddr, storeVar, sizeOf_run hti, hsz, hst]

theorem store_run (hs : Sim A0 w0 st a.tmps w μ) {t : Nat} {x y : Operand} (K : St → Option S) (r : S) (h : evStore ε st t x y K = some r) :
    ∃ st', K st' = some r ∧ ∃ w' μ', (Instr.storeAt t (a.eval x) (a.eval y)).run P w = .ok () w' ∧ Sim A0 w0 st' a.tmps w' μ' := by
  unfold evStore at h
  split at h
  · cases h
  · rename_i i hi
    have hti := hε.ti t i hi
    split at h
    · rename_i r' off hx
      split at h
      · rename_i hc
        split at h
        · rename_i cells hcells
          split at h
          · rename_i hfit
            have hxr := ev_rep hs.slots x
            rw [hx] at hxr
            simp only [RepAV, cx] at hxr
            obtain ⟨b, hb, hxv⟩ := hxr.2.2 (by rw [hcells]; rfl)
            obtain ⟨vs, ho, hv⟩ := hs.mem.rec_at hcells hb
            obtain ⟨hcr, hone⟩ := cells_rep hc.2 (ev_rep hs.slots y)
            obtain ⟨el, hel⟩ := ho
            have hl1 := hcr.length
            have hl2 := hv.length
            simp only [Array.length_toList] at hl1 hl2
            refine ⟨_, h, w.setRow b (vs.toList.take off ++ (a.eval y).cells.toList ++ vs.toList.drop (off + (a.eval y).cells.toList.length)).toArray, μ, ?_, ?_⟩
            · rw [hxv]; exact storeVar_run hti hel (by rw [hl1]; exact hc.1) (by omega) hone
            · have hcells' := hv.splice (off := off) hcr
              have hle := le_setRec (A0 := A0) (w0 := w0) (w := w) (recs := st.recs) (lsts := st.lsts) (μ := μ) (cells' := splice cells off (st.ev y).cells) (cs := (vs.toList.take off ++ (a.eval y).cells.toList ++ vs.toList.drop (off + (a.eval y).cells.toList.length)).toArray) (getL_lt hcells) (by rw [hcells]; rfl) hb
              exact ⟨hs.slots.mono hle, hs.mem.setRec hcells hb ⟨el, hel⟩ (by simpa using hcells') (splice_bld hc.2)⟩
          · cases h
        · cases h
      · cases h
    · rename_i q0 n0 off0 hx0
      obtain ⟨μ1, hs1, _⟩ := Sim.freeze (st.ev y).wholes hs
      generalize st.freeze (st.ev y).wholes = st1 at h hs1
      simp only at h
      split at h
      · rename_i hc
        split at h
        · rename_i q n off hx
          split at h
          · rename_i o ho
            simp only [Option.bind_eq_some_iff] at h
            obtain ⟨y0, hy0, h⟩ := h
            split at h
            · rename_i hfit
              simp only [Option.bind_eq_some_iff] at h
              obtain ⟨z, hz, h⟩ := h
              split at h
              · rename_i hz2
                have hxr := ev_rep hs1.slots x
                rw [hx] at hxr
                simp only [RepAV, cx] at hxr
                obtain ⟨b, hb, hxv⟩ := hxr.2.2 o ho
                obtain ⟨hcr, hone⟩ := cells_rep hc.2 (ev_rep hs1.slots y)
                rcases hs1.mem.hlst q o ho with ⟨_, hnil⟩ | ⟨b', vs, hb', hown, hsz, hcap, us, rest, e1, hr⟩
                · rw [hnil] at hy0; simp at hy0
                · rw [show (cx A0 w0 st1.recs st1.lsts w μ1).μ.at_ (.l q) = μ1.at_ (.l q) from rfl, hb] at hb'; cases hb'
                  obtain ⟨p, u, q', e2, hp, hu⟩ := hr.get (sz := o.e.size) (fun x u h => h.length) n y0 hy0
                  have hup := unpack_rep (c := cx A0 w0 st1.recs st1.lsts w μ1) hu
                  have hul := hup.length
                  have hcl := hcr.length
                  have huz := hu.length
                  have hsp := hup.splice (off := off) hcr
                  obtain ⟨u1, u2, e3, hz1, hz3⟩ := packTo_rep (lsts := []) (A' := Imm A0 w0 μ1 w) (fun _ h => h) (fun t o v h => no_lists t o v h) hz hsp
                  rw [hz2] at hz3
                  have hu2 := hz3.nil; subst hu2
                  rw [List.append_nil] at e3
                  rw [← e3] at hz1
                  have hz1l := hz1.length
                  have hlt : n < o.xs.length := (List.getElem?_eq_some_iff.1 hy0).1
                  have hset := hr.set (sz := o.e.size) (fun x u h => h.length) n z.1 p u _ q' hlt e2 hp huz hz1
                  obtain ⟨el, hel⟩ := hown
                  have hlen : vs.toList.length = vs.size := Array.length_toList
                  have hcs : vs.toList.take (n * o.e.size + off) ++ (a.eval y).cells.toList ++ vs.toList.drop (n * o.e.size + off + (a.eval y).cells.toList.length) =
                      (p ++ (u.take off ++ (a.eval y).cells.toList ++ u.drop (off + (a.eval y).cells.toList.length) ++ q')) ++ rest := by
                    rw [e1, e2, ← hp]
                    simp only [List.append_assoc]
                    rw [List.take_append, List.take_of_length_le (l := p) (by omega), Nat.add_sub_cancel_left, List.take_append_of_le_length (by omega), List.append_assoc]
                    congr 2; congr 1
                    rw [Nat.add_assoc, List.drop_append, List.drop_of_length_le (l := p) (by omega), List.nil_append, Nat.add_sub_cancel_left, List.drop_append_of_le_length (by omega)]
                  have hsize : ((vs.toList.take (n * o.e.size + off) ++ (a.eval y).cells.toList ++ vs.toList.drop (n * o.e.size + off + (a.eval y).cells.toList.length)).toArray).size = vs.size := by
                    have h1 := congrArg List.length e1
                    have h2 := congrArg List.length e2
                    have h3 := hc.1
                    simp only [List.length_append, Array.length_toList] at h1 h2 hcl
                    rw [← hp]
                    simp only [List.size_toArray, List.length_append, List.length_take, List.length_drop, Array.length_toList]
                    omega
                  refine ⟨_, h, w.setRow b (vs.toList.take (n * o.e.size + off) ++ (a.eval y).cells.toList ++ vs.toList.drop (n * o.e.size + off + (a.eval y).cells.toList.length)).toArray, μ1, ?_, ?_⟩
                  · rw [hxv]
                    refine storeVar_run hti hel (by have := hc.1; rw [← hcl] at this; simpa using this) ?_ hone
                    have h1 := congrArg List.length e1
                    have h2 := congrArg List.length e2
                    simp only [List.length_append] at h1 h2
                    omega
                  · have hle := le_setLst (A0 := A0) (w0 := w0) (w := w) (recs := st1.recs) (lsts := st1.lsts) (μ := μ1) (cs := (vs.toList.take (n * o.e.size + off) ++ (a.eval y).cells.toList ++ vs.toList.drop (n * o.e.size + off + (a.eval y).cells.toList.length)).toArray) ho (xs' := o.xs.set n z.1) (by simp) hb
                    exact ⟨hs1.slots.mono hle, hs1.mem.setLst ho (by simp) hb ⟨el, hel⟩ hsize hsz hcap (by simpa using hcs) hset⟩
              · cases h
            · cases h
          · cases h
        · cases h
      · cases h
    · rename_i r' off hx
      split at h
      · rename_i hc
        split at h
        · rename_i cells hcells
          split at h
          · rename_i hfit
            have hxr := ev_rep hs.slots x
            rw [hx] at hxr
            simp only [RepAV, RepSX, cx] at hxr
            obtain ⟨cap, fs, b, h1, hb, hxv⟩ := hxr
            have hg := topCells_some hcells
            obtain ⟨d, b', vs, h3, h4, h5, ho, hv⟩ := hs.mem.htop r' cells hg
            rw [show (cx A0 w0 st.recs st.lsts w μ).μ.dp = μ.dp from rfl, h1] at h3; cases h3
            rw [show (cx A0 w0 st.recs st.lsts w μ).μ.at_ (.n 0) = μ.at_ (.n 0) from rfl, hb] at h5; cases h5
            replace ho : Own w b vs := ho
            replace hv : RepAVs (cx A0 w0 st.recs st.lsts w μ) cells ((vs.toList.drop (fs.length * 5)).take 5) := hv
            obtain ⟨hcr, hone⟩ := cells_rep hc.2 (ev_rep hs.slots y)
            have hl1 := hcr.length
            have hl2 := hv.length
            have hsz : fs.length * 5 + 5 ≤ vs.size := by
              rcases (hs.mem.deep _ h1).row with ⟨h6, _⟩ | ⟨b2, vs2, pre, rest, h6, h7, h8, h9, _⟩
              · rw [show (cx A0 w0 st.recs st.lsts w μ).μ.at_ (.n 0) = μ.at_ (.n 0) from rfl, hb] at h6; cases h6
              · rw [show (cx A0 w0 st.recs st.lsts w μ).μ.at_ (.n 0) = μ.at_ (.n 0) from rfl, hb] at h6; cases h6
                obtain ⟨_, e1⟩ := ho; obtain ⟨_, e2⟩ := h7
                rw [show (cx A0 w0 st.recs st.lsts w μ).w = w from rfl, e1] at e2; cases e2
                have h9' : fs.length + 1 ≤ cap := h9
                have h8' : vs.size = cap * 5 := h8
                omega
            simp only [Array.length_toList, List.length_take, List.length_drop] at hl1 hl2
            have hc5 : cells.length = 5 := by omega
            obtain ⟨el, hel⟩ := ho
            have hsp := hv.splice (off := off) hcr
            have hul : ((vs.toList.drop (fs.length * 5)).take 5).length = 5 := by rw [hv.length]; exact hc5
            have e1 : vs.toList.take (fs.length * 5 + off) ++ (a.eval y).cells.toList ++ vs.toList.drop (fs.length * 5 + off + (a.eval y).cells.toList.length) =
                vs.toList.take (fs.length * 5) ++ (((vs.toList.drop (fs.length * 5)).take 5).take off ++ (a.eval y).cells.toList ++ ((vs.toList.drop (fs.length * 5)).take 5).drop (off + (a.eval y).cells.toList.length)) ++ vs.toList.drop (fs.length * 5 + 5) := by
              have hk : (a.eval y).cells.toList.length = i.size := by rw [hcr.length]; exact hc.1
              generalize (a.eval y).cells.toList = m at hk ⊢
              generalize vs.toList = L
              generalize fs.length * 5 = n
              rw [hk]
              have h3 : L.drop (n + off + i.size) = ((L.drop n).take 5).drop (off + i.size) ++ L.drop (n + 5) := by
                rw [List.drop_take, List.drop_drop, ← Nat.add_assoc]
                have h4 : L.drop (n + 5) = (L.drop (n + off + i.size)).drop (5 - (off + i.size)) := by rw [List.drop_drop]; congr 1; omega
                rw [h4, List.take_append_drop]
              have h5 : L.take (n + off) = L.take n ++ ((L.drop n).take 5).take off := by
                rw [List.take_take, Nat.min_eq_left (by omega), List.take_add]
              rw [h3, h5]; simp only [List.append_assoc]
            refine ⟨_, h, w.setRow b (vs.toList.take (fs.length * 5 + off) ++ (a.eval y).cells.toList ++ vs.toList.drop (fs.length * 5 + off + (a.eval y).cells.toList.length)).toArray, μ, ?_, ?_⟩
            · rw [hxv]; exact storeVar_run hti hel (by rw [hl1]; exact hc.1) (by omega) hone
            · have hu5 : (((vs.toList.drop (fs.length * 5)).take 5).take off ++ (a.eval y).cells.toList ++ ((vs.toList.drop (fs.length * 5)).take 5).drop (off + (a.eval y).cells.toList.length)).length = 5 := by
                have hk : (a.eval y).cells.toList.length = i.size := by rw [hcr.length]; exact hc.1
                rw [List.length_append, List.length_append, List.length_take, List.length_drop, hul, hk]; omega
              obtain ⟨hm', hle⟩ := hs.mem.setTop (cs := (vs.toList.take (fs.length * 5 + off) ++ (a.eval y).cells.toList ++ vs.toList.drop (fs.length * 5 + off + (a.eval y).cells.toList.length)).toArray) hg h1 rfl hb ⟨el, hel⟩ hsp hu5 hsz (by rw [List.toList_toArray]; exact e1)
              exact ⟨hs.slots.mono hle, hm'⟩
          · cases h
        · cases h
      · cases h
    · cases h
end
end Go.Pe
