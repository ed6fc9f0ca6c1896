/- Fields, elements, loads, conversions, structs put together. -/
import Derived.Test.YtgghmllnhaahgaaPeOps2
import Derived.Laws.BytesString
import Derived.Laws.IdiomStrings
import Derived.Laws.Tables
import Derived.Lib.ConvBytes
namespace Go.Pe
open Go.RowKit
set_option linter.unusedSectionVars false
variable [GI]
set_option linter.unusedSimpArgs false
set_option linter.unusedVariables false

theorem isCell_one {c : Cx} {av : AV} {v : Value} (h : av.isCell = true) (hr : RepAV c av v) : v.oneCell' = true ∧ v.cells = #[v] := by
  have key : v.oneCell' = true → v.oneCell' = true ∧ v.cells = #[v] := fun h => ⟨h, by cases v <;> first | rfl | (simp [Value.oneCell'] at h)⟩
  apply key
  match av, h, hr with
  | .d .bool _, _, hr | .d (.int _) _, _, hr | .d .str _, _, hr => simp only [RepAV, Rep, List.cons.injEq, and_true] at hr; subst hr; rfl
  | .d (.list _) _, _, hr => simp only [RepAV, Rep, List.cons.injEq, and_true] at hr; obtain ⟨v', rfl, a, cap, rfl, _⟩ := hr; rfl
  | .full _ _, _, hr => simp only [RepAV] at hr; obtain ⟨⟨a, rfl⟩, _⟩ := hr; rfl
  | .nilS, _, hr => simp only [RepAV] at hr; subst hr; rfl
  | .whole _, _, hr => simp only [RepAV] at hr; exact hr.2.1
  | .ptr _ _, _, hr => simp only [RepAV] at hr; exact hr.2.1
  | .eptr _ _ _, _, hr => simp only [RepAV] at hr; exact hr.2.1
  | .pim _, _, hr => simp only [RepAV] at hr; obtain ⟨ad, us, rfl, _⟩ := hr; rfl
  | .fn _ _ _, _, hr => simp only [RepAV] at hr; obtain ⟨a', b', rfl, _⟩ := hr; rfl
  | .ifc _ _, _, hr => simp only [RepAV] at hr; obtain ⟨u, rfl, _⟩ := hr; rfl
  | .nilP, _, hr => simp only [RepAV] at hr; subst hr; rfl
  | .sx _, _, hr => simp only [RepAV] at hr; exact hr.one
theorem cellsOk_one {c : Cx} : ∀ {l us}, cellsOk l = true → RepAVs c l us → ∀ u ∈ us, u.oneCell' = true
  | [], _, _, hr, u, hu => by simp only [RepAVs] at hr; subst hr; cases hu
  | x :: xs, _, h, hr, u, hu => by
    obtain ⟨v, vs, rfl, h1, h2⟩ := hr.cons'
    simp only [cellsOk, Bool.and_eq_true] at h
    cases hu with
    | head => exact (isCell_one h.1 h1).1
    | tail _ hm => exact cellsOk_one h.2 h2 u hm
theorem cells_rep {c : Cx} {av : AV} {v : Value} (h : cellsOk av.cells = true) (hr : RepAV c av v) : RepAVs c av.cells v.cells.toList ∧ ∀ u ∈ v.cells.toList, u.oneCell' = true := by
  have key : ∀ {av : AV}, av.isCell = true → RepAV c av v → RepAVs c [av] v.cells.toList ∧ ∀ u ∈ v.cells.toList, u.oneCell' = true := by
    intro av h hr
    obtain ⟨h1, h2⟩ := isCell_one h hr
    rw [h2]
    exact ⟨RepAVs.one hr, by simpa using h1⟩
  cases av
  case agg l =>
    simp only [RepAV] at hr
    obtain ⟨us, rfl, hu⟩ := hr
    exact ⟨hu, cellsOk_one h hu⟩
  all_goals
    simp only [AV.cells, cellsOk, Bool.and_true] at h
    exact key h hr

section
variable {P : Program} {S : Type} {c : Cx} {w : World}

theorem isAgg_run {t : Nat} {i : TI} (h : TiOk P t i) : (isAgg t).run P w = .ok i.agg w := by
  unfold isAgg
  rw [h.agg]
  simp only [Sem.run_bind, run_underlying h.under, Result.andThen_ok]
  cases i.desc <;> rfl
theorem sizeOf_run {t : Nat} {i : TI} (h : TiOk P t i) : (sizeOf t).run P w = .ok i.size w := by
  obtain ⟨inf, h1, h2, _⟩ := h.info
  simp [sizeOf, typeInfo, h1, h2]

/-- A part of known cells. -/
theorem part_rep {cells : List AV} {us : List Value} {off n : Nat} {ag : Bool} {av : AV} (hr : RepAVs c cells us) (h : partOf cells off n ag = some av) :
    (ag = true ∧ off + n ≤ us.length ∧ RepAV c av (.agg ((us.drop off).take n).toArray)) ∨ (ag = false ∧ ∃ v, us[off]? = some v ∧ RepAV c av v) := by
  unfold partOf at h
  cases ag with
  | true =>
    simp only [if_true] at h
    split at h
    · rename_i hl
      cases h
      refine .inl ⟨rfl, by rw [hr.length]; exact hl, ?_⟩
      simp only [RepAV]
      exact ⟨_, rfl, (hr.drop _).take _⟩
    · cases h
  | false =>
    simp only [Bool.false_eq_true, if_false] at h
    split at h
    · rename_i x xs hd
      cases h
      have := hr.drop off
      rw [hd] at this
      obtain ⟨v, vs, e, h1, _⟩ := this.cons'
      refine .inr ⟨rfl, v, ?_, h1⟩
      have := congrArg (fun l : List Value => l[0]?) e
      simpa using this
    · cases h
theorem load_cells {t : Nat} {i : TI} (hi : TiOk P t i) {cells : List AV} {us : List Value} {ad : Addr} {off : Nat} {av : AV} (hr : RepAVs c cells us) (hc : CellsAt w ad us) (h : partOf cells off i.size i.agg = some av) :
    ∃ v, (loadVar t ⟨ad.block, ad.off + off, none⟩).run P w = .ok v w ∧ RepAV c av v := by
  rcases part_rep hr h with ⟨hag, hl, hp⟩ | ⟨hag, v, hv, hp⟩
  · refine ⟨_, ?_, hp⟩
    have hcl : (loadCells ⟨ad.block, ad.off + off, none⟩ i.size).run P w = .ok ((us.drop off).take i.size).toArray w := by
      have hlen : ((us.drop off).take i.size).length = i.size := by simp; omega
      have := run_loadCells_list (P := P) w ⟨ad.block, ad.off + off, none⟩ ((us.drop off).take i.size) (fun j v hv => by
        rw [add_addr rfl]
        have hj : j < i.size := by
          have := (List.getElem?_eq_some_iff.1 hv).1; omega
        rw [List.getElem?_take_of_lt hj, List.getElem?_drop] at hv
        have h3 := hc (off + j) (List.getElem?_eq_some_iff.1 hv).1
        rw [← hv, ← h3]; simp [Nat.add_assoc])
      rwa [hlen] at this
    unfold loadVar
    simp only [Sem.run_bind, isAgg_run hi, Result.andThen_ok, hag, if_true, sizeOf_run hi, hcl]
    rfl
  · refine ⟨v, ?_, hp⟩
    unfold loadVar
    have h3 := hc off (List.getElem?_eq_some_iff.1 hv).1
    simp only [Sem.run_bind, isAgg_run hi, Result.andThen_ok, hag, Bool.false_eq_true, if_false, run_load, h3, hv]

variable {ε : Env} (hε : EnvOk P ε)
include hε

theorem fieldAt_ok {t f off n : Nat} {ag : Bool} (h : fieldAt ε t f = some (off, n, ag)) :
    ∃ fs fd j, P.underlying t = some (.struct fs) ∧ fs[f]? = some fd ∧ fd.offset = off ∧ TiOk P fd.type j ∧ j.size = n ∧ j.agg = ag := by
  unfold fieldAt at h
  split at h
  · rename_i i hi
    split at h
    · rename_i fs hd
      split at h
      · rename_i fd hf
        split at h
        · rename_i j hj
          cases h
          exact ⟨fs, fd, j, by rw [(hε.ti t i hi).under, hd], hf, rfl, hε.ti _ _ hj, rfl, rfl⟩
        · cases h
      · cases h
    · cases h
  · cases h

theorem field_run {t f : Nat} {x : AV} {vx : Value} (hx : RepAV c x vx) (K : AV → Option S) (r : S) (h : evField ε t x f K = some r) :
    ∃ av v, K av = some r ∧ (Instr.field t vx f).run P w = .ok v w ∧ RepAV c av v := by
  unfold evField at h
  split at h
  · rename_i off n ag l hf
    simp only [RepAV] at hx
    obtain ⟨us, rfl, hu⟩ := hx
    simp only [Option.bind_eq_some_iff] at h
    obtain ⟨av, hp, hK⟩ := h
    obtain ⟨fs, fd, j, hund, hfd, rfl, hj, rfl, rfl⟩ := fieldAt_ok hε hf
    rcases part_rep hu hp with ⟨hag, hl, hp⟩ | ⟨hag, v, hv, hp⟩
    · refine ⟨av, _, hK, ?_, hp⟩
      have : us.extract fd.offset (fd.offset + j.size) = ((us.toList.drop fd.offset).take j.size).toArray := by
        apply Array.ext'; simp [List.extract_eq_take_drop]
      simp [Instr.field, run_underlying hund, hfd, asAgg, part, isAgg_run hj, hag, sizeOf_run hj, this]
    · refine ⟨av, v, hK, ?_, hp⟩
      have hv' : us[fd.offset]? = some v := by simpa using hv
      simp [Instr.field, run_underlying hund, hfd, asAgg, part, isAgg_run hj, hag, hv']
  · cases h

theorem fieldAddr_run {t f : Nat} {x : AV} {vx : Value} {st : St} (hrc : c.recs = st.recs) (hls : c.lsts = st.lsts) (hx : RepAV c x vx) (hw : c.w = w) (K : AV → Option S) (r : S) (h : evFieldAddr ε st t x f K = some r) :
    ∃ av v, K av = some r ∧ (Instr.fieldAt t vx f).run P w = .ok v w ∧ RepAV c av v := by
  unfold evFieldAddr at h
  split at h
  · rename_i off n ag hf
    obtain ⟨fs, fd, j, hund, hfd, rfl, hj, rfl, rfl⟩ := fieldAt_ok hε hf
    split at h
    · cases h
    · rename_i hn
      have key : ∀ ad : Addr, ad.spot = none → (Instr.fieldAt t (.pointer (some ad)) f).run P w = .ok (.pointer (some ⟨ad.block, ad.off + fd.offset, none⟩)) w := by
        intro ad hsp
        simp [Instr.fieldAt, run_underlying hund, hfd, Instr.sureAddr, fieldPlace, sizeOf_run hj, hn, add_addr hsp]
      split at h
      · split at h
        · rename_i r' o hl
          simp only [RepAV, hrc] at hx
          obtain ⟨b, hb, rfl⟩ := hx.2.2 hl
          exact ⟨_, _, h, key _ rfl, by simp only [RepAV, hrc]; exact ⟨hx.1, rfl, fun _ => ⟨b, hb, rfl⟩⟩⟩
        · cases h
      · split at h
        · rename_i q i o hl
          simp only [RepAV, hls] at hx
          obtain ⟨ob, hob⟩ := Option.isSome_iff_exists.1 hl
          obtain ⟨b, hb, rfl⟩ := hx.2.2 ob hob
          exact ⟨_, _, h, key _ rfl, by simp only [RepAV, hls]; exact ⟨hx.1, rfl, fun o' ho' => ⟨b, hb, by rw [hob] at ho'; cases ho'; rw [Nat.add_assoc]⟩⟩⟩
        · cases h
      · split at h
        · rename_i l hl
          simp only [RepAV] at hx
          obtain ⟨ad, us, rfl, hsp, hA, hc, hu⟩ := hx
          exact ⟨_, _, h, key _ hsp, by simp only [RepAV]; exact ⟨_, us.drop fd.offset, rfl, rfl, hA, hc.drop _, hu.drop _⟩⟩
        · cases h
      · rename_i r' o
        simp only [RepAV, RepSX] at hx
        obtain ⟨cap, fs', b, h1, h2, rfl⟩ := hx
        exact ⟨_, _, h, key _ rfl, by simp only [RepAV, RepSX]; exact ⟨cap, fs', b, h1, h2, by rw [Nat.add_assoc]⟩⟩
      · cases h
  · cases h

omit hε in
theorem sliceRep_elem {e : Ty} {L : List e.den} {v : Value} {n : Int} {y : e.den} (h : SliceRep c.A c.w (Rep c.A c.w e) L v) (hy : nth L n = some y) :
    ∃ ad cap, v = .slice (some ad) L.length cap ∧ ad.spot = none ∧ 0 ≤ n ∧ n < (L.length : Int) ∧ RepAV c (.pim (unpack e y)) (.pointer (some ⟨ad.block, ad.off + n.toNat * e.size, none⟩)) := by
  unfold nth at hy
  split at hy
  · rename_i h0
    have hlt : n.toNat < L.length := (List.getElem?_eq_some_iff.1 hy).1
    obtain ⟨a, cap, rfl, hcap, hm⟩ := h
    rcases hm with hm | ⟨ad, us, rfl, hsp, hA, hc, hr⟩
    · subst hm; simp at hlt
    · obtain ⟨p, u, q, e1, hp, hu⟩ := hr.get (sz := e.size) (fun x u h => h.length) _ y hy
      refine ⟨ad, cap, rfl, hsp, h0, by omega, ?_⟩
      simp only [RepAV]
      refine ⟨_, u, rfl, rfl, hA, ?_, unpack_rep hu⟩
      rw [e1] at hc
      have := hc.mid
      rwa [hp] at this
  · cases hy

theorem indexAddr_run {t : Nat} {lsts : List (Option LObj)} (hls : c.lsts = lsts) (hl : ∀ t o, getL lsts t = some o → LstAt c t o) {x i : AV} {vx vi : Value} (hx : RepAV c x vx) (hi : RepAV c i vi) (hw : c.w = w) (K : AV → Option S) (r : S) (h : evIndexAddr ε t lsts x i K = some r) :
    ∃ av v, K av = some r ∧ (Instr.indexAt t vx vi).run P w = .ok v w ∧ RepAV c av v := by
  have key : ∀ (ad : Addr) (len cap : Nat) (k : IntKind) (n : Int) (et : Nat) (inf : TypeInfo), ad.spot = none → P.underlying t = some (.slice et) → P.info? et = some inf → 0 ≤ n → n < (len : Int) →
      (Instr.indexAt t (.slice (some ad) len cap) (.int k n)).run P w = .ok (.pointer (some ⟨ad.block, ad.off + n.toNat * inf.size, none⟩)) w := by
    intro ad len cap k n et inf hsp hu hinf h0 h1
    simp [Instr.indexAt, asIntOf, run_underlying hu, h0, h1, sizeOf, typeInfo, hinf, add_addr hsp]
  have lst : ∀ (e : Ty) (L : List e.den) (v : Value) (n : Int) (k : IntKind), szOk ε t e = true → SliceRep c.A c.w (Rep c.A c.w e) L v → (nth L n).bind (fun y => K (.pim (unpack e y))) = some r →
      ∃ av v', K av = some r ∧ (Instr.indexAt t v (.int k n)).run P w = .ok v' w ∧ RepAV c av v' := by
    intro e L v n k hs hv hb
    simp only [Option.bind_eq_some_iff] at hb
    obtain ⟨y, hy, hK⟩ := hb
    obtain ⟨ad, cap, rfl, hsp, h0, h1, hr⟩ := sliceRep_elem hv hy
    obtain ⟨et, inf, hu, hi', hsz⟩ := szOk_ok hε hs
    exact ⟨_, _, hK, key ad _ _ k n et inf hsp hu hi' h0 h1, by rw [hsz]; exact hr⟩
  unfold evIndexAddr at h
  split at h
  · split at h
    · split at h
      · rename_i q k n _ o ho hs
        change Int at n
        unfold within at h
        split at h
        · rename_i hin
          simp only [RepAV, Rep, hls, List.cons.injEq, and_true] at hx hi
          subst hi
          have hwa := hx.2.2 o ho
          rcases hwa with ⟨h1, a, rfl⟩ | ⟨b, hb, rfl⟩
          · rcases hl q o ho with ⟨_, h3⟩ | ⟨b, vs, hb, _⟩
            · rw [h3] at hin; simp at hin; omega
            · rw [h1] at hb; cases hb
          · obtain ⟨et, inf, hu, hi', hsz⟩ := szOk_ok hε hs
            refine ⟨_, _, h, key ⟨b, 0, none⟩ _ _ k n et inf rfl hu hi' hin.1 hin.2, ?_⟩
            simp only [RepAV, hls]
            exact ⟨hx.1, rfl, fun o' ho' => ⟨b, hb, by rw [ho] at ho'; cases ho'; rw [hsz]; simp⟩⟩
        · cases h
      · cases h
    · cases h
  · split at h
    · rename_i e L k n hs
      simp only [RepAV, Rep, List.cons.injEq, and_true] at hx hi
      subst hi
      obtain ⟨_, rfl, hx⟩ := hx
      exact lst e L _ n k hs hx h
    · cases h
  · split at h
    · rename_i e L k n hs
      simp only [RepAV, Rep, List.cons.injEq, and_true] at hx hi
      subst hi
      obtain ⟨_, _, rfl, hx⟩ := hx
      exact lst e L _ n k hs hx h
    · cases h
  · split at h
    · rename_i r' fs k n hs
      change Int at n
      unfold sameInt at h
      split at h
      · rename_i hn
        simp only [RepAV, RepSX, Rep, List.cons.injEq, and_true] at hx hi
        subst hi
        obtain ⟨cap, b, h1, h2, rfl, h3⟩ := hx
        obtain ⟨et, inf, hu, hi', hsz⟩ := szOk_ok hε hs
        refine ⟨_, _, h, key ⟨b, 0, none⟩ _ _ k n et inf rfl hu hi' (by omega) (by omega), ?_⟩
        simp only [RepAV, RepSX]
        refine ⟨cap, fs, b, h1, h2, ?_⟩
        rw [hsz, hn]
        simp [Ty.size]
      · cases h
    · cases h
  · cases h

omit hε in
/-- What a list of the call's own holds at a place. -/
theorem lstAt_elem {lsts : List (Option LObj)} {q n : Nat} {o : LObj} {y : o.e.den} (hl : LstAt c q o) (hy : o.xs[n]? = some y) :
    ∃ b vs, c.μ.at_ (.l q) = some b ∧ Own c.w b vs ∧ ∃ u, CellsAt c.w ⟨b, n * o.e.size, none⟩ u ∧ RepAVs c (unpack o.e y) u := by
  rcases hl with ⟨_, h⟩ | ⟨b, vs, hb, ho, hsz, hcap, us, rest, e1, hr⟩
  · rw [h] at hy; simp at hy
  · obtain ⟨p, u, q', e2, hp, hu⟩ := hr.get (sz := o.e.size) (fun x u h => h.length) n y hy
    refine ⟨b, vs, hb, ho, u, ?_, unpack_rep hu⟩
    have hc := ho.cells
    rw [e1, e2, List.append_assoc, List.append_assoc] at hc
    have := hc.mid
    rw [hp] at this
    simpa using this

omit hε in
theorem topCells_some {recs : List (Option (List AV))} {r : Nat} {cells : List AV} (h : topCells recs r = some cells) : getL recs r = some (.sx .mark :: cells) := by
  unfold topCells at h
  split at h
  · rename_i c hc; cases h; exact hc
  · cases h
theorem load_run {A0 w0 μ} {st : St} {t : Nat} {a : AV} {va : Value} (hc : c = cx A0 w0 st.recs st.lsts w μ) (hm : Mem A0 w0 st.recs st.lsts w μ) (ha : RepAV c a va) (K : AV → Option S) (r : S) (h : evLoad ε st t a K = some r) :
    ∃ av v, K av = some r ∧ (Instr.loadAt t va).run P w = .ok v w ∧ RepAV c av v := by
  unfold evLoad at h
  split at h
  · cases h
  · rename_i i hi
    have hti := hε.ti t i hi
    split at h
    · split at h
      · rename_i r' off _ cells hcells
        simp only [Option.bind_eq_some_iff] at h
        obtain ⟨av, hp, hK⟩ := h
        subst hc
        simp only [RepAV, cx] at ha
        obtain ⟨b, hb, rfl⟩ := ha.2.2 (by rw [hcells]; rfl)
        obtain ⟨vs, ho, hv⟩ := hm.rec_at hcells hb
        obtain ⟨v, hrun, hrep⟩ := load_cells (P := P) hti hv ho.cells hp
        refine ⟨av, v, hK, ?_, hrep⟩
        simp only [Nat.zero_add] at hrun
        simp [Instr.loadAt, Instr.sureAddr, hrun]
      · cases h
    · rename_i cells
      simp only [Option.bind_eq_some_iff] at h
      obtain ⟨av, hp, hK⟩ := h
      simp only [RepAV] at ha
      obtain ⟨ad, us, rfl, hsp, hA, hcs, hu⟩ := ha
      have hw : c.w = w := by rw [hc]; rfl
      rw [hw] at hcs
      obtain ⟨v, hrun, hrep⟩ := load_cells (P := P) hti hu hcs hp
      refine ⟨av, v, hK, ?_, hrep⟩
      obtain ⟨b, o, s⟩ := ad
      simp only at hsp; subst hsp
      simp only [Nat.add_zero] at hrun
      simp [Instr.loadAt, Instr.sureAddr, hrun]
    · split at h
      · rename_i q n off _ o ho
        simp only [Option.bind_eq_some_iff] at h
        obtain ⟨y, hy, av, hp, hK⟩ := h
        have hl := hm.hlst q o ho
        obtain ⟨b, vs, hb, hown, u, hcs, hu⟩ := lstAt_elem (lsts := st.lsts) hl hy
        subst hc
        simp only [RepAV, cx] at ha
        obtain ⟨b', hb', rfl⟩ := ha.2.2 o ho
        rw [show (cx A0 w0 st.recs st.lsts w μ).μ.at_ (.l q) = μ.at_ (.l q) from rfl, hb'] at hb; cases hb
        obtain ⟨v, hrun, hrep⟩ := load_cells (P := P) hti hu hcs hp
        refine ⟨av, v, hK, ?_, hrep⟩
        have hrun' : (loadVar t ⟨b, n * o.e.size + off, none⟩).run P w = .ok v w := hrun
        simp [Instr.loadAt, Instr.sureAddr, hrun']
      · cases h
    · split at h
      · rename_i r' off _ cells hcells
        simp only [Option.bind_eq_some_iff] at h
        obtain ⟨av, hp, hK⟩ := h
        subst hc
        simp only [RepAV, RepSX, cx] at ha
        obtain ⟨cap, fs, b, h1, h2, rfl⟩ := ha
        obtain ⟨d, b', vs, h3, h4, h5, h6, h7⟩ := hm.htop r' cells (topCells_some hcells)
        rw [show (cx A0 w0 st.recs st.lsts w μ).μ.dp = μ.dp from rfl, h1] at h3; cases h3
        rw [show (cx A0 w0 st.recs st.lsts w μ).μ.at_ (.n 0) = μ.at_ (.n 0) from rfl, h2] at h5; cases h5
        have hcs := ((h6.cells).drop (fs.length * 5)).take 5
        obtain ⟨v, hrun, hrep⟩ := load_cells (P := P) hti h7 hcs hp
        refine ⟨av, v, hK, ?_, hrep⟩
        simp only [Nat.zero_add] at hrun
        simp only [Instr.loadAt, Instr.sureAddr]
        exact hrun
      · cases h
    · cases h

/-! ### Conversions -/
omit hε in
theorem bytes_run {a : Option Addr} {cap : Nat} {L : List Int} (hv : SliceRep c.A c.w (Rep c.A c.w (.int .u8)) L (.slice a L.length cap)) (hw : c.w = w) :
    (Conv.bytesToString (.slice a L.length cap)).run P w = .ok (.string ⟨(strOf L).toArray⟩) w := by
  obtain ⟨a', cap', e, hcap, hm⟩ := hv
  cases e
  rcases hm with hm | ⟨ad, us, rfl, hsp, hA, hc, hr⟩
  · subst hm
    cases a with
    | none => rfl
    | some ad =>
      have : (loadCells ad 0).run P w = .ok #[] w := by simp [loadCells, loadCellsFrom]
      simp [Conv.bytesToString, this, strOf]; rfl
  · have hus : us = L.map (Value.int .u8) := by
      clear hc hcap hA
      induction L generalizing us with
      | nil => simpa [RepAll] using hr
      | cons x xs ih =>
        obtain ⟨u1, u2, rfl, h1, h2⟩ := hr
        simp only [Rep] at h1; subst h1
        rw [ih _ h2]; rfl
    have hl : (loadCells ad L.length).run P w = .ok us.toArray w := by
      have := run_loadCells_list (P := P) w ad us (fun j v hv => by
        rw [add_addr hsp]
        have hj := (List.getElem?_eq_some_iff.1 hv).1
        rw [← hw, hc j hj, hv])
      rwa [show us.length = L.length by rw [hus]; simp] at this
    subst hus
    rw [run_bytesToString w ad _ _ L hl]
    have fold : ∀ (l : List Int) (acc : ByteArray), l.foldl (fun r n => r.push (UInt8.ofNat n.toNat)) acc = ⟨(acc.data.toList ++ strOf l).toArray⟩ := by
      intro l
      induction l with
      | nil => intro acc; simp [strOf]
      | cons x xs ih =>
        intro acc
        rw [List.foldl_cons, ih]
        simp [ByteArray.push, strOf]
    rw [fold]; simp

theorem conv_run {A0 w0 μ} {recs : List (Option (List AV))} {lsts : List (Option LObj)} {src dst : Nat} {x : AV} {vx : Value} (hc : c = cx A0 w0 recs lsts w μ) (hm : Mem A0 w0 recs lsts w μ) (hx : RepAV c x vx) (K : AV → Option S) (r : S) (h : evConv ε lsts src dst x K = some r) :
    ∃ av v w', K av = some r ∧ (convert src dst vx).run P w = .ok v w' ∧ Below w.heap.size w w' ∧ RepAV (cx A0 w0 recs lsts w' μ) av v := by
  have hw : c.w = w := by rw [hc]; rfl
  unfold evConv at h
  split at h
  · rename_i is i his hi
    have hs := (hε.ti _ _ his).under
    have hd := (hε.ti _ _ hi).under
    split at h
    · rename_i k k' n hdd
      simp only [RepAV, Rep, List.cons.injEq, and_true] at hx; subst hx
      refine ⟨_, .int k (k.wrap n), w, h, ?_, Below.refl _ _, by simp only [RepAV, Rep]⟩
      simp [convert, run_underlying hs, run_underlying (hd.trans (congrArg some hdd)), Conv.intToInt]
    · rename_i s hdd
      simp only [RepAV, Rep, List.cons.injEq, and_true] at hx; subst hx
      refine ⟨_, .string ⟨s.toArray⟩, w, h, ?_, Below.refl _ _, by simp only [RepAV, Rep]⟩
      simp [convert, run_underlying hs, run_underlying (hd.trans (congrArg some hdd))]
    · split at h
      · rename_i hdd hnot hb
        simp only [Option.bind_eq_some_iff] at h
        obtain ⟨L, hL, hK⟩ := h
        obtain ⟨et, inf, hu, hu8, _⟩ := isByteSlice_ok hε hb
        have hrep : ∃ a cap, vx = .slice a L.length cap ∧ (Conv.bytesToString vx).run P w = .ok (.string ⟨(strOf L).toArray⟩) w := by
          have hl : ∀ t o v, getL lsts t = some o → RepAV c (.whole t) v → Rep (fun b => True) c.w (.list o.e) o.xs [v] := by
            intro t o v ho hv
            subst hc
            simp only [RepAV, cx] at hv
            rcases hv.2.2 o ho with ⟨h1, rfl⟩ | ⟨b, hb, rfl⟩
            · rcases hm.hlst t o ho with ⟨_, h3⟩ | ⟨b, vs, hb, _⟩
              · rw [h3]; exact ⟨_, rfl, none, 0, rfl, Nat.le_refl _, .inl rfl⟩
              · rw [show (cx A0 w0 recs lsts w μ).μ.at_ (.l t) = μ.at_ (.l t) from rfl, h1] at hb; cases hb
            · rcases hm.hlst t o ho with ⟨h1, h3⟩ | ⟨b', vs, hb', hown, hsz, hcap, us, rest, e, hr⟩
              · rw [show (cx A0 w0 recs lsts w μ).μ.at_ (.l t) = μ.at_ (.l t) from rfl, hb] at h1; cases h1
              · rw [show (cx A0 w0 recs lsts w μ).μ.at_ (.l t) = μ.at_ (.l t) from rfl, hb] at hb'; cases hb'
                refine ⟨_, rfl, some ⟨b, 0, none⟩, _, rfl, hcap, .inr ⟨_, us, rfl, rfl, trivial, ?_, hr.imp fun x u hx => hx.mono (fun _ _ => trivial) fun _ _ => rfl⟩⟩
                have := hown.cells
                rw [e] at this
                have h2 := this.take us.length
                rwa [List.take_left] at h2
          have h1 := asTy_rep (A' := fun _ => True) (fun _ _ => trivial) hl hL hx
          obtain ⟨v', e, a, cap, rfl, h2⟩ := h1
          simp only [List.cons.injEq, and_true] at e; subst e
          refine ⟨a, cap, rfl, ?_⟩
          have hcc : (⟨fun _ => True, w, μ, recs, lsts, .bool false⟩ : Cx).w = w := rfl
          rw [hw] at h2
          exact bytes_run (c := ⟨fun _ => True, w, μ, recs, lsts, .bool false⟩) ⟨a, cap, rfl, h2⟩ rfl
        obtain ⟨a, cap, rfl, hrun⟩ := hrep
        refine ⟨_, .string ⟨(strOf L).toArray⟩, w, hK, ?_, Below.refl _ _, by simp only [RepAV, Rep]⟩
        rw [run_convert_bytes_string w src dst et a _ cap hu hu8 (by rw [hd, hdd])]
        exact hrun
      · cases h
    · split at h
      · rename_i s _ hb
        simp only [RepAV, Rep, List.cons.injEq, and_true] at hx; subst hx
        obtain ⟨et, inf, hu, hu8, hinf, hsz⟩ := isByteSlice_ok hε hb
        have hbel : Below w.heap.size w (Lib.bytesWorld w et ⟨s.toArray⟩) := ⟨rfl, rfl, rfl, by rw [Lib.bytesWorld_size]; omega, fun k hk => Lib.bytesWorld_at_old w et _ k hk⟩
        refine ⟨_, _, _, h, Lib.run_convert_string_bytes w src dst et ⟨s.toArray⟩ hs hu hu8, hbel, ?_⟩
        simp only [RepAV, Rep, List.cons.injEq, and_true]
        refine ⟨_, rfl, some ⟨w.heap.size, 0, none⟩, grownCap w (⟨s.toArray⟩ : ByteArray).size 0 et, by simp [size_str, bytesOf], ?_, .inr ⟨_, s.map fun b => Value.int .u8 b.toNat, rfl, rfl, ?_, ?_, ?_⟩⟩
        · have : s.length ≤ grownCap w (⟨s.toArray⟩ : ByteArray).size 0 et := by rw [size_str]; exact Nat.le_add_right _ _
          simpa [bytesOf] using this
        · refine ⟨hm.new_ok (Nat.le_refl _), by rw [Lib.bytesWorld_size]; exact Nat.lt_succ_self _, fun x hx => ?_⟩
          have := (hm.live x _ hx).2.1
          exact absurd this (Nat.lt_irrefl _)
        · intro j hj
          have hj' : j < s.length := by simpa using hj
          have := Lib.bytesWorld_cell w et ⟨s.toArray⟩ j (by rw [size_str]; exact hj')
          simp only [Nat.zero_add]
          refine this.trans ?_
          simp [hj', List.getD_eq_getElem?_getD]
        · clear h hb hbel
          induction s with
          | nil => simp [bytesOf, RepAll]
          | cons x xs ih => exact ⟨[_], _, rfl, rfl, ih⟩
      · cases h
    · cases h
  · cases h

/-! ### Structs put together -/
omit hε in
theorem foldl_set : ∀ (vs : List Value) (k : Nat) (off : Nat) (cs : List Value), off + k + vs.length ≤ cs.length →
    ((vs.zipIdx k).foldl (fun (cs : Array Value) p => cs.setIfInBounds (off + p.2) p.1) cs.toArray) = (cs.take (off + k) ++ vs ++ cs.drop (off + k + vs.length)).toArray
  | [], k, off, cs, _ => by simp
  | v :: vs, k, off, cs, h => by
    simp only [List.zipIdx_cons, List.foldl_cons, List.setIfInBounds_toArray]
    simp only [List.length_cons] at h
    rw [foldl_set vs (k + 1) off (cs.set (off + k) v) (by simp; omega)]
    congr 1
    rw [← Nat.add_assoc, List.take_add_one, List.take_set_of_le (by omega), List.getElem?_set_self (by omega), List.drop_set_of_lt (by omega)]
    simp [Nat.add_assoc, Nat.add_comm 1]
omit hε in
theorem build_go {placeA placeM : Nat → Option (Nat × Nat)} (hp : ∀ i p, placeA i = some p → placeM i = some p) : ∀ {parts : List (Nat × AV)} {cells l : List AV} {us : List Value} {vs : List (Nat × Value)},
    evBuildGo placeA cells parts = some l → RepAVs c cells us → parts.length = vs.length → (∀ i (h : i < parts.length) (h' : i < vs.length), parts[i].1 = vs[i].1 ∧ RepAV c parts[i].2 vs[i].2) →
    ∃ us', Instr.fill placeM us.toArray vs = some us'.toArray ∧ RepAVs c l us'
  | [], cells, l, us, vs, h, hr, hl, _ => by
    simp only [evBuildGo, Option.some.injEq] at h; subst h
    have : vs = [] := List.eq_nil_of_length_eq_zero hl.symm
    subst this
    exact ⟨us, rfl, hr⟩
  | (i, av) :: rest, cells, l, us, [], h, hr, hl, _ => by simp at hl
  | (i, av) :: rest, cells, l, us, (i', v) :: vs, h, hr, hl, hall => by
    obtain ⟨rfl, hav⟩ := hall 0 (by simp) (by simp)
    simp only [List.getElem_cons_zero] at hav
    simp only [evBuildGo, List.getElem_cons_zero] at h
    split at h
    · rename_i off n hpl
      split at h
      · rename_i hc
        obtain ⟨h1, h2, h3⟩ := hc
        obtain ⟨hcr, hone⟩ := cells_rep h3 hav
        have hlen := hcr.length
        have hul := hr.length
        obtain ⟨us', hf, hr'⟩ := build_go hp h (hr.splice (off := off) hcr) (by simpa using hl) (fun j h h' => by
          have := hall (j + 1) (by simpa using h) (by simpa using h')
          simpa using this)
        refine ⟨us', ?_, hr'⟩
        have hsz : v.cells.size = n := by rw [← h1, ← hlen]; simp
        simp only [Instr.fill, List.getElem_cons_zero, hp _ _ hpl, hsz, ne_eq, not_true, decide_false, Bool.false_or, decide_eq_true_eq]
        rw [if_neg (by simp; omega)]
        rw [← hf]
        congr 1
        have := foldl_set v.cells.toList 0 off us (by rw [Array.length_toList, hsz]; omega)
        simp only [Nat.add_zero] at this
        rw [← this, ← Array.foldl_toList, Array.toList_zipIdx]
      · cases h
    · cases h

omit hε in
theorem mapM_all {α β : Type} {g : α → Option β} : ∀ {l : List α}, (∀ x ∈ l, (g x).isSome = true) → ∃ r : List β, l.mapM g = some r ∧ ∀ (i : Nat) x, l[i]? = some x → r[i]? = g x
  | [], _ => ⟨[], by simp, by simp⟩
  | x :: xs, h => by
    obtain ⟨b, hb⟩ := Option.isSome_iff_exists.1 (h x (by simp))
    obtain ⟨r, hr, hi⟩ := mapM_all (l := xs) fun y hy => h y (by simp [hy])
    refine ⟨b :: r, by simp [List.mapM_cons, hb, hr], fun i y hy => ?_⟩
    cases i with
    | zero => simp at hy; subst hy; simp [hb]
    | succ i => simpa using hi i y (by simpa using hy)

theorem build_run {A0 w0 μ} {recs lsts} {t : Nat} (hc : c = cx A0 w0 recs lsts w μ) {parts : List (Nat × AV)} {vs : Array (Nat × Value)} (hl : parts.length = vs.toList.length)
    (hall : ∀ i (h : i < parts.length) (h' : i < vs.toList.length), parts[i].1 = vs.toList[i].1 ∧ RepAV c parts[i].2 vs.toList[i].2) (K : AV → Option S) (r : S) (h : evBuild ε t parts K = some r) :
    ∃ av v, K av = some r ∧ (Instr.build t vs).run P w = .ok v w ∧ RepAV c av v := by
  unfold evBuild at h
  split at h
  · rename_i i hi
    have hti := hε.ti t i hi
    obtain ⟨inf, hinf, hsz, hby, z, hz, hzl, hzr⟩ := hti.info
    have hzero : RepAVs c i.zero z.cells.toList := hzr c
    split at h
    · rename_i fs hd
      split at h
      · cases h
      · rename_i hall'
        simp only [Option.bind_eq_some_iff] at h
        obtain ⟨l, hb, hK⟩ := h
        have hsome : ∀ f ∈ fs.toList, ((P.info? f.type).map fun i => (f.offset, i.size)).isSome = true := by
          intro f hf
          simp only [Bool.not_eq_true, Bool.not_eq_false', List.all_eq_true] at hall'
          obtain ⟨j, hj⟩ := Option.isSome_iff_exists.1 (hall' f hf)
          obtain ⟨inf', h1, _⟩ := (hε.ti _ _ hj).info
          simp [h1]
        obtain ⟨places, hpl, hget⟩ := mapM_all hsome
        obtain ⟨us', hf, hr'⟩ := build_go (placeM := fun x => places.toArray[x]?) (fun f p hp => by
          simp only [Option.map_eq_some_iff] at hp
          obtain ⟨⟨off, n, ag⟩, hq, rfl⟩ := hp
          obtain ⟨fs', fd, j, hund, hfd, rfl, hj, rfl, rfl⟩ := fieldAt_ok hε hq
          have : fs' = fs := by rw [hti.under, hd] at hund; cases hund; rfl
          subst this
          obtain ⟨inf', h1, h2, _⟩ := hj.info
          have := hget f fd (by simpa using hfd)
          simpa [h1, h2] using this) hb hzero hl hall
        refine ⟨_, _, hK, run_build w t vs us'.toArray ?_, by simp only [RepAV]; exact ⟨_, rfl, hr'⟩⟩
        unfold Program.built
        simp only [hinf, hti.under, hd, hz, hpl]
        simpa using hf
    · rename_i n el hd
      split at h
      · rename_i j hj
        simp only [Option.bind_eq_some_iff] at h
        obtain ⟨l, hb, hK⟩ := h
        obtain ⟨inf', h1, h2, _⟩ := (hε.ti _ _ hj).info
        obtain ⟨us', hf, hr'⟩ := build_go (placeM := fun i => some (i * inf'.size, inf'.size)) (fun f p hp => by rw [h2]; exact hp) hb hzero hl hall
        refine ⟨_, _, hK, run_build w t vs us'.toArray ?_, by simp only [RepAV]; exact ⟨_, rfl, hr'⟩⟩
        unfold Program.built
        simp only [hinf, hti.under, hd, hz, h1]
        simpa using hf
      · cases h
    · cases h
  · cases h
end
end Go.Pe
