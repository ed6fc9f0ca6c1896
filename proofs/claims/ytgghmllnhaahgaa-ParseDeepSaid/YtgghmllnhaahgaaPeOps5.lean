/- append, make, literals of slices. -/
import Derived.Test.YtgghmllnhaahgaaPeOps4
import Derived.Test.YtgghmllnhaahgaaPeDeep
namespace Go.Pe
open Go.RowKit
set_option linter.unusedSectionVars false
variable [GI]
set_option linter.unusedSimpArgs false
set_option linter.unusedVariables false

section
variable {P : Program} {A0 : Dom} {w0 w : World} {st : St} {tmps : Array Value} {a : Act} {μ : Mu} {S : Type} {o : Oper}

/-- The cells of what reads as a list, one's own lists with them. -/
theorem list_cells (hm : Mem A0 w0 st.recs st.lsts w μ) {e : Ty} {x : AV} {vx : Value} {ys : List e.den} (h : asTy st.lsts (.list e) x = some ys) (hx : RepAV (cx A0 w0 st.recs st.lsts w μ) x vx) :
    ∃ b cap us, vx = .slice b ys.length cap ∧ RepAll (Rep (Imm A0 w0 μ w) w e) ys us ∧ (ys = [] ∨ ∃ ad, b = some ad ∧ ad.spot = none ∧ CellsAt w ad us) := by
  have conc : ∀ {v : Value}, SliceRep (Imm A0 w0 μ w) w (Rep (Imm A0 w0 μ w) w e) ys v → ∃ b cap us, v = .slice b ys.length cap ∧ RepAll (Rep (Imm A0 w0 μ w) w e) ys us ∧ (ys = [] ∨ ∃ ad, b = some ad ∧ ad.spot = none ∧ CellsAt w ad us) := by
    intro v hv
    obtain ⟨b, cap, rfl, hcap, hm⟩ := hv
    rcases hm with hm | ⟨ad, us, hb, hsp, _, hc, hr⟩
    · subst hm; exact ⟨b, cap, [], rfl, rfl, .inl rfl⟩
    · exact ⟨b, cap, us, rfl, hr, .inr ⟨ad, hb, hsp, hc⟩⟩
  cases x <;> simp only [asTy] at h
  case d t' y =>
    split at h
    · rename_i e'; subst e'; simp only [Option.some.injEq] at h; subst h
      simp only [RepAV, Rep, List.cons.injEq, and_true] at hx
      obtain ⟨_, rfl, hx⟩ := hx
      exact conc hx
    · cases h
  case full e' y =>
    split at h
    · rename_i e'; cases e'; simp only [Option.some.injEq] at h; subst h
      simp only [RepAV, Rep, List.cons.injEq, and_true] at hx
      obtain ⟨_, _, rfl, hx⟩ := hx
      exact conc hx
    · cases h
  case nilS =>
    simp only [Option.some.injEq] at h; subst h
    simp only [RepAV] at hx
    subst hx
    exact ⟨none, 0, [], rfl, rfl, .inl rfl⟩
  case whole j =>
    split at h
    · rename_i o ho
      split at h
      · rename_i e'
        obtain ⟨e0, xs0⟩ := o
        cases e'
        simp only [Option.some.injEq] at h; subst h
        simp only [RepAV, cx] at hx
        rcases hm.hlst j _ ho with ⟨h1, h2⟩ | ⟨b, vs, hb, hown, hsz, hcap, us, rest, e1, hr⟩
        · rcases hx.2.2 _ ho with ⟨_, rfl⟩ | ⟨b, hb, rfl⟩
          · simp only at h2; subst h2; exact ⟨none, 0, [], rfl, rfl, .inl rfl⟩
          · rw [show (cx A0 w0 st.recs st.lsts w μ).μ.at_ (.l j) = μ.at_ (.l j) from rfl, hb] at h1; cases h1
        · rcases hx.2.2 _ ho with ⟨h3, _⟩ | ⟨b', hb', rfl⟩
          · rw [show (cx A0 w0 st.recs st.lsts w μ).μ.at_ (.l j) = μ.at_ (.l j) from rfl, h3] at hb; cases hb
          · rw [show (cx A0 w0 st.recs st.lsts w μ).μ.at_ (.l j) = μ.at_ (.l j) from rfl, hb'] at hb; cases hb
            refine ⟨_, _, us, rfl, hr, .inr ⟨_, rfl, rfl, ?_⟩⟩
            have := hown.cells
            rw [e1] at this
            have h2 := this.take us.length
            rwa [List.take_left] at h2
      · cases h
    · cases h
  all_goals cases h

variable {ε : Env} (hε : EnvOk P ε)
include hε

theorem appArg_src (hm : Mem A0 w0 st.recs st.lsts w μ) {xT : Nat} {e : Ty} {x : AV} {vx : Value} {ys : List e.den} (h : appArg ε st.lsts xT e x = some ys) (hx : RepAV (cx A0 w0 st.recs st.lsts w μ) x vx) :
    ∃ news, Src P e.size xT vx ys.length news w ∧ RepAll (Rep (Imm A0 w0 μ w) w e) ys news := by
  unfold appArg at h
  split at h
  · rename_i b
    split at h
    · rename_i hs
      simp only [asTy] at h
      split at h
      · rename_i e'
        cases e'
        simp only [Option.some.injEq] at h; subst h
        simp only [RepAV, Rep, List.cons.injEq, and_true] at hx; subst hx
        have hsrc := Src.ofString (P := P) w (isStr_ok hε hs) ⟨b.toArray⟩
        rw [size_str] at hsrc
        refine ⟨_, by simpa [bytesOf, Ty.size] using hsrc, ?_⟩
        simp only [byteCells]
        clear hsrc
        induction b with
        | nil => rfl
        | cons y ys ih => exact ⟨[_], _, rfl, rfl, ih⟩
      · cases h
    · cases h
  · split at h
    · rename_i hs
      obtain ⟨et, het⟩ := Option.isSome_iff_exists.1 hs
      obtain ⟨b, cap, us, rfl, hr, hc⟩ := list_cells hm h hx
      have hul := hr.length (sz := e.size) fun x u h => h.length
      refine ⟨us, ?_, hr⟩
      rcases hc with hc | ⟨ad, rfl, hsp, hc⟩
      · subst hc
        simp only [RepAll] at hr; subst hr
        cases b with
        | none => exact Src.ofNil w (elemT_ok hε het) cap
        | some ad => exact Src.ofSlice w (elemT_ok hε het) ad 0 cap [] (by simp) (by simp) (by simp)
      · exact Src.ofSlice w (elemT_ok hε het) ad ys.length cap us hul (fun j u hj => by
          rw [add_addr hsp, hc j (List.getElem?_eq_some_iff.1 hj).1, hj]) hr.one
    · cases h

theorem elemTy_ok {sT : Nat} {e : Ty} (h : (elemT ε sT).bind (ty1 ε) = some e) : ∃ et inf z, P.underlying sT = some (.slice et) ∧ P.info? et = some inf ∧ inf.size = e.size ∧ inf.bytes ≤ 16384 ∧ inf.zero = some z ∧ z.cells.size = e.size ∧ (e = .int .u8 → et = GI.u8) := by
  simp only [Option.bind_eq_some_iff] at h
  obtain ⟨et, het, h⟩ := h
  unfold ty1 at h
  simp only [Option.bind_eq_some_iff] at h
  obtain ⟨i, hi, h⟩ := h
  obtain ⟨inf, h1, h2, h3, z, h4, h5, _⟩ := (hε.ti _ _ hi).info
  have h6 := (hε.ti _ _ hi).ty e h
  exact ⟨et, inf, z, elemT_ok hε het, h1, by rw [h2, h6], h3, h4, by rw [h5, h6], fun e8 => (hε.ti _ _ hi).u8 (by rw [h, e8])⟩

omit hε in
/-- An append that needs new memory. -/
theorem grow_run {sT xT ty et : Nat} {inf : TypeInfo} {z : Value} (hu : P.underlying sT = some (.slice et)) (hinf : P.info? et = some inf) (hz : inf.zero = some z) (hb16 : inf.bytes ≤ 16384) (hzs : z.cells.size = inf.size)
    {base : Option Addr} {sLen sCap : Nat} {olds : List Value} (hol : olds.length = sLen * inf.size) (hold : ∀ w' : World, w'.heap = w.heap → (Builtin.firstCells inf.size sLen (.slice base sLen sCap)).run P w' = .ok olds.toArray w')
    {x : Value} {n : Nat} {news : List Value} (hs : Src P inf.size xT x n news w) (hg : sCap < sLen + n) (hn : sLen + n ≤ 4294967296) :
    ∃ cap vs, sLen + n ≤ cap ∧ (Builtin.append_ #[sT, xT] ty #[.slice base sLen sCap, x]).run P w = .ok (.slice (some ⟨w.heap.size, 0, none⟩) (sLen + n) cap) (w.drew.alloc (.cells vs et)) ∧ vs.size = cap * inf.size ∧ ∃ rest, vs.toList = olds ++ news ++ rest := by
  have hfit : Builtin.nextslicecap (sLen + n) sCap * inf.bytes ≤ 281474976710656 := growslice_fits hg (by
    have : (sLen + n) * inf.bytes ≤ 4294967296 * 16384 := Nat.mul_le_mul hn hb16
    omega)
  have hle : sLen + n ≤ grownCap w (sLen + n) sCap et := Nat.le_add_right _ _
  refine ⟨_, _, hle, run_append_grow_src w sT xT ty et inf z hu hinf hz base sLen sCap olds (hold w.drew rfl) x n news hs hg (by omega) hfit, ?_, (Builtin.zeroCells z.cells (grownCap w (sLen + n) sCap et - (sLen + n))).toList, ?_⟩
  · simp only [Array.size_append, List.size_toArray, List.length_append, hol, hs.newsLen, size_zeroCells, hzs]
    rw [← Nat.add_mul, ← Nat.add_mul]; congr 1; omega
  · simp

omit hε in
theorem firstCells_ok {size n : Nat} {base : Option Addr} {cap : Nat} {us : List Value} (hl : us.length = n * size) (hc : us = [] ∨ ∃ ad, base = some ad ∧ ad.spot = none ∧ CellsAt w ad us) (w' : World) (hw : w'.heap = w.heap) :
    (Builtin.firstCells size n (.slice base n cap)).run P w' = .ok us.toArray w' := by
  cases base with
  | none =>
    rcases hc with rfl | ⟨ad, h, _⟩
    · exact run_firstCells_none w' size n n cap
    · cases h
  | some ad =>
    refine run_firstCells_some w' size n ad n cap us hl fun j u hj => ?_
    rcases hc with rfl | ⟨ad', h, hsp, hc⟩
    · simp at hj
    · cases h
      rw [add_addr hsp, ← hj, ← hc j (List.getElem?_eq_some_iff.1 hj).1]
      exact cell?_of_heap (w := w) (a := ⟨ad.block, ad.off + j, none⟩) (by rw [hw])

/-- A new list, out of an append to none. -/
theorem app_new (hs : Sim A0 w0 st tmps w μ) {sT xT ty : Nat} {e : Ty} (he : (elemT ε sT).bind (ty1 ε) = some e) {x : AV} {vx : Value} {ys : List e.den} (h : appArg ε st.lsts xT e x = some ys) (hx : RepAV (cx A0 w0 st.recs st.lsts w μ) x vx) (hn : ys.length ≤ 4294967296) :
    ∃ v w', (Builtin.append_ #[sT, xT] ty #[.slice none 0 0, vx]).run P w = .ok v w' ∧ Post A0 w0 tmps (.whole st.lsts.length) { st with lsts := st.lsts ++ [some ⟨e, ys⟩] } v w' := by
  obtain ⟨news, hsrc, hr⟩ := appArg_src hε hs.mem h hx
  obtain ⟨et, inf, z, hu, hinf, hsz, hby, hz, hzs, hu8⟩ := elemTy_ok hε he
  rw [← hsz] at hsrc hzs
  by_cases h0 : ys.length = 0
  · have hys : ys = [] := List.eq_nil_of_length_eq_zero h0
    subst hys
    have hnews : news = [] := by simpa [RepAll] using hr
    subst hnews
    refine ⟨_, w, run_append_nothing w sT xT ty et inf hu hinf none 0 0 (Nat.le_refl _) vx hsrc, μ, ?_, hs.slots.mono (le_nilLst _), hs.mem.nilLst rfl⟩
    simp only [RepAV, cx]
    refine ⟨by simp, rfl, fun o ho => ?_⟩
    rw [getL_new] at ho; cases ho
    refine .inl ⟨?_, rfl⟩
    cases hat : μ.at_ (.l st.lsts.length) with
    | none => rfl
    | some b' =>
      obtain ⟨c, hc⟩ := Option.isSome_iff_exists.1 (hs.mem.live _ _ hat).2.2
      exact absurd (getL_lt hc) (Nat.lt_irrefl _)
  · obtain ⟨cap, vs, hcap, hrun, hvs, rest, hrest⟩ := grow_run (P := P) (w := w) (ty := ty) hu hinf hz hby hzs (olds := []) (base := none) (sLen := 0) (sCap := 0) (by simp) (fun w' hw => firstCells_ok (w := w) (by simp) (.inl rfl) w' hw) hsrc (by omega) (by omega)
    simp only [Nat.zero_add, List.nil_append] at hcap hrun hrest
    have hs' := hs.ext (below_drew w)
    have hr' := hr.imp (R := Rep (Imm A0 w0 μ w) w e) (R' := Rep (Imm A0 w0 μ w.drew) w.drew e) fun x u hx => Rep.mono (A := Imm A0 w0 μ w) (w := w) (A' := Imm A0 w0 μ w.drew) (w' := w.drew) (t := e) (x := x) (vs := u) (fun b hb => hb) (fun b hb => rfl) hx
    have hmem := hs'.mem.newLst (l := ⟨e, ys⟩) hr' hrest (c := cap) (by rw [hvs, hsz]) hcap et hu8
    refine ⟨_, _, hrun, _, ?_, hs'.slots.mono (le_newLst _ _ _), hmem⟩
    simp only [RepAV, cx]
    refine ⟨by simp, rfl, fun o ho => ?_⟩
    rw [getL_new] at ho; cases ho
    exact .inr ⟨w.heap.size, by simp [Mu.upd, Mu.setCap], by simp [Mu.setCap]⟩

theorem append_run (hs : Sim A0 w0 st tmps w μ) {sT xT ty : Nat} {s x : AV} {vs vx : Value} (hsr : RepAV (cx A0 w0 st.recs st.lsts w μ) s vs) (hx : RepAV (cx A0 w0 st.recs st.lsts w μ) x vx) (K : AV → St → Option S) (r : S) (h : evAppend ε st sT xT s x K = some r) :
    ∃ av st', K av st' = some r ∧ ∃ v w', (Builtin.append_ #[sT, xT] ty #[vs, vx]).run P w = .ok v w' ∧ Post A0 w0 tmps av st' v w' := by
  unfold evAppend at h
  split at h
  · split at h
    · rename_i e he
      simp only [Option.bind_eq_some_iff] at h
      obtain ⟨ys, hys, h⟩ := h
      unfold appOk at h
      split at h
      · rename_i hn
        simp only [RepAV] at hsr
        subst hsr
        exact ⟨_, _, h, app_new hε hs he hys hx hn⟩
      · cases h
    · cases h
  · rename_i e xs
    split at h
    · rename_i he
      simp only [Option.bind_eq_some_iff] at h
      obtain ⟨ys, hys, h⟩ := h
      unfold appOk at h
      split at h
      · rename_i hn
        simp only [RepAV, Rep, List.cons.injEq, and_true] at hsr
        obtain ⟨⟨b, rfl⟩, _, rfl, hsl⟩ := hsr
        obtain ⟨news, hsrc, hr⟩ := appArg_src hε hs.mem hys hx
        obtain ⟨et, inf, z, hu, hinf, hsz, hby, hz, hzs, hu8⟩ := elemTy_ok hε he
        refine ⟨_, _, h, ?_⟩
        by_cases h0 : ys.length = 0
        · have hys' : ys = [] := List.eq_nil_of_length_eq_zero h0
          subst hys'
          have hnews : news = [] := by simpa [RepAll] using hr
          subst hnews
          rw [← hsz] at hsrc
          refine ⟨_, w, run_append_nothing w sT xT ty et inf hu hinf b xs.length xs.length (Nat.le_refl _) vx hsrc, μ, ?_, hs⟩
          rw [List.append_nil]
          simp only [RepAV, Rep, List.cons.injEq, and_true]
          exact ⟨_, rfl, hsl⟩
        · obtain ⟨a', cap', e1, hcap', hm⟩ := hsl
          cases e1
          obtain ⟨us, hus, hxs, hcells⟩ : ∃ us, us.length = xs.length * e.size ∧ RepAll (Rep (Imm A0 w0 μ w) w e) xs us ∧ (us = [] ∨ ∃ ad, b = some ad ∧ ad.spot = none ∧ CellsAt w ad us) := by
            rcases hm with hm | ⟨ad, us, hb, hsp, _, hc, hr'⟩
            · subst hm; exact ⟨[], by simp, rfl, .inl rfl⟩
            · exact ⟨us, hr'.length fun x u h => h.length, hr', .inr ⟨ad, hb, hsp, hc⟩⟩
          rw [← hsz] at hsrc hzs hus
          obtain ⟨cap, vs, hcap, hrun, hvs, rest, hrest⟩ := grow_run (P := P) (w := w) (ty := ty) hu hinf hz hby hzs (base := b) (sLen := xs.length) (sCap := xs.length) hus (fun w' hw => firstCells_ok (w := w) hus hcells w' hw) hsrc (by omega) hn
          have hbel : Below w.heap.size w (w.drew.alloc (.cells vs et)) := (below_drew w).alloc (Nat.le_refl _) _
          refine ⟨_, _, hrun, μ, ?_, hs.ext hbel⟩
          have hle := cx.ext (A0 := A0) (w0 := w0) (recs := st.recs) (lsts := st.lsts) (μ := μ) hbel
          simp only [RepAV, Rep, List.cons.injEq, and_true]
          refine ⟨_, rfl, some ⟨w.heap.size, 0, none⟩, cap, by rw [List.length_append], by rw [List.length_append]; exact hcap, .inr ⟨_, us ++ news, rfl, rfl, ?_, ?_, ?_⟩⟩
          · exact ⟨hs.mem.new_ok (Nat.le_refl _), by simp [cx], fun x hx => absurd (hs.mem.live x _ hx).2.1 (Nat.lt_irrefl _)⟩
          · have hown : Own (w.drew.alloc (.cells vs et)) w.heap.size vs := ⟨et, heap_alloc_new w.drew _⟩
            have := hown.cells
            rw [hrest] at this
            have h2 := this.take (us ++ news).length
            rwa [List.take_left] at h2
          · exact (hxs.imp fun x u hx => hx.mono hle.A hle.w).append (hr.imp fun x u hx => hx.mono hle.A hle.w)
      · cases h
    · cases h
  · rename_i t
    split at h
    · rename_i o ho
      split at h
      · rename_i he
        simp only [Option.bind_eq_some_iff] at h
        obtain ⟨ys, hys, h⟩ := h
        unfold appOk at h
        split at h
        · rename_i hn
          refine ⟨_, _, h, ?_⟩
          obtain ⟨news, hsrc, hr⟩ := appArg_src hε hs.mem hys hx
          obtain ⟨et, inf, z, hu, hinf, hsz, hby, hz, hzs, hu8⟩ := elemTy_ok hε he
          have hsrc' := hsrc
          rw [← hsz] at hsrc'
          have hzs' := hzs
          rw [← hsz] at hzs'
          simp only [RepAV, cx] at hsr
          have hwhole := hsr.2.2 o ho
          have hl := hs.mem.hlst t o ho
          have fin : ∀ (v : Value) (w' : World) (μ' : Mu), w.heap.size ≤ w'.heap.size → Below w0.heap.size w w' → (∀ k, k < w.heap.size → μ.at_ (.l t) ≠ some k → w'.heap[k]? = w.heap[k]?) →
              (∀ x, x ≠ .l t → μ'.at_ x = μ.at_ x) → (∀ s, s ≠ t → μ'.cap s = μ.cap s) → μ'.dp = μ.dp → (∀ b, μ'.at_ (.l t) = some b → w0.heap.size ≤ b ∧ b < w'.heap.size ∧ ((μ.at_ (.l t) = some b) ∨ w.heap.size ≤ b)) →
              (LstAt ⟨Imm A0 w0 μ' w', w', μ', st.recs, st.lsts, A0.keep⟩ t ⟨o.e, o.xs ++ ys⟩) → (o.e = .int .u8 → ∀ b, μ'.at_ (.l t) = some b → ∃ vs, w'.heap[b]? = some (.cells vs GI.u8 (0, 0))) → v.oneCell' = true → WholeAt μ' t ⟨o.e, o.xs ++ ys⟩ v →
              (Builtin.append_ #[sT, xT] ty #[vs, vx]).run P w = .ok v w' →
              ∃ v w', (Builtin.append_ #[sT, xT] ty #[vs, vx]).run P w = .ok v w' ∧ Post A0 w0 tmps (.whole t) { (st.mapAV (AV.kill t)) with lsts := st.lsts.set t (some ⟨o.e, o.xs ++ ys⟩) } v w' := by
            intro v w' μ' h1 h2 h3 h4 h5 h5d h6 h7 hu8' h8 h9 hrun
            obtain ⟨hm', hle⟩ := hs.mem.regrow ho (o' := ⟨o.e, o.xs ++ ys⟩) h1 h2 h3 h4 h5 h5d h6 h7 hu8'
            refine ⟨v, w', hrun, μ', ?_, ?_, hm'⟩
            · simp only [RepAV, cx]
              refine ⟨by simpa using hsr.1, h8, fun o' ho' => ?_⟩
              rw [getL_set (getL_lt ho), if_pos rfl] at ho'; cases ho'
              exact h9
            · have := hs.slots.kill hle
              rw [killL_map] at this; exact this
          rcases hl with ⟨hnone, hnil⟩ | ⟨b, cs, hb, hown, hcsz, hcap, us, rest, e1, hxs⟩
          · rcases hwhole with ⟨_, rfl⟩ | ⟨b, hb, rfl⟩
            · by_cases h0 : ys.length = 0
              · have hys' : ys = [] := List.eq_nil_of_length_eq_zero h0
                have hnews : news = [] := by subst hys'; simpa [RepAll] using hr
                subst hnews
                rw [h0] at hsrc'
                refine fin (.slice none 0 0) w μ (Nat.le_refl _) (Below.refl _ _) (fun _ _ _ => rfl) (fun _ _ => rfl) (fun _ _ => rfl) rfl (fun b' hb' => by
                  rw [show μ.at_ (.l t) = none from hnone] at hb'; cases hb') (.inl ⟨hnone, by simp [hnil, hys']⟩) (fun _ b' hb' => by rw [show μ.at_ (.l t) = none from hnone] at hb'; cases hb') rfl (.inl ⟨hnone, rfl⟩) ?_
                exact run_append_nothing w sT xT ty et inf hu hinf none 0 0 (Nat.le_refl _) vx hsrc'
              · obtain ⟨cap, vs, hcap, hrun, hvs, rest, hrest⟩ := grow_run (P := P) (w := w) (ty := ty) hu hinf hz hby hzs' (olds := []) (base := none) (sLen := 0) (sCap := 0) (by simp) (fun w' hw => firstCells_ok (w := w) (by simp) (.inl rfl) w' hw) hsrc' (by omega) (by omega)
                simp only [Nat.zero_add, List.nil_append] at hcap hrun hrest
                have hbel : Below w.heap.size w (w.drew.alloc (.cells vs et)) := (below_drew w).alloc (Nat.le_refl _) _
                have himm : ∀ b', Imm A0 w0 μ w b' → Imm A0 w0 ((μ.upd (.l t) w.heap.size).setCap t cap) (w.drew.alloc (.cells vs et)) b' := fun b' hb' => imm_cap.2 (imm_upd (w := w.drew) hb')
                refine fin _ _ ((μ.upd (.l t) w.heap.size).setCap t cap) hbel.size (hbel.mono hs.mem.below.size) (fun k hk _ => hbel.block k hk) (fun x hx => by simp only [Mu.upd, Mu.setCap]; rw [if_neg hx]) (fun s hs' => by simp only [Mu.upd, Mu.setCap]; rw [if_neg hs']) rfl
                  (fun b' hb' => by simp [Mu.upd, Mu.setCap] at hb'; subst hb'; exact ⟨hs.mem.below.size, by simp, .inr (Nat.le_refl _)⟩) ?_ (fun e8 b' hb' => by simp [Mu.upd, Mu.setCap] at hb'; subst hb'; exact ⟨vs, by rw [← hu8 e8]; exact heap_alloc_new w.drew _⟩) rfl (.inr ⟨w.heap.size, by simp [Mu.upd, Mu.setCap], by simp [hnil, Mu.setCap]⟩) hrun
                refine .inr ⟨w.heap.size, vs, by simp [Mu.upd, Mu.setCap], ⟨et, heap_alloc_new w.drew _⟩, by simp [Mu.setCap, Mu.upd, hvs, hsz], by simp [Mu.setCap, Mu.upd, hnil, hcap], news, rest, hrest, ?_⟩
                simp only [hnil, List.nil_append]
                exact hr.imp fun x u hx => hx.mono himm fun b' hb' => hbel.block b' hb'.2.1
            · rw [show (cx A0 w0 st.recs st.lsts w μ).μ.at_ (.l t) = μ.at_ (.l t) from rfl, hb] at hnone; cases hnone
          · rcases hwhole with ⟨h3, _⟩ | ⟨b', hb', rfl⟩
            · rw [show (cx A0 w0 st.recs st.lsts w μ).μ.at_ (.l t) = μ.at_ (.l t) from rfl, h3] at hb; cases hb
            · rw [show (cx A0 w0 st.recs st.lsts w μ).μ.at_ (.l t) = μ.at_ (.l t) from rfl, hb'] at hb; cases hb
              have hcsz' : cs.size = μ.cap t * o.e.size := hcsz
              have hcap' : o.xs.length ≤ μ.cap t := hcap
              have hul := hxs.length (sz := o.e.size) fun x u h => h.length
              have hnl := hr.length (sz := o.e.size) fun x u h => h.length
              have hown' : Own w b cs := hown
              by_cases hroom : o.xs.length + ys.length ≤ μ.cap t
              · obtain ⟨el, hel⟩ := hown'
                have hfit : us.length + news.length ≤ cs.size := by
                  rw [hcsz', hul, hnl, ← Nat.add_mul]; exact Nat.mul_le_mul_right _ hroom
                have hst := run_storeCells_at P b us.length el news 0 cs w hel (by simpa using hfit) hsrc.one
                simp only [Nat.add_zero] at hst
                have hcl : cs.toList.length = us.length + rest.length := by rw [e1]; simp
                have hcs' : cs.toList.take us.length ++ news ++ cs.toList.drop (us.length + news.length) = us ++ news ++ rest.drop news.length := by
                  rw [e1, List.take_left, List.drop_append, List.drop_of_length_le (l := us) (by omega), List.nil_append, Nat.add_sub_cancel_left]
                rw [hcs'] at hst
                have hrun : (Builtin.append_ #[sT, xT] ty #[.slice (some ⟨b, 0, none⟩) o.xs.length (μ.cap t), vx]).run P w = .ok (.slice (some ⟨b, 0, none⟩) (o.xs.length + ys.length) (μ.cap t)) (w.setRow b (us ++ news ++ rest.drop news.length).toArray) := by
                  have hmul : o.xs.length * inf.size = us.length := by rw [hul, hsz]
                  rcases hsrc'.kind with ⟨e', hk⟩ | hk <;> simp [Builtin.append_, run_underlying hu, run_underlying hk, sizeOf, typeInfo, hinf, hsrc'.len, hroom, hsrc'.cells, hmul, add_addr, hst]
                refine fin _ _ μ (by rw [setRow_size]; exact Nat.le_refl _) (Below.setRow (Below.refl _ _) (hs.mem.live _ _ hb').1 _) (fun k hk hne => setRow_other w b _ fun e => hne (by rw [e]; exact hb')) (fun _ _ => rfl) (fun _ _ => rfl) rfl
                  (fun b2 hb2 => ⟨(hs.mem.live _ _ hb2).1, by rw [setRow_size]; exact (hs.mem.live _ _ hb2).2.1, .inl hb2⟩) ?_ (fun e8 b2 hb2 => by obtain ⟨v2, h2⟩ := hs.mem.bty.l t o ho e8 b2 hb2; exact row_kept h2) rfl (.inr ⟨b, hb', by rw [List.length_append]⟩) hrun
                refine .inr ⟨b, _, hb', Own.setRow ⟨el, hel⟩ _, ?_, by rw [List.length_append]; exact hroom, us ++ news, rest.drop news.length, rfl, ?_⟩
                · rw [← hcsz', List.size_toArray, List.length_append, List.length_append, List.length_drop]
                  have : cs.toList.length = cs.size := Array.length_toList
                  omega
                · have himm : ∀ {x : o.e.den} {u}, Rep (Imm A0 w0 μ w) w o.e x u → Rep (Imm A0 w0 μ (w.setRow b (us ++ news ++ rest.drop news.length).toArray)) (w.setRow b (us ++ news ++ rest.drop news.length).toArray) o.e x u := fun hx =>
                    hx.mono (fun k hk => imm_setRow.2 hk) fun k hk => setRow_other w b _ fun e => hk.2.2 (.l t) (by rw [e]; exact hb')
                  exact (hxs.imp fun x u hx => himm hx).append (hr.imp fun x u hx => himm hx)
              · have hcellsU : CellsAt w ⟨b, 0, none⟩ us := by
                  have := hown'.cells
                  rw [e1] at this
                  have h2 := this.take us.length
                  rwa [List.take_left] at h2
                have hus' : us.length = o.xs.length * inf.size := by rw [hul, hsz]
                obtain ⟨cap, vs, hcap2, hrun, hvs, rest', hrest⟩ := grow_run (P := P) (w := w) (ty := ty) hu hinf hz hby hzs' (base := some ⟨b, 0, none⟩) (sLen := o.xs.length) (sCap := μ.cap t) hus' (fun w' hw => firstCells_ok (w := w) hus' (.inr ⟨_, rfl, rfl, hcellsU⟩) w' hw) hsrc' (by omega) hn
                have hbel : Below w.heap.size w (w.drew.alloc (.cells vs et)) := (below_drew w).alloc (Nat.le_refl _) _
                have himm : ∀ b', Imm A0 w0 μ w b' → Imm A0 w0 ((μ.upd (.l t) w.heap.size).setCap t cap) (w.drew.alloc (.cells vs et)) b' := fun b' hb' => imm_cap.2 (imm_upd (w := w.drew) hb')
                refine fin _ _ ((μ.upd (.l t) w.heap.size).setCap t cap) hbel.size (hbel.mono hs.mem.below.size) (fun k hk _ => hbel.block k hk) (fun x hx => by simp only [Mu.upd, Mu.setCap]; rw [if_neg hx]) (fun s hs' => by simp only [Mu.upd, Mu.setCap]; rw [if_neg hs']) rfl
                  (fun b' hb' => by simp [Mu.upd, Mu.setCap] at hb'; subst hb'; exact ⟨hs.mem.below.size, by simp, .inr (Nat.le_refl _)⟩) ?_ (fun e8 b' hb' => by simp [Mu.upd, Mu.setCap] at hb'; subst hb'; exact ⟨vs, by rw [← hu8 e8]; exact heap_alloc_new w.drew _⟩) rfl (.inr ⟨w.heap.size, by simp [Mu.upd, Mu.setCap], by simp [Mu.setCap]⟩) hrun
                refine .inr ⟨w.heap.size, vs, by simp [Mu.upd, Mu.setCap], ⟨et, heap_alloc_new w.drew _⟩, by simp [Mu.setCap, Mu.upd, hvs, hsz], by simp [Mu.setCap, Mu.upd, hcap2], us ++ news, rest', hrest, ?_⟩
                exact (hxs.imp fun x u hx => hx.mono himm fun b' hb' => hbel.block b' hb'.2.1).append (hr.imp fun x u hx => hx.mono himm fun b' hb' => hbel.block b' hb'.2.1)
        · cases h
      · cases h
    · cases h
  · rename_i fs
    split at h
    · rename_i he
      simp only [Option.bind_eq_some_iff] at h
      obtain ⟨ys, hys, y, hy, h⟩ := h
      unfold appOk at h
      split at h
      · rename_i hn
        refine ⟨_, _, h, ?_⟩
        obtain rfl : ys = [y] := by
          unfold oneOf at hy
          split at hy
          · cases hy; rfl
          · cases hy
        obtain ⟨news, hsrc, hr⟩ := appArg_src hε hs.mem hys hx
        obtain ⟨u5, u0, rfl, hr5, hr0⟩ := hr
        simp only [RepAll] at hr0
        subst hr0
        rw [List.append_nil] at hsrc
        replace hr5 : Rep (Imm A0 w0 μ w) w .value y u5 := hr5
        have hu5 : u5.length = 5 := Rep.length hr5
        obtain ⟨et, inf, z, hu, hinf, hsz, hby, hz, hzs, hu8⟩ := elemTy_ok hε he
        have hsz5 : inf.size = 5 := hsz
        have hsrc' := hsrc
        rw [← hsz] at hsrc'
        have hzs' := hzs
        rw [← hsz] at hzs'
        simp only [RepAV, RepSX, cx] at hsr
        obtain ⟨cap, hd, rfl, h0⟩ := hsr
        have fin : ∀ (w' : World) (b cap' : Nat) (vs' : Array Value) (pre rest : List Value), w.heap.size ≤ w'.heap.size → Below w0.heap.size w w' → (∀ k, k < w.heap.size → μ.at_ (.n 0) ≠ some k → w'.heap[k]? = w.heap[k]?) →
            w0.heap.size ≤ b → b < w'.heap.size → (μ.at_ (.n 0) = some b ∨ w.heap.size ≤ b) → Own w' b vs' → vs'.size = cap' * 5 → fs.length + 1 ≤ cap' → FramesAt (cx A0 w0 st.recs st.lsts w μ) 0 fs pre → vs'.toList = pre ++ (u5 ++ rest) →
            (Builtin.append_ #[sT, xT] ty #[hdrV μ fs.length cap, vx]).run P w = .ok (.slice (some ⟨b, 0, none⟩) (fs.length + 1) cap') w' →
            ∃ v w', (Builtin.append_ #[sT, xT] ty #[hdrV μ fs.length cap, vx]).run P w = .ok v w' ∧ Post A0 w0 tmps (.sx (.foc st.recs.length fs)) { st with slots := killSL st.slots, recs := killSR st.recs ++ [some (.sx .mark :: unpack .value y)] } v w' := by
          intro w' b cap' vs' pre rest g1 g2 g3 g4 g5 g6 g7 g8 g9 g10 g11 hrun
          obtain ⟨hm', hle⟩ := hs.mem.grown hd (c5 := unpack .value y) g1 g2 g3 g4 g5 g6 g7 g8 g9 g10 g11 hu5 fun c' hA hw => by
            have h5 : Rep c'.A c'.w .value y u5 := Rep.mono (t := .value) (x := y) (vs := u5) hA hw hr5
            exact unpack_rep (t := .value) (x := y) h5
          refine ⟨_, w', hrun, μ.push b st.recs.length cap' fs, ?_, ?_, ?_⟩
          · simp only [RepAV, RepSX, cx]
            exact ⟨cap', b, rfl, by simp [Mu.push], rfl, g9⟩
          · have h6 := hs.slots.mapS (f := fun _ => .dead) hle fun _ _ _ => by simp only [RepAV]
            rw [← killSL_map, ← killSR_map] at h6
            exact h6
          · rw [killSR_map]; exact hm'
        have hdeep := hs.mem.deep _ hd
        rcases hdeep.row with ⟨hnone, hnil, _⟩ | ⟨b, cs, pre, rest, hb, hown, hcsz, hcap, e1, hfr⟩
        · replace hnone : μ.at_ (.n 0) = none := hnone
          replace hnil : fs = [] := hnil
          subst hnil
          obtain ⟨cap', vs, hcap', hrun, hvs, rest, hrest⟩ := grow_run (P := P) (w := w) (ty := ty) hu hinf hz hby hzs' (olds := []) (base := none) (sLen := 0) (sCap := 0) (by simp) (fun w' hw => firstCells_ok (w := w) (by simp) (.inl rfl) w' hw) hsrc' (by simp) (by simp)
          simp only [Nat.zero_add, List.nil_append] at hcap' hrun hrest
          have hbel : Below w.heap.size w (w.drew.alloc (.cells vs et)) := (below_drew w).alloc (Nat.le_refl _) _
          refine fin _ w.heap.size cap' vs [] rest hbel.size (hbel.mono hs.mem.below.size) (fun k hk _ => hbel.block k hk) hs.mem.below.size (by simp) (.inr (Nat.le_refl _)) ⟨et, heap_alloc_new w.drew _⟩ (by rw [hvs, hsz5]) (by simpa using hcap') rfl (by rw [hrest]; rfl) ?_
          have hh : hdrV μ ([] : List V).length cap = .slice none 0 0 := by unfold hdrV; rw [hnone]
          rw [hh]; simpa using hrun
        · replace hb : μ.at_ (.n 0) = some b := hb
          replace hown : Own w b cs := hown
          replace hcsz : cs.size = cap * 5 := hcsz
          replace hcap : fs.length ≤ cap := by simpa using hcap
          have hh : hdrV μ fs.length cap = .slice (some ⟨b, 0, none⟩) fs.length cap := by unfold hdrV; rw [hb]
          have hpl : pre.length = fs.length * 5 := hfr.length
          by_cases hroom : fs.length + 1 ≤ cap
          · obtain ⟨el, hel⟩ := hown
            have hfit : pre.length + u5.length ≤ cs.size := by omega
            have hst := run_storeCells_at P b pre.length el u5 0 cs w hel (by simpa using hfit) hsrc.one
            simp only [Nat.add_zero] at hst
            have hcl : cs.toList.length = pre.length + rest.length := by rw [e1]; simp
            have hcs' : cs.toList.take pre.length ++ u5 ++ cs.toList.drop (pre.length + u5.length) = pre ++ u5 ++ rest.drop u5.length := by
              rw [e1, List.take_left, List.drop_append, List.drop_of_length_le (l := pre) (by omega), List.nil_append, Nat.add_sub_cancel_left]
            rw [hcs'] at hst
            have hrun : (Builtin.append_ #[sT, xT] ty #[.slice (some ⟨b, 0, none⟩) fs.length cap, vx]).run P w = .ok (.slice (some ⟨b, 0, none⟩) (fs.length + 1) cap) (w.setRow b (pre ++ u5 ++ rest.drop u5.length).toArray) := by
              have hmul : fs.length * inf.size = pre.length := by rw [hpl, hsz5]
              have hlen := hsrc'.len
              simp only [List.length_singleton] at hlen
              have hcc := hsrc'.cells
              simp only [List.length_singleton] at hcc
              rcases hsrc'.kind with ⟨e', hk⟩ | hk <;> simp [Builtin.append_, run_underlying hu, run_underlying hk, sizeOf, typeInfo, hinf, hlen, hroom, hcc, hmul, add_addr, hst]
            refine fin (w.setRow b (pre ++ u5 ++ rest.drop u5.length).toArray) b cap (pre ++ u5 ++ rest.drop u5.length).toArray pre (rest.drop u5.length) (by rw [setRow_size]; exact Nat.le_refl _) (Below.setRow (Below.refl _ _) (hs.mem.live _ _ hb).1 _) (fun k hk hne => setRow_other w b _ fun e => hne (by rw [e]; exact hb)) (hs.mem.live _ _ hb).1 (by rw [setRow_size]; exact (hs.mem.live _ _ hb).2.1) (.inl hb) (Own.setRow (vs := cs) ⟨el, hel⟩ _) ?_ hroom hfr (by simp) (by rw [hh]; exact hrun)
            rw [← hcsz, List.size_toArray, List.length_append, List.length_append, List.length_drop]
            have : cs.toList.length = cs.size := Array.length_toList
            omega
          · have hcellsU : CellsAt w ⟨b, 0, none⟩ pre := by
              have := hown.cells
              rw [e1] at this
              have h2 := this.take pre.length
              rwa [List.take_left] at h2
            have hus' : pre.length = fs.length * inf.size := by rw [hpl, hsz5]
            obtain ⟨cap', vs, hcap2, hrun, hvs, rest', hrest⟩ := grow_run (P := P) (w := w) (ty := ty) hu hinf hz hby hzs' (base := some ⟨b, 0, none⟩) (sLen := fs.length) (sCap := cap) hus' (fun w' hw => firstCells_ok (w := w) hus' (.inr ⟨_, rfl, rfl, hcellsU⟩) w' hw) hsrc' (by simp; omega) (by simpa using hn)
            have hbel : Below w.heap.size w (w.drew.alloc (.cells vs et)) := (below_drew w).alloc (Nat.le_refl _) _
            refine fin _ w.heap.size cap' vs pre rest' hbel.size (hbel.mono hs.mem.below.size) (fun k hk _ => hbel.block k hk) hs.mem.below.size (by simp) (.inr (Nat.le_refl _)) ⟨et, heap_alloc_new w.drew _⟩ (by rw [hvs, hsz5]) (by simpa using hcap2) hfr (by rw [hrest, List.append_assoc]) ?_
            rw [hh]; simpa using hrun
      · cases h
    · cases h
  · cases h
end
end Go.Pe
