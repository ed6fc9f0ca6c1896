/- Each operation comes to what the evaluator tells. -/
import Derived.Test.YtgghmllnhaahgaaPeHandS
namespace Go.Pe
open Go.RowKit
set_option linter.unusedSectionVars false
variable [GI]
set_option linter.unusedSimpArgs false
set_option linter.unusedVariables false

section
variable {P : Program} {A0 : Dom} {w0 w : World} {st : St} {a : Act} {μ : Mu} {S : Type}
variable {ε : Env} (hε : EnvOk P ε)
include hε

theorem evOp_sound (hs : Sim A0 w0 st a.tmps w μ) (o : Oper) (K : AV → St → Option S) (r : S) (h : evOp ε st o K = some r) : ∃ av st', K av st' = some r ∧ OpOk P A0 w0 o a w av st' := by
  obtain ⟨dst, op, type, pos, after, guard⟩ := o
  cases op <;> simp only [evOp] at h <;> try (cases h; done)
  case move x => exact ⟨_, _, h, OpOk.same hs (v := a.eval x) (by simp [execOp]) (ev_rep hs.slots x)⟩
  case assign x => exact ⟨_, _, h, OpOk.same hs (v := a.eval x) (by simp [execOp]) (ev_rep hs.slots x)⟩
  case pick c x y =>
    split at h
    · rename_i t hc
      have hcr := ev_rep hs.slots c
      rw [hc] at hcr
      simp only [RepAV, Rep, List.cons.injEq, and_true] at hcr
      cases t
      · exact ⟨_, _, h, OpOk.same hs (v := a.eval y) (by simp [execOp, hcr, asBool]) (ev_rep hs.slots y)⟩
      · exact ⟨_, _, h, OpOk.same hs (v := a.eval x) (by simp [execOp, hcr, asBool]) (ev_rep hs.slots x)⟩
    · cases h
  case alloc t =>
    split at h
    · rename_i i hi
      obtain ⟨v, w', hrun, hp⟩ := alloc_run hε hs hi
      exact ⟨_, _, h, OpOk.run (by simp [execOp, hrun]) hp⟩
    · cases h
  case box t x =>
    split at h
    · rename_i i hi
      split at h
      · rename_i hc
        obtain ⟨v, w', hrun, hp⟩ := box_run (P := P) (t := t) hε hs hi (ev_rep hs.slots x) hc.2
        exact ⟨_, _, h, OpOk.run (by simp [execOp, hrun]) hp⟩
      · cases h
    · cases h
  case build t parts =>
    obtain ⟨av, v, hK, hrun, hp⟩ := build_run (P := P) (w := w) hε rfl (parts := parts.toList.map fun p => (p.1, st.ev p.2)) (vs := parts.map fun (i, x) => (i, a.eval x)) (by simp) (fun i h h' => by
      simp only [List.getElem_map, Array.toList_map]
      exact ⟨trivial, ev_rep hs.slots _⟩) _ r h
    exact ⟨_, _, hK, OpOk.same hs (by simp [execOp, hrun]) hp⟩
  case buildSlice t n parts =>
    obtain ⟨av, st', hK, v, w', hrun, hp⟩ := buildSlice_run hε hs K r h
    exact ⟨_, _, hK, OpOk.run (by simp [execOp, hrun]) hp⟩
  case load t x =>
    obtain ⟨av, v, hK, hrun, hp⟩ := load_run (P := P) hε rfl hs.mem (ev_rep hs.slots x) _ r h
    exact ⟨_, _, hK, OpOk.same hs (by simp [execOp, hrun]) hp⟩
  case store t x y =>
    obtain ⟨st', hK, w', μ', hrun, hsim⟩ := store_run hε hs _ r h
    refine ⟨_, _, hK, fun ρ n next Q hn => ?_⟩
    refine ⟨fun f _ => trivial, ?_⟩
    have : (execOp a.eval ⟨dst, .store t x y, type, pos, after, guard⟩).run P w = .ok .skip w' := by simp [execOp, hrun]
    rw [Oper.semAt_eq _ _ _ (by intro c h; cases h), this]
    exact hn undef w' ⟨μ', by simp only [RepAV], hsim⟩
  case nilCheck x =>
    have hx := ev_rep hs.slots x
    split at h
    · rename_i r' off he
      rw [he] at hx
      split at h
      · rename_i hl
        simp only [RepAV, cx] at hx
        obtain ⟨b, hb, hv⟩ := hx.2.2 hl
        exact ⟨_, _, h, OpOk.same hs (v := a.eval x) (by simp [execOp, hv]) (by rw [← he]; exact ev_rep hs.slots x)⟩
      · cases h
    · rename_i l he
      rw [he] at hx
      simp only [RepAV, cx] at hx
      obtain ⟨ad, us, hv, _⟩ := hx
      exact ⟨_, _, h, OpOk.same hs (v := a.eval x) (by simp [execOp, hv]) (by rw [← he]; exact ev_rep hs.slots x)⟩
    · rename_i t i off he
      rw [he] at hx
      split at h
      · rename_i hl
        simp only [RepAV, cx] at hx
        obtain ⟨o', ho'⟩ := Option.isSome_iff_exists.1 hl
        obtain ⟨b, hb, hv⟩ := hx.2.2 o' ho'
        exact ⟨_, _, h, OpOk.same hs (v := a.eval x) (by simp [execOp, hv]) (by rw [← he]; exact ev_rep hs.slots x)⟩
      · cases h
    · rename_i y he
      rw [he] at hx
      split at h
      · rename_i r' off
        simp only [RepAV, RepSX, cx] at hx
        obtain ⟨cap, fs, b, _, _, hv⟩ := hx
        exact ⟨_, _, h, OpOk.same hs (v := a.eval x) (by simp [execOp, hv]) (by rw [← he]; exact ev_rep hs.slots x)⟩
      · cases h
    · rename_i f a1 a2 he
      rw [he] at hx
      split at h
      · rename_i ff
        simp only [RepAV, cx] at hx
        obtain ⟨a', b', hv, _⟩ := hx
        exact ⟨_, _, h, OpOk.same hs (v := a.eval x) (by simp [execOp, hv]) (by rw [← he]; exact ev_rep hs.slots x)⟩
      · cases h
    · cases h
  case binOp op xT x y yT =>
    obtain ⟨av, v, hK, hrun, hp⟩ := bin_run (P := P) (w := w) hε op xT (ev_rep hs.slots x) (ev_rep hs.slots y) x y _ r h
    exact ⟨_, _, hK, OpOk.same hs (v := v) (by simp only [execOp, Sem.run_bind, hrun]; rfl) hp⟩
  case unOp op xT x =>
    obtain ⟨av, v, hK, hrun, hp⟩ := un_run (P := P) (w := w) op (ev_rep hs.slots x) _ r h
    exact ⟨_, _, hK, OpOk.same hs (v := v) (by simp [execOp, hrun]) hp⟩
  case convert src dst' x =>
    obtain ⟨av, v, w', hK, hrun, hbel, hp⟩ := conv_run (P := P) hε rfl hs.mem (ev_rep hs.slots x) _ r h
    exact ⟨_, _, hK, OpOk.run (v := v) (by simp [execOp, hrun]) ⟨μ, hp, hs.ext hbel⟩⟩
  case makeFunc f x y =>
    exact ⟨_, _, h, OpOk.same hs (v := .func f (x.map a.eval) (y.map a.eval)) (by simp [execOp, Instr.makeFunc]) (by
      simp only [RepAV]
      exact ⟨_, _, rfl, by rw [Array.toList_map]; exact evs_rep hs.slots _, by rw [Array.toList_map]; exact evs_rep hs.slots _⟩)⟩
  case makeInterface t x =>
    have fin : ∀ i, ε.ti t = some i → (∀ ms, i.desc ≠ .interface ms) → K (.ifc t [st.ev x]) st = some r → ∃ av st', K av st' = some r ∧ OpOk P A0 w0 ⟨dst, .makeInterface t x, type, pos, after, guard⟩ a w av st' := fun i hi hne h => by
      have hu := (hε.ti t i hi).under
      refine ⟨_, _, h, OpOk.same hs (v := .iface t (a.eval x)) ?_ ?_⟩
      · have hm : (Instr.makeInterface t (a.eval x)).run P w = .ok (.iface t (a.eval x)) w := by
          unfold Instr.makeInterface
          simp only [Sem.run_bind, run_underlying hu, Result.andThen_ok]
          first
          | rfl
          | (split
             · rename_i ms hms; exact absurd hms (hne ms)
             · rfl)
        simp [execOp, hm]
      · simp only [RepAV]
        exact ⟨_, rfl, RepAVs.one (ev_rep hs.slots x)⟩
    split at h
    · rename_i i hi
      split at h <;> first | (rename_i hd; exact fin i hi (by intro ms e; rw [hd] at e; cases e) h) | (rename_i hd; exact fin i hi (by intro e; rw [hd] at e; cases e) h) | cases h
    · cases h
  case makeSlice t l c =>
    obtain ⟨av, st', hK, v, w', hrun, hp⟩ := make_run' (P := P) hε hs (ev_rep hs.slots l) (ev_rep hs.slots c) K r h
    exact ⟨_, _, hK, OpOk.run (by simp [execOp, hrun]) hp⟩
  case slice t x lo hi mx =>
    obtain ⟨av, v, hK, hrun, hp⟩ := slice_run (P := P) hε (ev_rep hs.slots x) (optRep hs.slots lo) (optRep hs.slots hi) (optRep hs.slots mx) rfl _ r h
    exact ⟨_, _, hK, OpOk.same hs (by simp only [execOp, Sem.run_bind]; rw [show (Instr.sliceAt t (a.eval x) (lo.map a.eval) (hi.map a.eval) (mx.map a.eval)).run P w = .ok v w from hrun]; rfl) hp⟩
  case fieldAddr t x f =>
    obtain ⟨av, v, hK, hrun, hp⟩ := fieldAddr_run (P := P) (w := w) (c := cx A0 w0 st.recs st.lsts w μ) hε rfl rfl (ev_rep hs.slots x) rfl _ r h
    exact ⟨_, _, hK, OpOk.same hs (by simp [execOp, hrun]) hp⟩
  case field t x f =>
    obtain ⟨av, v, hK, hrun, hp⟩ := field_run (P := P) (w := w) hε (ev_rep hs.slots x) _ r h
    exact ⟨_, _, hK, OpOk.same hs (by simp [execOp, hrun]) hp⟩
  case indexAddr t x i =>
    obtain ⟨av, v, hK, hrun, hp⟩ := indexAddr_run (P := P) (w := w) (c := cx A0 w0 st.recs st.lsts w μ) hε rfl (fun t o h => hs.mem.hlst t o h) (ev_rep hs.slots x) (ev_rep hs.slots i) rfl _ r h
    exact ⟨_, _, hK, OpOk.same hs (by simp [execOp, hrun]) hp⟩
  case index t x i =>
    obtain ⟨av, v, hK, hrun, hp⟩ := index_run (P := P) (w := w) hε (ev_rep hs.slots x) (ev_rep hs.slots i) _ r h
    exact ⟨_, _, hK, OpOk.same hs (by simp [execOp, hrun]) hp⟩
  case extract x i =>
    split at h
    · rename_i l he
      split at h
      · rename_i v hv
        have hx := ev_rep hs.slots x
        rw [he] at hx
        simp only [RepAV] at hx
        obtain ⟨us, hus, hu⟩ := hx
        obtain ⟨v', hv', hr'⟩ := hu.get i v hv
        refine ⟨_, _, h, OpOk.same hs (v := v') ?_ hr'⟩
        have : us[i]? = some v' := by simpa using hv'
        simp [execOp, hus, Instr.extract, this]
      · cases h
    · cases h
  case call c =>
    obtain ⟨callee, args, argTypes⟩ := c
    simp only at h
    split at h
    · -- len
      split at h
      · rename_i t x hts hxs
        have e1 : argTypes = #[t] := by apply Array.ext'; simpa using hts
        have e2 : args = #[x] := by apply Array.ext'; simpa using hxs
        subst e1; subst e2
        obtain ⟨av, v, hK, hrun, hp⟩ := len_run (P := P) (w := w) (c := cx A0 w0 st.recs st.lsts w μ) hε (ts := #[t]) rfl type rfl (fun t o h => hs.mem.hlst t o h) (ev_rep hs.slots x) _ r h
        exact ⟨_, _, hK, OpOk.same hs (v := v) (by simp [execOp, resolve, invoke, builtin, hrun]) hp⟩
      · cases h
    · split at h
      · rename_i t u s x hts hxs
        have e1 : argTypes = #[t, u] := by apply Array.ext'; simpa using hts
        have e2 : args = #[s, x] := by apply Array.ext'; simpa using hxs
        subst e1; subst e2
        obtain ⟨av, st', hK, v, w', hrun, hp⟩ := append_run (P := P) (ty := type) hε hs (ev_rep hs.slots s) (ev_rep hs.slots x) K r h
        exact ⟨_, _, hK, OpOk.run (v := v) (by simp [execOp, resolve, invoke, builtin, hrun]) hp⟩
      · cases h
    · split at h
      · rename_i x y hxs
        have e2 : args = #[x, y] := by apply Array.ext'; simpa using hxs
        subst e2
        unfold evMin at h
        split at h
        · rename_i k m k' n h1 h2
          have hx := ev_rep hs.slots x
          have hy := ev_rep hs.slots y
          rw [h1] at hx; rw [h2] at hy
          simp only [RepAV, Rep, List.cons.injEq, and_true] at hx hy
          exact ⟨_, _, h, OpOk.same hs (v := .int k (minI m n)) (by simp [execOp, resolve, invoke, builtin, hx, hy, Builtin.min_, Builtin.min2, minI_eq]) (by simp only [RepAV, Rep])⟩
        · cases h
      · cases h
    · split at h
      · rename_i x y hxs
        have e2 : args = #[x, y] := by apply Array.ext'; simpa using hxs
        subst e2
        unfold evMax at h
        split at h
        · rename_i k m k' n h1 h2
          have hx := ev_rep hs.slots x
          have hy := ev_rep hs.slots y
          rw [h1] at hx; rw [h2] at hy
          simp only [RepAV, Rep, List.cons.injEq, and_true] at hx hy
          exact ⟨_, _, h, OpOk.same hs (v := .int k (maxI m n)) (by simp [execOp, resolve, invoke, builtin, hx, hy, Builtin.max_, Builtin.max2, maxI_eq]) (by simp only [RepAV, Rep])⟩
        · cases h
      · cases h
    · rename_i g
      split at h
      · rename_i f pre post hg
        have hgr := ev_rep hs.slots g
        rw [hg] at hgr
        simp only [RepAV] at hgr
        obtain ⟨a', b', hv, hpre, hpost⟩ := hgr
        have fin : ∀ {av st'}, K av st' = some r → (∃ fn, P.funcs[f]? = some fn ∧ (fn.name == "runtime.NumGoroutine") = false ∧ fn.body.isSome = true) →
            (Calls P f (a'.toList ++ args.toList.map a.eval ++ b'.toList).toArray w fun e w' => ∃ v, e = .returned v ∧ Post A0 w0 a.tmps av st' v w') → ∃ av st', K av st' = some r ∧ OpOk P A0 w0 ⟨dst, .call ⟨.value g, args, argTypes⟩, type, pos, after, guard⟩ a w av st' := by
          intro av st' hK ⟨fn, hf, hnm, hbody⟩ hcalls
          refine ⟨_, _, hK, fun ρ n next Q hn => ?_⟩
          obtain ⟨code, hcode⟩ := Option.isSome_iff_exists.1 hbody
          have hrun : (execOp a.eval ⟨dst, .call ⟨.value g, args, argTypes⟩, type, pos, after, guard⟩).run P w = .ok (.enter f (a' ++ args.map a.eval ++ b')) w := by
            have hnm' : ¬ fn.name = "runtime.NumGoroutine" := by simpa using hnm
            simp [execOp, resolve, hv, Deferred.ofValue, invoke, callFunc, program, Sem.run, hf, hnm', hcode]
          refine ⟨fun f _ => trivial, ?_⟩
          rw [Oper.semAt_eq _ _ _ (by intro c h; cases h), hrun, Oper.uponIn_enter]
          refine ⟨fun h => (by simp [Fr, Fence.wide] at h), ?_⟩
          have e3 : (a'.toList ++ args.toList.map a.eval ++ b'.toList).toArray = a' ++ args.map a.eval ++ b' := by apply Array.ext'; simp
          rw [e3] at hcalls
          refine (callsIn_fr hcalls).mono fun e w' ⟨v, he, hp⟩ => ?_
          subst he
          exact hn v w' hp
        split at h
        · obtain ⟨av, st', hK, hfn, hcalls⟩ := call_run (P := P) hε hs hpre hpost K r h
          exact fin hK hfn hcalls
        · obtain ⟨av, st', hK, hfn, hcalls⟩ := hand_run hε hs hv K r (ε.hf f) (hε.hf f) h
          exact fin hK hfn hcalls
      · cases h
    · cases h

theorem evOpZ_sound (hs : Sim A0 w0 st a.tmps w μ) (o : Oper) (K Z : AV → St → Option S) (r : S) (h : evOpZ ε st o K Z = some r) :
    (∃ av st', K av st' = some r ∧ OpOk P A0 w0 o a w av st') ∨ (∃ av st', Z av st' = some r ∧ OpPan P A0 w0 o a w av st') := by
  have std : evOp ε st o K = some r → (∃ av st', K av st' = some r ∧ OpOk P A0 w0 o a w av st') ∨ (∃ av st', Z av st' = some r ∧ OpPan P A0 w0 o a w av st') := fun h => .inl (evOp_sound hε hs o K r h)
  obtain ⟨dst, op, type, pos, after, guard⟩ := o
  unfold evOpZ at h
  split at h
  · rename_i x hop
    simp only at hop
    subst hop
    split at h
    · rename_i q l hx
      have hr := ev_rep hs.slots x
      rw [hx] at hr
      refine .inr ⟨_, _, h, fun ρ n next Q hQ => ?_⟩
      obtain ⟨u, hu, hl⟩ : ∃ u, a.eval x = .iface q u ∧ RepAVs (cx A0 w0 st.recs st.lsts w μ) l [u] := by simpa only [RepAV] using hr
      refine ⟨fun f _ => trivial, ?_⟩
      have hrun : (execOp a.eval ⟨dst, .panic x, type, pos, after, guard⟩).run P w = .halt (.panic (.iface q u)) w := by
        unfold execOp
        dsimp only
        rw [hu]
        rfl
      rw [Oper.semAt_eq _ _ _ (by intro c h; cases h), hrun, Oper.uponIn_panic]
      exact hQ _ _ ⟨μ, hu ▸ hr, hs⟩
    · cases h
  · rename_i c hop
    simp only at hop
    subst hop
    obtain ⟨callee, args, argTypes⟩ := c
    split at h
    · rename_i g hcal
      simp only at hcal
      subst hcal
      split at h
      · rename_i f pre post hg
        split at h
        · split at h
          · rename_i htop
            have hgr := ev_rep hs.slots g
            rw [hg] at hgr
            simp only [RepAV] at hgr
            obtain ⟨a', b', hv, hpre, hpost⟩ := hgr
            obtain ⟨⟨fn, hf, hnm, hbody⟩, htf⟩ := hε.top f htop
            have hcall : (execOp a.eval ⟨dst, .call ⟨.value g, args, argTypes⟩, type, pos, after, guard⟩).run P w = .ok (.enter f (a' ++ args.map a.eval ++ b')) w := by
              obtain ⟨code, hcode⟩ := Option.isSome_iff_exists.1 hbody
              have hnm' : ¬ fn.name = "runtime.NumGoroutine" := by simpa using hnm
              simp [execOp, resolve, hv, Deferred.ofValue, invoke, callFunc, program, Sem.run, hf, hnm', hcode]
            simp only [callArgs, hg] at h
            have e3 : (a'.toList ++ args.toList.map a.eval ++ b'.toList).toArray = a' ++ args.map a.eval ++ b' := by apply Array.ext'; simp
            have hl : RepAVs (cx A0 w0 st.recs st.lsts w μ) (pre ++ args.toList.map st.ev ++ post) (a'.toList ++ args.toList.map a.eval ++ b'.toList) := (hpre.append (evs_rep hs.slots args.toList)).append hpost
            rw [← e3] at hcall
            generalize pre ++ args.toList.map st.ev ++ post = l at h hl
            generalize a'.toList ++ args.toList.map a.eval ++ b'.toList = vl at hcall hl
            unfold evTop at h
            split at h
            · rename_i q off
              split at h
              · rename_i r' fs hcell
                unfold appOk at h
                split at h
                · rename_i hn
                  obtain ⟨pv, hpv, hp⟩ := hl.one'
                  subst hpv
                  simp only [RepAV, cx] at hp
                  obtain ⟨hql, _, hpo⟩ := hp
                  unfold cellAt at hcell
                  split at hcell
                  · rename_i c' hc'
                    split at hcell
                    · cases hcell
                    · rename_i hmk
                      split at hcell
                      · rename_i x' hx'
                        cases hcell
                        obtain ⟨b2, vs, hb2, hown, hvs⟩ := hs.mem.hrec q c' hc' hmk
                        obtain ⟨u, hu, hur⟩ := hvs.get off _ hx'
                        simp only [RepAV, RepSX, cx] at hur
                        obtain ⟨cap, bS, hd, hbS, rfl, hcap⟩ := hur
                        obtain ⟨b3, hb3, hpe⟩ := hpo (by rw [hc']; rfl)
                        replace hb2 : μ.at_ (.r q) = some b2 := hb2
                        rw [hb3] at hb2; cases hb2
                        subst hpe
                        obtain ⟨el, hw⟩ := hown
                        have hcl : w.cell? ⟨b2, off, none⟩ = some (.slice (some ⟨bS, 0, none⟩) (fs.length + 1) cap) := by
                          have hw' : w.heap[b2]? = some (Obj.cells vs el (0, 0)) := hw
                          have hu' : vs[off]? = some (.slice (some ⟨bS, 0, none⟩) (fs.length + 1) cap) := by rw [← hu]; simp
                          simp [World.cell?, hw', hu']
                        refine .inl ⟨_, _, h, fun ρ n next Q hnx => ?_⟩
                        refine ⟨fun f _ => trivial, ?_⟩
                        rw [Oper.semAt_eq _ _ _ (by intro c h; cases h), hcall, Oper.uponIn_enter]
                        refine ⟨fun h => (by simp [Fr, Fence.wide] at h), ?_⟩
                        refine (callsIn_fr (htf w b2 off bS fs.length cap (by omega) hcl)).mono fun e w' ⟨he, hbl⟩ => ?_
                        subst he
                        refine hnx _ w' ⟨μ, ?_, hs.ext hbl⟩
                        simp only [RepAV, RepSX, cx]
                        exact ⟨cap, fs, bS, hd, hbS, by simp⟩
                      · cases hcell
                  · cases hcell
                · cases h
              · cases h
            · cases h
          · exact std h
        · rename_i hf l hpf
          have hgr := ev_rep hs.slots g
          rw [hg] at hgr
          simp only [RepAV] at hgr
          obtain ⟨a', b', hv, hpre, hpost⟩ := hgr
          have hcall : ∀ {fn : Func} (_ : P.funcs[f]? = some fn) (_ : (fn.name == "runtime.NumGoroutine") = false) (_ : fn.body.isSome = true),
              (execOp a.eval ⟨dst, .call ⟨.value g, args, argTypes⟩, type, pos, after, guard⟩).run P w = .ok (.enter f (a' ++ args.map a.eval ++ b')) w := by
            intro fn hf hnm hbody
            obtain ⟨code, hcode⟩ := Option.isSome_iff_exists.1 hbody
            have hnm' : ¬ fn.name = "runtime.NumGoroutine" := by simpa using hnm
            simp [execOp, resolve, hv, Deferred.ofValue, invoke, callFunc, program, Sem.run, hf, hnm', hcode]
          have e3 : (a'.toList ++ args.toList.map a.eval ++ b'.toList).toArray = a' ++ args.map a.eval ++ b' := by apply Array.ext'; simp
          obtain ⟨av, st', ⟨fn, hfn, hnm, hbody⟩, hor⟩ := handP_run hε hs hv K Z r _ (fun h hh => hε.pf f h (by rw [hpf]; exact hh)) h
          rw [e3] at hor
          rcases hor with ⟨hK, hcalls⟩ | ⟨hK, hcalls⟩
          · refine .inl ⟨_, _, hK, fun ρ n next Q hn => ?_⟩
            refine ⟨fun f _ => trivial, ?_⟩
            rw [Oper.semAt_eq _ _ _ (by intro c h; cases h), hcall hfn hnm hbody, Oper.uponIn_enter]
            refine ⟨fun h => (by simp [Fr, Fence.wide] at h), ?_⟩
            refine (callsIn_fr hcalls).mono fun e w' ⟨v, he, hp⟩ => ?_
            subst he
            exact hn v w' hp
          · refine .inr ⟨_, _, hK, fun ρ n next Q hn => ?_⟩
            refine ⟨fun f _ => trivial, ?_⟩
            rw [Oper.semAt_eq _ _ _ (by intro c h; cases h), hcall hfn hnm hbody, Oper.uponIn_enter]
            refine ⟨fun h => (by simp [Fr, Fence.wide] at h), ?_⟩
            refine (callsIn_fr hcalls).mono fun e w' ⟨v, he, hp⟩ => ?_
            subst he
            exact hn v w' hp
      · exact std h
    · exact std h
  · exact std h
end
end Go.Pe
