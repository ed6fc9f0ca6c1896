/- A region that draws its order: in every order. -/
import Derived.Test.YtgghmllnhaahgaaPeDraw2
import Derived.OrdersIn
namespace Go.Pe
open Go.RowKit
set_option linter.unusedSectionVars false
variable [GI]
set_option linter.unusedSimpArgs false
set_option linter.unusedVariables false

theorem ancAt_mem {i m : Nat} : ∀ {done : List It}, ancAt done i = some m → ∃ z ∈ done, z.idx = i ∧ z.anc = m
  | y :: r, h => by
    simp only [ancAt] at h
    split at h
    · rename_i e
      cases h
      exact ⟨y, .head _, by simpa using e, rfl⟩
    · obtain ⟨z, hz, h1, h2⟩ := ancAt_mem h; exact ⟨z, .tail _ hz, h1, h2⟩
theorem ancOf_bits {done : List It} {i : Nat} : ∀ {es : List Edge} {m : Nat}, ancOf done i es = some m →
    (∀ e ∈ es, Region.binds .any e = true → ∃ z ∈ done, z.idx = e.on) ∧ ∀ b, m.testBit b = true → ∃ e ∈ es, Region.binds .any e = true ∧ ∃ z ∈ done, z.idx = e.on ∧ (b = e.on ∨ z.anc.testBit b = true)
  | [], m, h => by
    simp only [ancOf, Option.some.injEq] at h; subst h
    exact ⟨fun e he => (by cases he), fun b hb => (by simp at hb)⟩
  | e :: es, m, h => by
    simp only [ancOf] at h
    split at h
    · rename_i hb
      obtain ⟨h1, h2⟩ := ancOf_bits h
      refine ⟨fun e' he' hb' => ?_, fun b hbit => ?_⟩
      · rcases List.mem_cons.1 he' with rfl | h3
        · rw [hb] at hb'; cases hb'
        · exact h1 e' h3 hb'
      · obtain ⟨e', g1, g2⟩ := h2 b hbit; exact ⟨e', .tail _ g1, g2⟩
    · rename_i hb
      split at h
      · rename_i m1 hm1
        split at h
        · rename_i k hk
          cases h
          obtain ⟨h1, h2⟩ := ancOf_bits hk
          obtain ⟨z, hz, hzi, rfl⟩ := ancAt_mem hm1
          refine ⟨fun e' he' hb' => ?_, fun b hbit => ?_⟩
          · rcases List.mem_cons.1 he' with rfl | h3
            · exact ⟨z, hz, hzi⟩
            · exact h1 e' h3 hb'
          · have hbit : ((Nat.shiftLeft 1 e.on ||| z.anc) ||| k).testBit b = true := hbit
            rw [Nat.testBit_or, Nat.testBit_or, Bool.or_eq_true, Bool.or_eq_true] at hbit
            rcases hbit with (hbit | hbit) | hbit
            · refine ⟨e, .head _, hb, z, hz, hzi, .inl ?_⟩
              have hbit : (1 <<< e.on).testBit b = true := hbit
              rw [Nat.testBit_shiftLeft] at hbit
              simp only [Bool.and_eq_true, decide_eq_true_eq] at hbit
              have h0 : b - e.on = 0 := by
                rcases Nat.eq_zero_or_pos (b - e.on) with h | h
                · exact h
                · have := hbit.2
                  rw [Nat.testBit_one_eq_true_iff_self_eq_zero] at this
                  exact this
              omega
            · exact ⟨e, .head _, hb, z, hz, hzi, .inr hbit⟩
            · obtain ⟨e', g1, g2⟩ := h2 b hbit; exact ⟨e', .tail _ g1, g2⟩
        · cases h
      · cases h
theorem pairsOk_mem {ops : Array Oper} {x : It} : ∀ {done : List It}, pairsOk ops x done = true → ∀ y ∈ done, x.anc.testBit y.idx = true ∨ pairOk ops y x = true
  | z :: r, h, y, hy => by
    simp only [pairsOk, Bool.and_eq_true, Bool.or_eq_true] at h
    rcases List.mem_cons.1 hy with rfl | h3
    · exact h.1
    · exact pairsOk_mem h.2 y h3
theorem Fine.suffix {ops : Array Oper} : ∀ {l m : List It}, Fine ops (l ++ m) → Fine ops m
  | [], _, h => h
  | _ :: l, _, h => Fine.suffix (l := l) h.1

section
variable {P : Program} {A0 : Dom} {Dk : List Deferred → Prop} {w0 : World} {S : Type}
variable {ε : Env} (hε : EnvOk P ε) (hu : ∀ f G sc, ε.fn f = some (G, sc) → PFun.Uni @G)
include hε hu

omit hε hu in
theorem wanted_want {ops : Array Oper} {o : Oper} {st : St} {a : Act} {c : Cx} {b : Bool} (hs : RepAVs c st.slots a.tmps.toList) (h : want ops o st = some b) : Region.wanted o (yielded ops a.tmps) = b := by
  unfold want at h
  unfold Region.wanted
  split at h
  · rename_i hg; rw [hg]; simpa using h
  · rename_i j w hg
    rw [hg]
    dsimp only
    split at h
    · cases h
    · rename_i d hj
      split at h
      · rename_i b' hb
        obtain ⟨v, hv, hr⟩ := hs.get d _ hb
        simp only [RepAV, Rep, List.cons.injEq, and_true] at hr
        subst hr
        have : a.tmps[d]? = some (.bool b') := by simpa using hv
        have hy : yielded ops a.tmps j = some b' := by simp [yielded, hj, this]
        rw [hy]
        cases h
        cases b' <;> cases w <;> rfl
      · rename_i hb
        obtain ⟨v, hv, hr⟩ := hs.get d _ hb
        simp only [RepAV, RepAVs] at hr
        obtain ⟨us, rfl, _⟩ := hr
        have : a.tmps[d]? = some (.tuple us) := by simpa using hv
        have hy : yielded ops a.tmps j = none := by simp [yielded, hj, this]
        rw [hy]; cases h; rfl
      · cases h

omit hu in
/-- One step of it, carried out. -/
theorem step_run {ρ : Option Nat} {n : Nat} {ops : Array Oper} {x : It} {st st' : St} {Q : Exit → Act → World → Prop} {K : Act → World → Prop} (hx : Step1 ε ops x st st') {a : Act} {w : World} {μ : Mu} (hs : Sim A0 w0 st a.tmps w μ) (hd : Dk a.defers)
    (hK : ∀ a' w' μ', Sim A0 w0 st' a'.tmps w' μ' → Dk a'.defers → K a' w') : wpOpIn (Fr ρ) n P ops Q x.idx K a w := by
  obtain ⟨o, ho, hx⟩ := hx
  unfold wpOpIn
  simp only [ho]
  rcases hx with ⟨hw, _, _, _, _, av, st1, hev, rfl, _⟩ | ⟨hw, _, _, rfl⟩
  · rw [wanted_want hs.slots hw]
    simp only [if_true]
    obtain ⟨av', st2, h1, hop⟩ := evOp_sound hε hs o two _ hev
    cases h1
    exact hop ρ n _ _ fun v w' ⟨μ', hrep, hsim⟩ => hK _ _ μ' (Sim.put (a := a) hsim o.dst hrep) (by rw [put_defers]; exact hd)
  · rw [wanted_want hs.slots hw]
    simp only [Bool.false_eq_true, if_false]
    refine ⟨fun _ _ => trivial, ?_⟩
    exact hK _ _ μ (Sim.put (a := a) hs o.dst (by simp only [RepAV, RepAVs]; exact ⟨#[], rfl, rfl⟩)) (by rw [put_defers]; exact hd)

theorem wpAny_trace {ρ : Option Nat} {n : Nat} {ops : Array Oper} {Q : Exit → Act → World → Prop} {all : List It} (hfine : Fine ops all.reverse) (hidx : all.map It.idx = List.range ops.size) {stn : St}
    (hQ : ∀ a' w' μ', Sim A0 w0 stn a'.tmps w' μ' → Dk a'.defers → Q .normal a' w') :
    ∀ (fuel : Nat) (R : List It) (listed : Array Bool) (st : St) (a : Act) (w : World) (μ : Mu), R.length ≤ fuel → R.Sublist all → listed.size = ops.size →
      (∀ i, i < ops.size → (listed.getD i true = true ↔ i ∉ R.map It.idx)) → (∀ x ∈ all, x ∉ R → ∀ b, x.anc.testBit b = true → b ∉ R.map It.idx) →
      Tr ε ops R st stn → Sim A0 w0 st a.tmps w μ → Dk a.defers → wpAnyIn (Fr ρ) n P .any ops Q fuel listed a w := by
  have hsorted : all.Pairwise fun x y => x.idx < y.idx := by
    have : (all.map It.idx).Pairwise (· < ·) := by rw [hidx]; exact List.pairwise_lt_range
    exact List.pairwise_map.1 this
  have hlt : ∀ x ∈ all, x.idx < ops.size := fun x hx => by
    have : x.idx ∈ all.map It.idx := List.mem_map_of_mem hx
    rw [hidx] at this
    exact List.mem_range.1 this
  -- what comes before x
  have before : ∀ x ∈ all, ∃ L, (∀ y ∈ all, y.idx < x.idx → y ∈ L) ∧ (∀ y ∈ L, y ∈ all ∧ y.idx < x.idx) ∧ pairsOk ops x L = true ∧ ∃ o, ops[x.idx]? = some o ∧ ancOf L x.idx o.after.toList = some x.anc := by
    intro x hx
    obtain ⟨L, R', e⟩ := List.append_of_mem hx
    have hf := hfine
    rw [e, List.reverse_append, List.reverse_cons, List.append_assoc] at hf
    obtain ⟨_, h2, h3⟩ := hf.suffix
    rw [e] at hsorted
    obtain ⟨p1, p2, p3⟩ := List.pairwise_append.1 hsorted
    refine ⟨L.reverse, fun y hy hlt => ?_, fun y hy => ⟨by rw [e]; simp at hy ⊢; exact .inl hy, p3 y (by simpa using hy) x (by simp)⟩, h2, h3⟩
    rw [e] at hy
    rcases List.mem_append.1 hy with h | h
    · simpa using h
    · rcases List.mem_cons.1 h with rfl | h
      · omega
      · have := (List.pairwise_cons.1 p2).1 y h; omega
  have nil : ∀ (R : List It) (listed : Array Bool), R.Sublist all → listed.size = ops.size → (∀ i, i < ops.size → (listed.getD i true = true ↔ i ∉ R.map It.idx)) → Region.ready .any ops listed = [] → R = [] := by
    intro R listed hsub hsz hl hr
    cases R with
    | nil => rfl
    | cons x R =>
      exfalso
      have hxa : x ∈ all := hsub.subset (by simp)
      have hRs := hsorted.sublist hsub
      obtain ⟨L, hL1, hL2, _, o, ho, hanc⟩ := before x hxa
      have hx0 : listed.getD x.idx true = false := by
        have := (hl x.idx (hlt x hxa)).1
        cases hb : listed.getD x.idx true with
        | false => rfl
        | true => exact absurd (this hb) (by simp)
      have : x.idx ∈ Region.ready .any ops listed := by
        refine mem_ready.2 ⟨hx0, o, ho, fun e he hb => ?_⟩
        obtain ⟨z, hz, hzi⟩ := (ancOf_bits hanc).1 e (by simpa using he) hb
        obtain ⟨hz1, hz2⟩ := hL2 z hz
        have h1 : listed.getD z.idx true = true := by
          refine (hl z.idx (hlt z hz1)).2 fun hm => ?_
          obtain ⟨y, hy, hyi⟩ := List.mem_map.1 hm
          rcases List.mem_cons.1 hy with rfl | hy
          · omega
          · have := (List.pairwise_cons.1 hRs).1 y hy; omega
        have h2 := hlt z hz1
        rw [← hsz] at h2
        rw [← hzi]
        simpa [Array.getD, h2] using h1
      rw [hr] at this; cases this
  intro fuel
  induction fuel with
  | zero =>
    intro R listed st a w μ hlen hsub hsz hl hdc htr hs hd
    have : R = [] := by cases R with | nil => rfl | cons x R => simp at hlen
    subst this
    refine ⟨?_, ?_⟩
    · cases hr : Region.ready .any ops listed with
      | nil => rfl
      | cons i is =>
        exfalso
        obtain ⟨h1, o, ho, _⟩ := mem_ready.1 (show i ∈ Region.ready .any ops listed by rw [hr]; simp)
        have := (hl i (Array.getElem?_eq_some_iff.1 ho).1).2 (by simp)
        rw [h1] at this; cases this
    · simp only [Tr] at htr; subst htr; exact hQ a w μ hs hd
  | succ fuel ih =>
    intro R listed st a w μ hlen hsub hsz hl hdc htr hs hd
    refine ⟨fun hr => ?_, fun i hi => ?_⟩
    · have := nil R listed hsub hsz hl hr
      subst this
      simp only [Tr] at htr; subst htr; exact hQ a w μ hs hd
    · obtain ⟨h0, o, ho, hedges⟩ := mem_ready.1 hi
      have hisz := (Array.getElem?_eq_some_iff.1 ho).1
      have hiR : i ∈ R.map It.idx := by
        rcases Classical.em (i ∈ R.map It.idx) with h | h
        · exact h
        · have := (hl i hisz).2 h; rw [h0] at this; cases this
      obtain ⟨x, hxR, rfl⟩ := List.mem_map.1 hiR
      have hxa := hsub.subset hxR
      obtain ⟨R1, R2, rfl⟩ := List.append_of_mem hxR
      have hRs := hsorted.sublist hsub
      obtain ⟨p1, p2, p3⟩ := List.pairwise_append.1 hRs
      obtain ⟨L, hL1, hL2, hpairs, o', ho', hanc⟩ := before x hxa
      rw [ho] at ho'; cases ho'
      -- what x waits for is listed
      have hbits : ∀ b, x.anc.testBit b = true → b ∉ (R1 ++ x :: R2).map It.idx := by
        intro b hb
        obtain ⟨e, he, hbind, z, hz, hzi, hor⟩ := (ancOf_bits hanc).2 b hb
        have hle := hedges e (by simpa using he) hbind
        have hz1 := (hL2 z hz).1
        have hzs := hlt z hz1
        have hzl : listed.getD z.idx true = true := by
          rw [hzi]
          rw [← hsz, hzi] at hzs
          simpa [Array.getD, hzs] using hle
        have hzR := (hl z.idx (hlt z hz1)).1 hzl
        rcases hor with rfl | hor
        · rw [← hzi]; exact hzR
        · exact hdc z hz1 (fun hm => hzR (List.mem_map_of_mem hm)) b hor
      have hp : ∀ y ∈ R1, pairOk ops y x = true := by
        intro y hy
        have hyx := p3 y hy x (by simp)
        rcases pairsOk_mem hpairs y (hL1 y (hsub.subset (by simp [hy])) hyx) with h | h
        · exact absurd (List.mem_map_of_mem (by simp [hy])) (hbits y.idx h)
        · exact h
      obtain ⟨st', hx, htr'⟩ := bubble hu hp htr
      have hnot : x.idx ∉ (R1 ++ R2).map It.idx := by
        intro hm
        obtain ⟨y, hy, hyi⟩ := List.mem_map.1 hm
        rcases List.mem_append.1 hy with h | h
        · have := p3 y h x (by simp); omega
        · have := (List.pairwise_cons.1 p2).1 y h; omega
      refine step_run hε hx hs hd fun a' w' μ' hs' hd' => ?_
      refine ih (R1 ++ R2) _ st' a' w' μ' (by simp at hlen ⊢; omega) ((List.Sublist.append_left (List.sublist_cons_self x R2) R1).trans hsub) (by simpa using hsz) (fun j hj => ?_) (fun z hz hzR b hb => ?_) htr' hs' hd'
      · by_cases e : j = x.idx
        · subst e
          have : (listed.setIfInBounds x.idx true).getD x.idx true = true := by simp [Array.getD, hsz, hisz]
          exact ⟨fun _ => hnot, fun _ => this⟩
        · rw [getD_set_ne true (Ne.symm e), hl j hj]
          simp only [List.map_append, List.map_cons, List.mem_append, List.mem_cons]
          constructor
          · exact fun h h' => h (h'.imp id .inr)
          · exact fun h h' => h (h'.imp id fun h'' => h''.resolve_left e)
      · have key : b ∉ (R1 ++ x :: R2).map It.idx := by
          rcases Classical.em (z ∈ R1 ++ x :: R2) with h | h
          · have : z = x := by
              rcases List.mem_append.1 h with h | h
              · exact absurd (List.mem_append_left _ h) hzR
              · rcases List.mem_cons.1 h with h | h
                · exact h
                · exact absurd (List.mem_append_right _ h) hzR
            subst this; exact hbits b hb
          · exact hdc z hz h b hb
        intro hm
        apply key
        simp only [List.map_append, List.map_cons, List.mem_append, List.mem_cons] at hm ⊢
        exact hm.imp id .inr

/-- A REGION THAT DRAWS ITS ORDER. -/
theorem evD_sound {ρ : Option Nat} {n : Nat} (hm : P.follows .mixedOrders = true) {ops : Array Oper} {id : Nat} {Q : Exit → Act → World → Prop} {K : St → Option S} {r : S}
    (hK : ∀ st' a' w' μ', K st' = some r → Sim A0 w0 st' a'.tmps w' μ' → Dk a'.defers → Q .normal a' w') (st : St) (a : Act) (w : World) (μ : Mu) (h : evD ε ops (List.range ops.size) [] [] st K = some r)
    (hs : Sim A0 w0 st a.tmps w μ) (hd : Dk a.defers) : (Code.region id ops true).wpIn (Fr ρ) n P Q a w := by
  obtain ⟨its, stn, hidx, htr, hKn, hfine⟩ := evD_trace hu (List.range ops.size) [] st trivial h
  refine wpIn_region_any hm ?_
  have hlen : its.length = ops.size := by have := congrArg List.length hidx; simpa using this
  have hb : Below w.heap.size w { w with drawn := w.drawn + 1 } := below_drew w
  refine wpAny_trace hε hu (all := its) (by simpa using hfine) hidx (stn := stn) (fun a' w' μ' h1 h2 => hK stn a' w' μ' hKn h1 h2) _ its _ st a _ μ (by omega) (List.Sublist.refl _) (by simp) (fun i hi => ?_) (fun x hx hx' => absurd hx hx') htr (hs.ext hb) hd
  rw [hidx]
  simp [Array.getD, hi]
end
end Go.Pe
