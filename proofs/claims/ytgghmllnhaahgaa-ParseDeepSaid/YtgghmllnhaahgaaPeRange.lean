/- Ranges over functions: a list of rounds. -/
import Derived.Test.YtgghmllnhaahgaaPeTi
import Derived.RangeFuncIn
import Derived.RangeFuncRecord
import Derived.RangeFuncSeq
namespace Go.Pe
open Go.RowKit
set_option linter.unusedSectionVars false
variable [GI]
set_option linter.unusedSimpArgs false
set_option linter.unusedVariables false

/-! ### A block that no data lies in -/
def Dom.noF (A : Dom) (l : Nat) : Dom := { A with F := fun b => A.F b ∧ b ≠ l }
def Dom.addF (A : Dom) (l : Nat) (w : World) : Dom := { A with F := fun b => A.F b ∨ b = l, wF := w }
section
variable {A H : Dom} {w0 w : World} {st : St} {tmps : Array Value} {μ : Mu} {l : Nat}
theorem Sim.noF (hs : Sim A w0 st tmps w μ) (l : Nat) : Sim (A.noF l) w0 st tmps w μ :=
  ⟨hs.slots, hs.mem.hrec, hs.mem.hlst, hs.mem.live, hs.mem.inj, hs.mem.below, fun b hb => hs.mem.fr b hb.1, hs.mem.xo, hs.mem.np, hs.mem.pins, hs.mem.gi, hs.mem.bty, hs.mem.htop, hs.mem.deep⟩
theorem Sim.addF (hs : Sim A w0 st tmps w μ) (hl : A.X l) : Sim (A.addF l w) w0 st tmps w μ :=
  ⟨hs.slots, hs.mem.hrec, hs.mem.hlst, hs.mem.live, hs.mem.inj, hs.mem.below, fun b hb => by
    rcases hb with hb | rfl
    · obtain ⟨h1, h2, h3⟩ := hs.mem.fr b hb; exact ⟨h1, rfl, h3⟩
    · obtain ⟨h1, h3⟩ := hs.mem.xo _ hl; exact ⟨h1, rfl, h3⟩, hs.mem.xo, hs.mem.np, hs.mem.pins, hs.mem.gi, hs.mem.bty, hs.mem.htop, hs.mem.deep⟩
theorem Sim.putX {o : Obj} (hs : Sim A w0 st tmps w μ) (hl : A.X l) (hF : ¬ A.F l) (hw0 : w0.heap.size ≤ l) : Sim A w0 st tmps (w.putObj l o) μ := by
  have hm := hs.mem
  have hoth : ∀ b, b ≠ l → (w.putObj l o).heap[b]? = w.heap[b]? := fun b hb => World.putObj_heap_other hb
  have hsize : (w.putObj l o).heap.size = w.heap.size := World.putObj_size
  have hown : ∀ {x b}, μ.at_ x = some b → b ≠ l := fun {x b} hx e => (hm.xo l hl).2 x (e ▸ hx)
  have hle : (cx A w0 st.recs st.lsts w μ).Le (cx A w0 st.recs st.lsts (w.putObj l o) μ) :=
    ⟨fun b hb => ⟨hb.1, by rw [hsize]; exact hb.2.1, hb.2.2⟩, fun b hb => hoth b (fun e => hb.1.2 (e ▸ hl)), Nat.le_refl _, Nat.le_refl _, fun _ _ hs => ⟨hs, rfl⟩, fun _ o _ ho => ⟨o, ho, rfl, rfl, rfl, rfl⟩, fun _ _ h => h⟩
  refine ⟨hs.slots.mono hle, ?_, ?_, fun x b hx => ?_, hm.inj, ?_, ?_, fun b hb => by obtain ⟨h1, h2⟩ := hm.xo b hb; exact ⟨by rw [hsize]; exact h1, h2⟩, hm.np, hm.pins, hm.gi, hm.bty.ext fun x b hx => hoth b (hown hx), fun r c hr => (hm.htop r c hr).imp (c := cx A w0 st.recs st.lsts w μ) rfl rfl (fun b hb => hoth b (hown hb)) fun us hu => hu.mono hle, fun d hd => (hm.deep d hd).mono (c := cx A w0 st.recs st.lsts w μ) ⟨hle.A, hle.w, fun _ => rfl, fun k b hb => hoth b (hown hb), Nat.le_refl _, fun _ _ h => h⟩⟩
  · intro r cells hr hk
    obtain ⟨b, vs, h1, h2, h3⟩ := hm.hrec r cells hr hk
    exact ⟨b, vs, h1, h2.ext (hoth b (hown h1)), h3.mono hle⟩
  · intro t o ht
    rcases hm.hlst t o ht with h1 | ⟨b, vs, hb, ho, hsz, hc, us, rest, e, hr⟩
    · exact .inl h1
    · exact .inr ⟨b, vs, hb, ho.ext (hoth b (hown hb)), hsz, hc, us, rest, e, hr.imp fun x u hx => hx.mono hle.A hle.w⟩
  · obtain ⟨h1, h2, h3⟩ := hm.live x b hx
    exact ⟨h1, by rw [hsize]; exact h2, h3⟩
  · exact hm.below.trans ((Below.refl _ w).grown (grownBy_putObj' w l o) hm.below.size (fun k e => by cases e; exact hw0))
  · intro b hb
    obtain ⟨h1, h2, h3⟩ := hm.fr b hb
    exact ⟨by rw [hsize]; exact h1, by rw [hoth b (fun e => hF (e ▸ hb))]; exact h2, h3⟩
theorem Dom.Ext.noF (h : H.Ext A) (hl : ¬ H.F l) : H.Ext (A.noF l) :=
  ⟨h.A, h.X, h.pin, h.np, h.keep, fun b hb => ⟨⟨(h.F b hb).1, fun e => hl (e ▸ hb)⟩, (h.F b hb).2⟩⟩
theorem Dom.Ext.addF (h : H.Ext A) (hs : Sim A w0 st tmps w μ) (l : Nat) : H.Ext (A.addF l w) :=
  ⟨h.A, h.X, h.pin, h.np, h.keep, fun b hb => ⟨.inl (h.F b hb).1, (hs.mem.fr b (h.F b hb).1).2.1.trans (h.F b hb).2⟩⟩
theorem Dok.ext {B A A1 : Dom} (h : A.Ext A1) : ∀ {ds : List Deferred}, Dok B w0 A ds → Dok B w0 A1 ds
  | [], _ => trivial
  | d :: ds, ⟨⟨D, h1, h2, h3, h4, h5⟩, h6⟩ => ⟨⟨D, h1, (h.F D h2).1, h.X D h3, (h.F D h2).2.trans h4, h5⟩, Dok.ext h h6⟩
theorem Dok.rebase {H A : Dom} {st : St} {tmps : Array Value} {μ : Mu} {w : World} {l : Nat} (hl : H.X l) (hs : Sim (A.noF l) w0 st tmps w μ) : ∀ {ds : List Deferred}, Dok H w0 A ds → Dok H w0 ((A.noF l).addF l w) ds
  | [], _ => trivial
  | d :: ds, ⟨⟨D, h1, h2, h3, h4, h5, h6⟩, h7⟩ => by
    have hne : D ≠ l := fun e => h6.1 (e ▸ hl)
    exact ⟨⟨D, h1, .inl ⟨h2, hne⟩, h3, (hs.mem.fr D ⟨h2, hne⟩).2.1.trans h4, h5, h6⟩, Dok.rebase hl hs h7⟩
theorem Dok.old {B A : Dom} {D : Nat} (hD : ¬ A.F D) : ∀ {ds : List Deferred}, Dok B w0 A ds → ∀ d ∈ ds, d ≠ { target := .collected D, args := #[] }
  | [], _ => by simp
  | d :: ds, ⟨⟨D', h1, h2, _⟩, h6⟩ => by
    intro d' hd'
    rcases List.mem_cons.1 hd' with rfl | hd'
    · rw [h1]; intro e
      simp only [Deferred.mk.injEq, Target.collected.injEq, and_true] at e
      exact hD (e ▸ h2)
    · exact Dok.old hD h6 d' hd'
end

/-! ### The rounds -/
def setPs (slots : List AV) : List Nat → List AV → List AV
  | p :: ps, v :: vs => setPs (slots.set p v) ps vs
  | _, _ => slots
theorem setPs_rep {c : Cx} : ∀ (ps : List Nat) (vs : List AV) (us : List Value) {slots : List AV} {tmps : Array Value}, RepAVs c slots tmps.toList → RepAVs c vs us →
    RepAVs c (setPs slots ps vs) ((ps.zip us).foldl (fun (t : Array Value) (q : Nat × Value) => t.setIfInBounds q.1 q.2) tmps).toList
  | [], vs, us, slots, tmps, h, _ => by cases vs <;> simpa [setPs] using h
  | p :: ps, [], us, slots, tmps, h, hv => by
    obtain rfl := hv.nil
    simpa [setPs] using h
  | p :: ps, v :: vs, us, slots, tmps, h, hv => by
    obtain ⟨u, us', rfl, h1, h2⟩ := hv.cons'
    simp only [setPs, List.zip_cons_cons, List.foldl_cons]
    exact setPs_rep ps vs us' (by rw [Array.toList_setIfInBounds]; exact h.set p h1) h2

/-- One round: the loop's variables, the body. -/
noncomputable def roundF (ε : Env) {P : Program} {np : Nat} {assign body : Code} (xa : Ann P np false assign) (xb : Ann P np false body) (sh : Shape) (ρ lm ps : List Nat) (outs : List (Ex × Shape)) (y : sh.den) (xs : List AV) : Option (sh.den ⊕ OutDen outs) :=
  match nodupB ρ && nodupB lm && allSome (fill sh y).recs ρ && allLt (fill sh y).lsts.length lm with
  | false => none
  | true => evA ε xa (view (fill sh y) ρ lm .no (setPs (fill sh y).slots ps xs)) fun ex st2 => match ex with
    | .normal => evA ε xb st2 fun ex st3 => match ex with
      | .normal => (abs sh (unview (fill sh y) ρ lm .no st3)).map .inl
      | .panic => none
      | e => (packOut outs e (unview (fill sh y) ρ lm .no st3)).map .inr
    | _ => none
def rangeL {α β γ : Type} (step : α → γ → Option (α ⊕ β)) (fin : α → Option β) : List γ → α → Option β
  | [], y => fin y
  | x :: xs, y => (step y x).bind fun o => match o with
    | .inl y' => rangeL step fin xs y'
    | .inr r => some r
theorem rangeL_map {α β γ δ : Type} (step : α → γ → Option (α ⊕ β)) (fin : α → Option β) (h : δ → γ) : ∀ (l : List δ) (y : α), rangeL step fin (l.map h) y = rangeL (fun y z => step y (h z)) fin l y
  | [], _ => rfl
  | x :: xs, y => by
    simp only [List.map_cons, rangeL]
    congr; funext o
    cases o with
    | inl y' => exact rangeL_map step fin h xs y'
    | inr r => rfl

/-- The contract of an iterator that yields just these. -/
def IterOk (P : Program) (f : Nat) (lb : Array Value) (encs : List (Array Value)) (K0 : Nat → Prop) (W1 : World) : Prop :=
  ∀ (n l : Nat) (J : Nat → World → Prop) (Jx : World → Prop) (W : World), (∀ b, K0 b → W.heap[b]? = W1.heap[b]?) →
    (∀ i (h : i < encs.length) W', J i W' → (∀ b, K0 b → W'.heap[b]? = W1.heap[b]?) → YieldAt (Fr none) n P l encs[i] W' fun e W2 => (e = .returned (.bool true) ∧ J (i + 1) W2 ∧ ∀ b, K0 b → W2.heap[b]? = W1.heap[b]?) ∨ (e = .returned (.bool false) ∧ Jx W2)) →
    J 0 W → CallsIn (Fr none) n P f (#[.func (.yield l) #[] #[]] ++ lb) W fun e W2 => (∃ v, e = .returned v) ∧ (J encs.length W2 ∨ Jx W2)

def exCode : Ex → Option Code
  | .normal | .panic => none
  | .ret => some .ret
  | .exit id => some (.exit id)

section
variable {P : Program} {ε : Env}
/-- A RANGE OVER A FUNCTION. -/
theorem range_of (hε : EnvOk P ε) {np g f : Nat} {ps : Array Tmp} {assign body : Code} {shi sh : Shape} {outs : List (Ex × Shape)} {ρ lm : List Nat} (xa : Ann P ρ.length false assign) (xb : Ann P ρ.length false body) (elems : shi.den → List (List AV))
    (hfn : ∃ fn, P.funcs[f]? = some fn ∧ (fn.name == "runtime.NumGoroutine") = false ∧ fn.body.isSome = true)
    (hnp0 : Nat.ble np shi.recs.length = true) (hnp1 : Nat.ble np sh.recs.length = true) (hnp2 : outsOk np outs = true)
    (gd : shi.den → Prop) (hit : ∀ (A0 : Dom) (w0 w : World) (μ : Mu) (y : shi.den) (tmps : Array Value), gd y → Sim A0 w0 (fill shi y) tmps w μ → ∃ (lb : Array Value) (encs : List (Array Value)), tmps.getD g undef = .func (.func f) #[] lb ∧ encs.length = (elems y).length ∧
      (∀ i (h : i < (elems y).length) (h' : i < encs.length), RepAVs (c0 (Imm A0 w0 (μ.keep sh) w) w) (elems y)[i] encs[i].toList ∧ encs[i].size = ps.size ∧ closedL (elems y)[i] = true) ∧ IterOk P f lb encs (Imm A0 w0 (μ.keep sh) w) w)
    {F : shi.den → Option (OutDen outs)} (hF : ∀ y o, F y = some o → gd y ∧ ((abs sh (fill shi y)).bind fun y0 => rangeL (roundF ε xa xb sh ρ lm ps.toList outs) (fun y => packOut outs .normal (fill sh y)) (elems y) y0) = some o) :
    PieceSound P np true (.rangeFunc (.tmp g) ps assign body) shi outs F := by
  refine ⟨Nat.le_of_ble_eq_true hnp0, ?_⟩
  intro y o ho ρ0 n B A0 w0 Q a w μ hρ hB hnp hs hd hQ
  obtain rfl := hρ rfl
  obtain ⟨hgd, ho⟩ := hF y o ho
  rw [Option.bind_eq_some_iff] at ho
  obtain ⟨y0, hy0, ho⟩ := ho
  have hs0 := abs_sound hs (Nat.le_trans hnp (Nat.le_of_ble_eq_true hnp1)) hy0
  obtain ⟨lb, encs, hg, hlen, henc, hiter⟩ := hit A0 w0 w μ y a.tmps hgd hs
  generalize hμ0 : μ.keep sh = μ0 at hs0 henc hiter
  have hm0 := hs0.mem
  refine wpIn_rangeFunc ?_
  intro fn _
  obtain ⟨rec, hrec⟩ : ∃ rec : LoopState → Option Code → Loop, rec = fun st pe => { state := st, pending := pe, fn, tmps := a.tmps, params := ps, assign, body, defers := w.heap.size } := ⟨_, rfl⟩
  obtain ⟨W1, hW1⟩ : ∃ W1, (w.alloc (.deferred (some []))).alloc (.loop (rec .ready none)) = W1 := ⟨_, rfl⟩
  have hL1 : W1.heap[w.heap.size + 1]? = some (.loop (rec .ready none)) := by
    rw [← hW1]; have := World.alloc_heap_new (w.alloc (.deferred (some []))) (.loop (rec .ready none)); rwa [World.size_alloc] at this
  have hK1 : W1.heap[w.heap.size]? = some (.deferred (some [])) := by
    rw [← hW1]; exact (Below.heap_alloc _ _ _ (by simp)).trans (World.alloc_heap_new w _)
  have hb1 : Below w.heap.size w W1 := by rw [← hW1]; exact (((Below.refl _ w).alloc (Nat.le_refl _) _).alloc (by simp) _)
  have hsz1 : W1.heap.size = w.heap.size + 2 := by rw [← hW1]; simp
  -- the domain of the rounds
  let A1 : Dom := { A0 with F := fun b => A0.F b ∨ Imm A0 w0 μ0 w b ∨ b = w.heap.size, X := fun b => A0.X b ∨ b = w.heap.size ∨ b = w.heap.size + 1, wF := W1 }
  have hA1 : A0.Ext A1 := ⟨rfl, fun b hb => .inl hb, rfl, rfl, rfl, fun b hb => ⟨.inl hb, by
    obtain ⟨h1, h2, _⟩ := hm0.fr b hb
    exact (hb1.block b h1).trans h2⟩⟩
  have hlX : A1.X (w.heap.size + 1) := .inr (.inr rfl)
  have hDX : A1.X w.heap.size := .inr (.inl rfl)
  have hlF : ¬ A1.F (w.heap.size + 1) := by
    rintro (h | h | h)
    · have := (hm0.fr _ h).1; omega
    · have := h.2.1; omega
    · omega
  have hlw : w0.heap.size ≤ w.heap.size + 1 := by have := hm0.below.size; omega
  -- at the first round
  have hs1 : Sim A1 w0 (fill sh y0) a.tmps W1 μ0 := by
    have hle : (cx A0 w0 (fill sh y0).recs (fill sh y0).lsts w μ0).Le (cx A1 w0 (fill sh y0).recs (fill sh y0).lsts W1 μ0) :=
      ⟨fun b hb => ⟨⟨hb.1.1, fun h => by
        rcases h with h | h | h
        · exact hb.1.2 h
        · have := hb.2.1; omega
        · have := hb.2.1; omega⟩, by rw [hsz1]; have := hb.2.1; omega, hb.2.2⟩, fun b hb => hb1.block b hb.2.1, Nat.le_refl _, Nat.le_refl _, fun _ _ hs => ⟨hs, rfl⟩, fun _ o _ ho => ⟨o, ho, rfl, rfl, rfl, rfl⟩, fun _ _ h => h⟩
    refine ⟨hs0.slots.mono hle, ?_, ?_, fun x b hx => ?_, hm0.inj, hm0.below.trans (hb1.mono hm0.below.size), ?_, ?_, hm0.np, hm0.pins, hm0.gi, hm0.bty.ext fun x b hx => hb1.block b (hm0.live _ _ hx).2.1, fun r c hr => (hm0.htop r c hr).imp (c := cx A0 w0 (fill sh y0).recs (fill sh y0).lsts w μ0) rfl rfl (fun b hb => hb1.block b (hm0.live _ _ hb).2.1) fun us hu => hu.mono hle, fun d hd => (hm0.deep d hd).mono (c := cx A0 w0 (fill sh y0).recs (fill sh y0).lsts w μ0) ⟨hle.A, hle.w, fun _ => rfl, fun k b hb => hb1.block b (hm0.live _ _ hb).2.1, Nat.le_refl _, fun _ _ h => h⟩⟩
    · intro r cells hr hk
      obtain ⟨b, vs, h1, h2, h3⟩ := hm0.hrec r cells hr hk
      exact ⟨b, vs, h1, h2.ext (hb1.block b (hm0.live _ _ h1).2.1), h3.mono hle⟩
    · intro t o ht
      rcases hm0.hlst t o ht with h1 | ⟨b, vs, hb, ho, hsz, hc, us, rest, e, hr⟩
      · exact .inl h1
      · exact .inr ⟨b, vs, hb, ho.ext (hb1.block b (hm0.live _ _ hb).2.1), hsz, hc, us, rest, e, hr.imp fun x u hx => hx.mono hle.A hle.w⟩
    · obtain ⟨h1, h2, h3⟩ := hm0.live x b hx
      exact ⟨h1, by rw [hsz1]; omega, h3⟩
    · intro b hb
      rcases hb with hb | hb | rfl
      · obtain ⟨h1, h2, h3⟩ := hm0.fr b hb
        exact ⟨by rw [hsz1]; omega, rfl, h3⟩
      · exact ⟨by rw [hsz1]; have := hb.2.1; omega, rfl, hb.2.2⟩
      · exact ⟨by rw [hsz1]; omega, rfl, fun x hx => by have := (hm0.live x _ hx).2.1; omega⟩
    · intro b hb
      rcases hb with hb | rfl | rfl
      · obtain ⟨h1, h3⟩ := hm0.xo b hb
        exact ⟨by rw [hsz1]; omega, h3⟩
      · exact ⟨by rw [hsz1]; omega, fun x hx => by have := (hm0.live x _ hx).2.1; omega⟩
      · exact ⟨by rw [hsz1]; omega, fun x hx => by have := (hm0.live x _ hx).2.1; omega⟩
  have hkeep : ∀ {st tmps W μ}, Sim A1 w0 st tmps W μ → ∀ b, Imm A0 w0 μ0 w b → W.heap[b]? = w.heap[b]? := fun {st tmps W μ} h b hb =>
    (h.mem.fr b (.inr (.inl hb))).2.1.trans (hb1.block b hb.2.1)
  obtain ⟨gfn, hgf, hgn, hgb⟩ := hfn
  obtain ⟨gc, hgc⟩ := Option.isSome_iff_exists.1 hgb
  have eg : ∀ args w, (callFunc f args).run P w = .ok (.enter f args) w := by
    intro args w
    have hnm' : ¬ gfn.name = "runtime.NumGoroutine" := by simpa using hgn
    simp [callFunc, program, Sem.run, hgf, hnm', hgc]
  have hev : a.eval (.tmp g) = .func (.func f) #[] lb := hg
  refine ⟨w.heap.size + 1, [{ target := .collected w.heap.size, args := #[] }], W1, { target := .fn (.func f) lb, args := #[.func (.yield (w.heap.size + 1)) #[] #[]] }, W1, f,
    #[.func (.yield (w.heap.size + 1)) #[] #[]] ++ lb, W1, ?_, ?_, fun _ _ => trivial, ?_, fun h => by simp [Fr, Fence.wide] at h, ?_⟩
  · rw [← hW1, hrec]; exact run_enterLoop_outer _ _ _ _ _
  · simp only [resolve, hev]
    simp [go_sem]
  · simp [invoke, go_sem, eg]
  -- the rounds
  refine (hiter (n - 1) (w.heap.size + 1)
    (fun i W => ∃ yi μ', Sim A1 w0 (fill sh yi) a.tmps W μ' ∧ W.heap[w.heap.size + 1]? = some (.loop (rec .ready none)) ∧ rangeL (roundF ε xa xb sh ρ lm ps.toList outs) (fun y => packOut outs .normal (fill sh y)) ((elems y).drop i) yi = some o)
    (fun W => ∃ c μ', Sim A1 w0 (unOut outs o).2 a.tmps W μ' ∧ exCode (unOut outs o).1 = some c ∧ W.heap[w.heap.size + 1]? = some (.loop (rec .done (some c))))
    W1 (fun b hb => hb1.block b hb.2.1) ?_ ⟨y0, μ0, hs1, hL1, by simpa using ho⟩).mono ?_
  · intro i hi W ⟨yi, μi, hsi, hl, hrun⟩ _
    have hie : i < (elems y).length := by omega
    obtain ⟨hex, hesz, hecl⟩ := henc i hie hi
    rw [List.drop_eq_getElem_cons hie] at hrun
    simp only [rangeL, Option.bind_eq_some_iff] at hrun
    obtain ⟨out, hround, hrest⟩ := hrun
    have hy := run_yield (P := P) (args := encs[i]) hl (by rw [hrec]; exact hesz)
    rw [hrec] at hy
    refine ⟨fn, _, assign, body, hy, roundIn_of_wpIn (F := Fr none) trivial ?_⟩
    show assign.wpIn (Fr (some (w.heap.size + 1))) (n - 1) P _ _ W
    unfold roundF at hround
    split at hround
    · cases hround
    rename_i hchk
    simp only [Bool.and_eq_true] at hchk
    obtain ⟨⟨⟨c1, c2⟩, c3⟩, c4⟩ := hchk
    -- the frame of the round
    have hsub : (c0 (Imm A0 w0 μ0 w) w).Sub (cx A1 w0 (fill sh yi).recs (fill sh yi).lsts W μi) := by
      refine ⟨fun b hb => ?_, fun b hb => hkeep hsi b hb⟩
      obtain ⟨h1, _, h3⟩ := hsi.mem.fr b (.inr (.inl hb))
      refine ⟨⟨hb.1.1, fun h => ?_⟩, h1, h3⟩
      rcases h with h | h | h
      · exact hb.1.2 h
      · have := hb.2.1; omega
      · have := hb.2.1; omega
    have hargs : RepAVs (cx A1 w0 (fill sh yi).recs (fill sh yi).lsts W μi) (setPs (fill sh yi).slots ps.toList (elems y)[i]) ((ps.toList.zip encs[i].toList).foldl (fun (t : Array Value) (q : Nat × Value) => t.setIfInBounds q.1 q.2) a.tmps).toList :=
      setPs_rep ps.toList _ _ hsi.slots (RepAVs.closed hsub hex hecl)
    have htm : ((ps.zip encs[i]).foldl (fun (t : Array Value) (q : Nat × Value) => t.setIfInBounds q.1 q.2) a.tmps) = ((ps.toList.zip encs[i].toList).foldl (fun (t : Array Value) (q : Nat × Value) => t.setIfInBounds q.1 q.2) a.tmps) := by
      rw [← Array.foldl_toList, Array.toList_zip]
    have hv := view_sim (tmps := a.tmps) hsi hargs (ρ := ρ) (lm := lm) .no c1 c2 fun i r c h1 h2 => (allSome_get c3 h1).2 c h2
    have hHl : (A1.hand w0 μi W ρ lm .no).X (w.heap.size + 1) := .inl hlX
    have hHF : ¬ (A1.hand w0 μi W ρ lm .no).F (w.heap.size + 1) := by
      rintro (h | h | ⟨x, _, h⟩)
      · exact hlF h
      · exact h.1.2 hlX
      · exact (hsi.mem.xo _ hlX).2 x h
    generalize hH : A1.hand w0 μi W ρ lm .no = H at hv hHl hHF
    have hHnp : H.np = ρ.length := by rw [← hH]; rfl
    have hv0 := hv.addF hHl
    have heH0 : H.Ext (H.addF (w.heap.size + 1) W) := (Dom.Ext.refl H).addF hv _
    refine evA_sound (B := H) (ρ := some (w.heap.size + 1)) hε (fun h => by cases h) xa (A0 := H.addF (w.heap.size + 1) W) heH0 (by show H.np ≤ _; rw [hHnp]; exact Nat.le_refl _) _ (fun A2 ex st2 tm2 E2 a2 w2 μ2 he2 h1 h2 hl0 h3 => ?_) _ _ W _ hround (by show Sim _ _ _ ((ps.zip encs[i]).foldl (fun (t : Array Value) (q : Nat × Value) => t.setIfInBounds q.1 q.2) a.tmps) _ _; rw [htm]; exact hv0) trivial
    cases ex with
    | exit id => cases h1
    | ret => cases h1
    | panic => cases h1
    | normal =>
      obtain ⟨rfl, rfl⟩ := hl0
      have hl2 : w2.heap[w.heap.size + 1]? = some (.loop (rec .ready none)) := by
        have := (h2.mem.fr _ (he2.F _ (.inr rfl)).1).2.1
        rw [(he2.F _ (.inr rfl)).2] at this
        exact this.trans hl
      have hX2 : A2.X (w.heap.size + 1) := he2.X _ hHl
      have he2' : H.Ext A2 := heH0.trans he2
      refine ⟨_, run_beginRound hl2 (by rw [hrec]), ?_⟩
      have h2' : Sim (A2.noF (w.heap.size + 1)) w0 st2 a2.tmps (w2.putObj (w.heap.size + 1) (.loop { rec .ready none with state := .busy })) μ2 := (h2.noF _).putX hX2 (fun h => h.2 rfl) hlw
      have he3 : H.Ext (A2.noF (w.heap.size + 1)) := he2'.noF hHF
      have h3' := h2'.addF (l := w.heap.size + 1) hX2
      have he3' := he3.addF h2' (w.heap.size + 1)
      have hbusy : (w2.putObj (w.heap.size + 1) (.loop { rec .ready none with state := .busy })).heap[w.heap.size + 1]? = some (.loop { rec .ready none with state := .busy }) := World.putObj_heap_same (Array.getElem?_eq_some_iff.1 hl2).1
      generalize w2.putObj (w.heap.size + 1) (.loop { rec .ready none with state := .busy }) = w3 at h2' h3' he3' hbusy
      have hd3 : Dok H w0 ((A2.noF (w.heap.size + 1)).addF (w.heap.size + 1) w3) a2.defers := by
        exact Dok.rebase hHl (st := st2) (tmps := a2.tmps) (μ := μ2) h2' h3
      refine evA_sound (B := H) (ρ := some (w.heap.size + 1)) hε (fun h => by cases h) xb (A0 := (A2.noF (w.heap.size + 1)).addF (w.heap.size + 1) w3) he3' (by rw [he3'.np, hHnp]; exact Nat.le_refl _) _ (fun A4 ex st4 tm4 E4 a4 w4 μ4 he4 g1 g2 hl0 g3 => ?_) _ a2 w3 μ2 h1 h3' hd3
      obtain ⟨rfl, rfl⟩ : tm4 = a4.tmps ∧ E4 = ex.out := by
        cases ex with
        | panic => cases g1
        | normal => exact hl0
        | ret => exact hl0
        | exit id => exact hl0
      have hX4 : A4.X (w.heap.size + 1) := he4.X _ hX2
      have hl4 : w4.heap[w.heap.size + 1]? = some (.loop { rec .ready none with state := .busy }) := by
        have := (g2.mem.fr _ (he4.F _ (.inr rfl)).1).2.1
        rw [(he4.F _ (.inr rfl)).2] at this
        exact this.trans hbusy
      have he5 : H.Ext (A4.noF (w.heap.size + 1)) := (he3'.trans he4).noF hHF
      have hend : ∀ jump : Option Code, (Instr.endRound (w.heap.size + 1) jump).run P w4 = .ok (.bool jump.isNone) (w4.putObj (w.heap.size + 1) (.loop (rec (if jump.isNone then .ready else .done) jump))) := fun jump => by
        have := run_endRound (P := P) jump hl4
        rw [hrec] at this ⊢
        exact this
      have hput : ∀ o', ∃ μ5, Sim A1 w0 (unview (fill sh yi) ρ lm .no st4) a.tmps (w4.putObj (w.heap.size + 1) o') μ5 := fun o' => by
        have h6 : Sim (A4.noF (w.heap.size + 1)) w0 st4 a4.tmps (w4.putObj (w.heap.size + 1) o') μ4 := (g2.noF _).putX hX4 (fun h => h.2 rfl) hlw
        have h7 := he5.sim h6
        subst hH
        obtain ⟨μ5, h8, _⟩ := unview_sim (sm := .no) hsi (fun x h => by cases h) c1 c2 c3 c4 h7
        exact ⟨μ5, h8⟩
      have hlp : ∀ o', (w4.putObj (w.heap.size + 1) o').heap[w.heap.size + 1]? = some o' := fun o' => World.putObj_heap_same (Array.getElem?_eq_some_iff.1 hl4).1
      have hnpA : A1.np ≤ np := hnp
      cases ex with
      | panic => cases g1
      | normal =>
        simp only [Option.map_eq_some_iff] at g1
        obtain ⟨y', hy', rfl⟩ := g1
        obtain ⟨μ5, h8⟩ := hput (.loop (rec .ready none))
        refine ⟨_, _, hend none, .inl ⟨rfl, ⟨y', _, abs_sound h8 (Nat.le_trans hnpA (Nat.le_of_ble_eq_true hnp1)) hy', hlp _, hrest⟩, fun b hb => ?_⟩⟩
        exact (hkeep h8 b hb).trans rfl
      | ret =>
        simp only [Option.map_eq_some_iff] at g1
        obtain ⟨o', ho', rfl⟩ := g1
        obtain ⟨μ5, h8⟩ := hput (.loop (rec .done (some .ret)))
        simp only [Option.some.injEq] at hrest; subst hrest
        obtain ⟨e, μ6, h9⟩ := packOut_sound h8 (outsOk_le hnpA hnp2) ho'
        exact ⟨_, _, hend (some .ret), .inr ⟨rfl, .ret, μ6, h9, by rw [e]; rfl, hlp _⟩⟩
      | exit id =>
        simp only [Option.map_eq_some_iff] at g1
        obtain ⟨o', ho', rfl⟩ := g1
        obtain ⟨μ5, h8⟩ := hput (.loop (rec .done (some (.exit id))))
        simp only [Option.some.injEq] at hrest; subst hrest
        obtain ⟨e, μ6, h9⟩ := packOut_sound h8 (outsOk_le hnpA hnp2) ho'
        exact ⟨_, _, hend (some (.exit id)), .inr ⟨rfl, .exit id, μ6, h9, by rw [e]; rfl, hlp _⟩⟩
  · intro e W2 ⟨⟨v, he⟩, hor⟩
    subst he
    have hendL : ∀ st pe, st ≠ .busy → W2.heap[w.heap.size + 1]? = some (.loop (rec st pe)) → (Instr.endLoop (w.heap.size + 1)).run P W2 = .ok pe (W2.putObj (w.heap.size + 1) (.loop (rec .exhausted pe))) := fun st pe h1 h2 => by
      have := run_endLoop (P := P) h2 (by rw [hrec]; exact h1)
      rw [hrec] at this ⊢; exact this
    have hDok : Dok B w0 A1 ([{ target := .collected w.heap.size, args := #[] }] ++ a.defers) := by
      have hlt : ¬ A0.F w.heap.size := fun h => by have := (hm0.fr _ h).1; omega
      refine ⟨⟨w.heap.size, rfl, .inr (.inr rfl), hDX, hK1, fun h => hlt (hB.F _ h).1, fun h => ?_, hm0.below.size, Dok.old hlt hd⟩, Dok.ext hA1 hd⟩
      have := (hm0.xo _ (hB.X _ h)).1; omega
    have hnpA : A1.np ≤ np := hnp
    rcases hor with ⟨yi, μ', hsi, hl, hrun⟩ | ⟨c, μ', hsi, hc, hl⟩
    · rw [List.drop_of_length_le (by omega)] at hrun
      obtain ⟨e, μ6, h9⟩ := packOut_sound hsi (outsOk_le hnpA hnp2) hrun
      refine ⟨none, _, hendL _ _ (by simp) hl, ?_⟩
      exact hQ A1 _ .normal { a with defers := [{ target := .collected w.heap.size, args := #[] }] ++ a.defers } _ μ6 hA1 (h9.putX (o := .loop (rec .exhausted none)) hlX hlF hlw) (by rw [e]; exact ⟨rfl, rfl⟩) hDok
    · refine ⟨some c, _, hendL _ _ (by simp) hl, ?_⟩
      have := fun E h => hQ A1 a.tmps E { a with defers := [{ target := .collected w.heap.size, args := #[] }] ++ a.defers } _ μ' hA1 (hsi.putX (o := .loop (rec .exhausted (some c))) hlX hlF hlw) h hDok
      cases hex : (unOut outs o).1 with
      | normal => rw [hex] at hc; cases hc
      | panic => rw [hex] at hc; cases hc
      | ret => rw [hex] at hc this; cases hc; exact wpIn_ret (this _ ⟨rfl, rfl⟩)
      | exit id => rw [hex] at hc this; cases hc; exact wpIn_exit (this _ ⟨rfl, rfl⟩)
end
end Go.Pe
