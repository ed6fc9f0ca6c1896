/- The relation between the evaluator's state and a world; the operations that only compute. -/
import Derived.Test.YtgghmllnhaahgaaPeRep
import Derived.Test.YtgghmllnhaahgaaPeNat
import Derived.WalkKit
import Derived.Deep.AppendSrc
import Derived.Laws.MakeOwn
import Derived.ControlIn
namespace Go.Pe
open Go.RowKit

/-- What lies about: blocks that hold closed data; blocks that stay as they are; blocks that no data may lie in; records that stay where they are. -/
structure Dom where
  A : Nat → Prop
  F : Nat → Prop
  X : Nat → Prop
  wF : World
  pin : Nat → Option Nat
  np : Nat
  keep : Value
def Dom.of (A : Nat → Prop) (w : World) : Dom := ⟨A, fun _ => False, fun _ => False, w, fun _ => none, 0, .bool false⟩
def Imm (A0 : Dom) (w0 : World) (μ : Mu) (w : World) (b : Nat) : Prop := ((A0.A b ∨ w0.heap.size ≤ b) ∧ ¬ A0.X b) ∧ b < w.heap.size ∧ ∀ x, μ.at_ x ≠ some b
def cx (A0 : Dom) (w0 : World) (recs : List (Option (List AV))) (lsts : List (Option LObj)) (w : World) (μ : Mu) : Cx := ⟨Imm A0 w0 μ w, w, μ, recs, lsts, A0.keep⟩

def Own (w : World) (b : Nat) (vs : Array Value) : Prop := ∃ el, w.heap[b]? = some (.cells vs el (0, 0))

def LstAt (c : Cx) (t : Nat) (o : LObj) : Prop :=
  (c.μ.at_ (.l t) = none ∧ o.xs = []) ∨
  ∃ b vs, c.μ.at_ (.l t) = some b ∧ Own c.w b vs ∧ vs.size = c.μ.cap t * o.e.size ∧ o.xs.length ≤ c.μ.cap t ∧ ∃ us rest, vs.toList = us ++ rest ∧ RepAll (Rep c.A c.w o.e) o.xs us

/-- Where the lists of such a row's values lie. -/
def NestAt (c : Cx) (k : Nat) (e : Ty) (xs : List e.den) (v : Value) : Prop :=
  (c.μ.at_ (.n k) = none ∧ xs = [] ∧ v = .slice none 0 0) ∨
  ∃ b vs cap, c.μ.at_ (.n k) = some b ∧ v = .slice (some ⟨b, 0, none⟩) xs.length cap ∧ Own c.w b vs ∧ vs.size = cap * e.size ∧ xs.length ≤ cap ∧ ∃ us rest, vs.toList = us ++ rest ∧ RepAll (Rep c.A c.w e) xs us
def FramesAt (c : Cx) : Nat → List V → List Value → Prop
  | _, [], us => us = []
  | i, f :: fs, us => ∃ iv kv us', us = .int .i64 f.kind :: .int .i64 f.n :: .string ⟨f.s.toArray⟩ :: iv :: kv :: us' ∧ NestAt c (2 * i + 1) .value f.items iv ∧ NestAt c (2 * i + 2) .str f.keys kv ∧ FramesAt c (i + 1) fs us'
structure DeepAt (c : Cx) (d : DP) : Prop where
  top : ∀ r, d.top = some r → r < c.recs.length ∧ c.μ.at_ (.r r) = none
  lim : ∀ k b, c.μ.at_ (.n k) = some b → k ≤ 2 * d.fs.length
  row : (c.μ.at_ (.n 0) = none ∧ d.fs = [] ∧ d.top = none) ∨ ∃ b vs pre rest, c.μ.at_ (.n 0) = some b ∧ Own c.w b vs ∧ vs.size = d.cap * 5 ∧ d.fs.length + d.top.toList.length ≤ d.cap ∧ vs.toList = pre ++ rest ∧ FramesAt c 0 d.fs pre
/-- A record that stands behind such a row. -/
def TopAt (c : Cx) (r : Nat) (cells : List AV) : Prop :=
  ∃ d b vs, c.μ.dp = some d ∧ d.top = some r ∧ c.μ.at_ (.n 0) = some b ∧ Own c.w b vs ∧ RepAVs c cells ((vs.toList.drop (d.fs.length * 5)).take 5)

/-- What is known of the package's variables, in whatever world behind the first one. -/
class GI where
  inv : World → Prop
  mono : ∀ {w w' : World}, inv w → Below w.heap.size w w' → inv w'
  bt : TypeId   -- strings.Builder
  u8 : TypeId   -- uint8
set_option linter.unusedSectionVars false
set_option linter.unusedVariables false
variable [GI]
def isBld : List AV → Bool | .bld _ :: _ => true | _ => false
/-- Types of builders' blocks, of bytes' blocks. -/
structure BTy (recs : List (Option (List AV))) (lsts : List (Option LObj)) (w : World) (μ : Mu) : Prop where
  r : ∀ r cells, getL recs r = some cells → isBld cells = true → ∀ b, μ.at_ (.r r) = some b → ∃ vs, w.heap[b]? = some (.cells vs GI.bt (0, 0))
  l : ∀ t o, getL lsts t = some o → o.e = .int .u8 → ∀ b, μ.at_ (.l t) = some b → ∃ vs, w.heap[b]? = some (.cells vs GI.u8 (0, 0))
theorem BTy.map {recs lsts recs' lsts'} {w w' : World} {μ μ' : Mu} (h : BTy recs lsts w μ)
    (hr : ∀ r' cells', getL recs' r' = some cells' → isBld cells' = true → ∀ b, μ'.at_ (.r r') = some b → (∃ r cells, getL recs r = some cells ∧ isBld cells = true ∧ μ.at_ (.r r) = some b) ∨ ∃ vs, w'.heap[b]? = some (.cells vs GI.bt (0, 0)))
    (hl : ∀ t' o', getL lsts' t' = some o' → o'.e = .int .u8 → ∀ b, μ'.at_ (.l t') = some b → (∃ t o, getL lsts t = some o ∧ o.e = .int .u8 ∧ μ.at_ (.l t) = some b) ∨ ∃ vs, w'.heap[b]? = some (.cells vs GI.u8 (0, 0)))
    (hw : ∀ x b (vs : Array Value) (T : TypeId), μ.at_ x = some b → w.heap[b]? = some (.cells vs T (0, 0)) → ∃ vs', w'.heap[b]? = some (.cells vs' T (0, 0))) : BTy recs' lsts' w' μ' := by
  refine ⟨fun r' cells' h1 h2 b hb => ?_, fun t' o' h1 h2 b hb => ?_⟩
  · rcases hr r' cells' h1 h2 b hb with ⟨r, cells, g1, g2, g3⟩ | g
    · obtain ⟨vs, h3⟩ := h.r r cells g1 g2 b g3
      exact hw _ _ _ _ g3 h3
    · exact g
  · rcases hl t' o' h1 h2 b hb with ⟨t, o, g1, g2, g3⟩ | g
    · obtain ⟨vs, h3⟩ := h.l t o g1 g2 b g3
      exact hw _ _ _ _ g3 h3
    · exact g
theorem BTy.ext {recs lsts} {w w' : World} {μ : Mu} (h : BTy recs lsts w μ) (hw : ∀ x b, μ.at_ x = some b → w'.heap[b]? = w.heap[b]?) : BTy recs lsts w' μ :=
  h.map (fun r c h1 h2 b hb => .inl ⟨r, c, h1, h2, hb⟩) (fun t o h1 h2 b hb => .inl ⟨t, o, h1, h2, hb⟩) fun x b vs T hx hv => ⟨vs, (hw x b hx).trans hv⟩

structure Mem (A0 : Dom) (w0 : World) (recs : List (Option (List AV))) (lsts : List (Option LObj)) (w : World) (μ : Mu) : Prop where
  hrec : ∀ r cells, getL recs r = some cells → isMark cells = false → ∃ b vs, μ.at_ (.r r) = some b ∧ Own w b vs ∧ RepAVs (cx A0 w0 recs lsts w μ) cells vs.toList
  hlst : ∀ t o, getL lsts t = some o → LstAt (cx A0 w0 recs lsts w μ) t o
  live : ∀ x b, μ.at_ x = some b → w0.heap.size ≤ b ∧ b < w.heap.size ∧ (match x with | .r r => (getL recs r).isSome = true | .l t => (getL lsts t).isSome = true | .n _ => μ.dp.isSome = true)
  inj : ∀ x y b, μ.at_ x = some b → μ.at_ y = some b → x = y
  below : Below w0.heap.size w0 w
  fr : ∀ b, A0.F b → b < w.heap.size ∧ w.heap[b]? = A0.wF.heap[b]? ∧ ∀ x, μ.at_ x ≠ some b
  xo : ∀ b, A0.X b → b < w.heap.size ∧ ∀ x, μ.at_ x ≠ some b
  np : A0.np ≤ recs.length
  pins : ∀ r b, A0.pin r = some b → r < A0.np ∧ ((getL recs r).isSome = true → μ.at_ (.r r) = some b)
  gi : GI.inv w0
  bty : BTy recs lsts w μ
  htop : ∀ r cells, getL recs r = some (.sx .mark :: cells) → TopAt (cx A0 w0 recs lsts w μ) r cells
  deep : ∀ d, μ.dp = some d → DeepAt (cx A0 w0 recs lsts w μ) d

/-- What stays, of such a row. -/
structure Cx.Deep (c c' : Cx) : Prop where
  A : ∀ b, c.A b → c'.A b
  w : ∀ b, c.A b → c'.w.heap[b]? = c.w.heap[b]?
  n : ∀ k, c'.μ.at_ (.n k) = c.μ.at_ (.n k)
  b : ∀ k b, c.μ.at_ (.n k) = some b → c'.w.heap[b]? = c.w.heap[b]?
  nr : c.recs.length ≤ c'.recs.length
  r : ∀ r, r < c.recs.length → c.μ.at_ (.r r) = none → c'.μ.at_ (.r r) = none
/-- The same, but for the row itself. -/
structure Cx.Deep1 (c c' : Cx) : Prop where
  A : ∀ b, c.A b → c'.A b
  w : ∀ b, c.A b → c'.w.heap[b]? = c.w.heap[b]?
  n : ∀ k, k ≠ 0 → c'.μ.at_ (.n k) = c.μ.at_ (.n k)
  b : ∀ k b, k ≠ 0 → c.μ.at_ (.n k) = some b → c'.w.heap[b]? = c.w.heap[b]?
theorem Cx.Deep.one {c c' : Cx} (h : c.Deep c') : c.Deep1 c' := ⟨h.A, h.w, fun k _ => h.n k, fun k b _ hb => h.b k b hb⟩
theorem Own.ext0 {w w' : World} {b vs} (h : Own w b vs) (hb : w'.heap[b]? = w.heap[b]?) : Own w' b vs := by
  obtain ⟨el, e⟩ := h; exact ⟨el, by rw [hb]; exact e⟩
theorem NestAt.mono {c c' : Cx} (h : c.Deep1 c') {k e xs v} (hk : k ≠ 0) (hn : NestAt c k e xs v) : NestAt c' k e xs v := by
  rcases hn with ⟨h1, h2, h3⟩ | ⟨b, vs, cap, h1, h2, h3, h4, h5, us, rest, h6, h7⟩
  · exact .inl ⟨by rw [h.n _ hk]; exact h1, h2, h3⟩
  · exact .inr ⟨b, vs, cap, by rw [h.n _ hk]; exact h1, h2, h3.ext0 (h.b _ _ hk h1), h4, h5, us, rest, h6, h7.imp fun x u hx => hx.mono h.A h.w⟩
theorem FramesAt.mono {c c' : Cx} (h : c.Deep1 c') : ∀ {fs i us}, FramesAt c i fs us → FramesAt c' i fs us
  | [], _, _, hf => hf
  | f :: fs, i, us, hf => by
    obtain ⟨iv, kv, us', h1, h2, h3, h4⟩ := hf
    exact ⟨iv, kv, us', h1, h2.mono h (by omega), h3.mono h (by omega), FramesAt.mono h h4⟩
theorem FramesAt.length {c : Cx} : ∀ {fs i us}, FramesAt c i fs us → us.length = fs.length * 5
  | [], _, _, hf => by simp only [FramesAt] at hf; subst hf; rfl
  | f :: fs, i, us, hf => by
    obtain ⟨iv, kv, us', rfl, _, _, h4⟩ := hf
    simp [FramesAt.length h4]; omega
theorem DeepAt.mono {c c' : Cx} (h : c.Deep c') {d : DP} (hd : DeepAt c d) : DeepAt c' d := by
  refine ⟨fun r hr => ?_, fun k b hk => hd.lim k b (by rw [← h.n]; exact hk), ?_⟩
  · obtain ⟨h1, h2⟩ := hd.top r hr
    exact ⟨Nat.lt_of_lt_of_le h1 h.nr, h.r r h1 h2⟩
  · rcases hd.row with ⟨h1, h2, h3⟩ | ⟨b, vs, pre, rest, h1, h2, h3, h4, h5, h6⟩
    · exact .inl ⟨by rw [h.n]; exact h1, h2, h3⟩
    · exact .inr ⟨b, vs, pre, rest, by rw [h.n]; exact h1, h2.ext0 (h.b _ _ h1), h3, h4, h5, h6.mono h.one⟩
theorem TopAt.imp {c c' : Cx} {r : Nat} {cells cells' : List AV} (hdp : c'.μ.dp = c.μ.dp) (hn : c'.μ.at_ (.n 0) = c.μ.at_ (.n 0)) (hb : ∀ b, c.μ.at_ (.n 0) = some b → c'.w.heap[b]? = c.w.heap[b]?) (hr : ∀ us, RepAVs c cells us → RepAVs c' cells' us) (h : TopAt c r cells) : TopAt c' r cells' := by
  obtain ⟨d, b, vs, h1, h2, h3, h4, h5⟩ := h
  exact ⟨d, b, vs, by rw [hdp]; exact h1, h2, by rw [hn]; exact h3, h4.ext0 (hb _ h3), hr _ h5⟩
theorem isMark_some {c : List AV} (h : isMark c = true) : ∃ l, c = .sx .mark :: l := by
  unfold isMark at h; split at h
  · exact ⟨_, rfl⟩
  · cases h
theorem Mem.plain {A0 w0 recs lsts w μ} (hm : Mem A0 w0 recs lsts w μ) {r b : Nat} {cells : List AV} (h : getL recs r = some cells) (hb : μ.at_ (.r r) = some b) : isMark cells = false := by
  cases hk : isMark cells with
  | false => rfl
  | true =>
    obtain ⟨l, rfl⟩ := isMark_some hk
    obtain ⟨d, _, _, h1, h2, _⟩ := hm.htop r l h
    have := ((hm.deep d h1).top r h2).2
    rw [show (cx A0 w0 recs lsts w μ).μ.at_ (.r r) = μ.at_ (.r r) from rfl, hb] at this; cases this

theorem Mem.rec_at {A0 w0 recs lsts w μ} (hm : Mem A0 w0 recs lsts w μ) {r b : Nat} {cells : List AV} (h : getL recs r = some cells) (hb : μ.at_ (.r r) = some b) : ∃ vs, Own w b vs ∧ RepAVs (cx A0 w0 recs lsts w μ) cells vs.toList := by
  obtain ⟨b', vs, h1, h2, h3⟩ := hm.hrec r cells h (hm.plain h hb)
  rw [hb] at h1; cases h1
  exact ⟨vs, h2, h3⟩
structure Sim (A0 : Dom) (w0 : World) (st : St) (tmps : Array Value) (w : World) (μ : Mu) : Prop where
  slots : RepAVs (cx A0 w0 st.recs st.lsts w μ) st.slots tmps.toList
  mem : Mem A0 w0 st.recs st.lsts w μ

/-! ### Contracts -/
/-- Closed values. -/
def c0 (A : Nat → Prop) (w : World) : Cx := ⟨A, w, ⟨fun _ => none, fun _ => 0, none⟩, [], [], .bool false⟩
def News (w w' : World) (A : Nat → Prop) (b : Nat) : Prop := A b ∨ (w.heap.size ≤ b ∧ b < w'.heap.size)

/-- What a function does that only reads, and makes. -/
def Sound (P : Program) (f : Nat) (G : PFun) : Prop :=
  (∃ fn, P.funcs[f]? = some fn ∧ (fn.name == "runtime.NumGoroutine") = false ∧ fn.body.isSome = true) ∧
  ∀ (S : Type) (args : List AV) (K : AV → Option S) (r : S), G args K = some r →
    ∀ (A : Nat → Prop) (w : World) (vs : List Value), (∀ b, A b → b < w.heap.size) → GI.inv w → closedL args = true → RepAVs (c0 A w) args vs →
      ∃ av, K av = some r ∧ av.closed = true ∧ Calls P f vs.toArray w fun e w' => ∃ v, e = .returned v ∧ Below w.heap.size w w' ∧ RepAV (c0 (News w w' A) w') av v

/-- What a function ends with. -/
def retVal (vs : List Value) : Value := if h : vs.toArray.size = 1 then vs.toArray[0] else .tuple vs.toArray
/-- What a function does that is handed own memory. -/
def SoundH (P : Program) (f : Nat) (h : HF) : Prop :=
  (∃ fn, P.funcs[f]? = some fn ∧ (fn.name == "runtime.NumGoroutine") = false ∧ fn.body.isSome = true) ∧
  ∀ y o, h.F y = some o → ∀ (A0 : Dom) (w0 w : World) (vs : List Value) (μ : Mu), Sim A0 w0 (fill h.I y) vs.toArray w μ →
    Calls P f vs.toArray w fun e w' => ∃ us μ', e = .returned (retVal us) ∧ Sim A0 w0 (fill h.O o) us.toArray w' μ'

/-- The same, of a function that may panic. -/
def SoundP (P : Program) (f : Nat) (h : PF) : Prop :=
  (∃ fn, P.funcs[f]? = some fn ∧ (fn.name == "runtime.NumGoroutine") = false ∧ fn.body.isSome = true) ∧
  ∀ y o, h.F y = some o → ∀ (A0 : Dom) (w0 w : World) (vs : List Value) (μ : Mu), Sim A0 w0 (fill h.I y) vs.toArray w μ →
    Calls P f vs.toArray w fun e w' => match o with
      | .inl o => ∃ us μ', e = .returned (retVal us) ∧ Sim A0 w0 (fill h.O o) us.toArray w' μ'
      | .inr z => ∃ v μ', e = .panicked [{ v := v, recovered := false }] ∧ Sim A0 w0 (fill h.Z z) #[v] w' μ'

def eqFs : Nat → List Field → Bool
  | _, [] => true
  | i, f :: r => (f.name != "_") && Nat.beq f.offset i && eqFs (i + 1) r
structure TiOk (P : Program) (t : Nat) (i : TI) : Prop where
  under : P.underlying t = some i.desc
  info : ∃ inf, P.info? t = some inf ∧ inf.size = i.size ∧ inf.bytes ≤ 16384 ∧ ∃ z, inf.zero = some z ∧ z.cells.size = i.size ∧ ∀ c : Cx, RepAVs c i.zero z.cells.toList
  agg : i.agg = (match i.desc with | .struct _ | .array _ _ => true | _ => false)
  ty : ∀ e, i.ty = some e → e.size = i.size
  u8 : i.ty = some (.int .u8) → t = GI.u8
  bld : i.bld = true → t = GI.bt
  eq : i.eq = true → ∃ fs, P.underlying t = some (.struct fs) ∧ P.stoodInHeld t = false ∧ P.eqGuardType P.depth t = false ∧ eqFs 0 fs.toList = true
/-- It yields the place of a row's last one. -/
def TopFn (P : Program) (f : Nat) : Prop :=
  (∃ fn, P.funcs[f]? = some fn ∧ (fn.name == "runtime.NumGoroutine") = false ∧ fn.body.isSome = true) ∧
  ∀ (w : World) (b off bS n cap : Nat), n < 4294967296 → w.cell? ⟨b, off, none⟩ = some (.slice (some ⟨bS, 0, none⟩) (n + 1) cap) →
    Calls P f #[.pointer (some ⟨b, off, none⟩)] w fun e w' => e = .returned (.pointer (some ⟨bS, n * 5, none⟩)) ∧ Below w.heap.size w w'
structure EnvOk (P : Program) (ε : Env) : Prop where
  ti : ∀ t i, ε.ti t = some i → TiOk P t i
  fn : ∀ f G sc, ε.fn f = some (G, sc) → Sound P f G
  uni : ∀ f G sc, ε.fn f = some (G, sc) → PFun.Uni @G
  mixed : P.follows .mixedOrders = true
  hf : ∀ f h, h ∈ ε.hf f → SoundH P f h
  pf : ∀ f h, h ∈ ε.pf f → SoundP P f h
  top : ∀ f, ε.top f = true → TopFn P f

/-! ### From one state to another -/
section
variable {A0 : Dom} {w0 w w' : World} {recs : List (Option (List AV))} {lsts : List (Option LObj)} {μ : Mu}

theorem Imm.ext (hs : w.heap.size ≤ w'.heap.size) {b} (h : Imm A0 w0 μ w b) : Imm A0 w0 μ w' b := ⟨h.1, Nat.lt_of_lt_of_le h.2.1 hs, h.2.2⟩
theorem cx.ext (h : Below w.heap.size w w') : (cx A0 w0 recs lsts w μ).Le (cx A0 w0 recs lsts w' μ) :=
  ⟨fun _ hb => hb.ext h.size, fun b hb => h.block b hb.2.1, Nat.le_refl _, Nat.le_refl _, fun _ _ hs => ⟨hs, rfl⟩, fun _ o _ ho => ⟨o, ho, rfl, rfl, rfl, rfl⟩, fun _ _ h => h⟩
theorem Own.ext {b vs} (h : Own w b vs) (hb : w'.heap[b]? = w.heap[b]?) : Own w' b vs := by
  obtain ⟨el, e⟩ := h; exact ⟨el, by rw [hb]; exact e⟩
theorem Mem.ext (hm : Mem A0 w0 recs lsts w μ) (h : Below w.heap.size w w') : Mem A0 w0 recs lsts w' μ where
  hrec r cells hr hk := by
    obtain ⟨b, vs, hb, ho, hv⟩ := hm.hrec r cells hr hk
    exact ⟨b, vs, hb, ho.ext (h.block b (hm.live _ _ hb).2.1), hv.mono (cx.ext h)⟩
  hlst t o ht := by
    rcases hm.hlst t o ht with h1 | ⟨b, vs, hb, ho, hsz, hc, us, rest, e, hr⟩
    · exact .inl h1
    · exact .inr ⟨b, vs, hb, ho.ext (h.block b (hm.live _ _ hb).2.1), hsz, hc, us, rest, e, hr.imp fun x u hx => hx.mono (cx.ext (A0 := A0) (w0 := w0) (recs := recs) (lsts := lsts) (μ := μ) h).A (cx.ext (A0 := A0) (w0 := w0) (recs := recs) (lsts := lsts) (μ := μ) h).w⟩
  live x b hx := by obtain ⟨h1, h2, h3⟩ := hm.live x b hx; exact ⟨h1, Nat.lt_of_lt_of_le h2 h.size, h3⟩
  inj := hm.inj
  below := hm.below.trans (h.mono hm.below.size)
  fr b hb := by obtain ⟨h1, h2, h3⟩ := hm.fr b hb; exact ⟨Nat.lt_of_lt_of_le h1 h.size, by rw [h.block b h1]; exact h2, h3⟩
  xo b hb := by obtain ⟨h1, h2⟩ := hm.xo b hb; exact ⟨Nat.lt_of_lt_of_le h1 h.size, h2⟩
  np := hm.np
  pins := hm.pins
  gi := hm.gi
  bty := hm.bty.ext fun x b hx => h.block b (hm.live _ _ hx).2.1
  htop r cells hr := (hm.htop r cells hr).imp (c := cx A0 w0 recs lsts w μ) rfl rfl (fun b hb => h.block b (hm.live _ _ hb).2.1) fun us hu => hu.mono (cx.ext h)
  deep d hd := (hm.deep d hd).mono ⟨(cx.ext (A0 := A0) (w0 := w0) (recs := recs) (lsts := lsts) (μ := μ) h).A, (cx.ext (A0 := A0) (w0 := w0) (recs := recs) (lsts := lsts) (μ := μ) h).w, fun _ => rfl, fun k b hb => h.block b (hm.live _ _ hb).2.1, Nat.le_refl _, fun _ _ h => h⟩
theorem Mem.new_ok (hm : Mem A0 w0 recs lsts w μ) {k : Nat} (hk : w.heap.size ≤ k) : (A0.A k ∨ w0.heap.size ≤ k) ∧ ¬ A0.X k :=
  ⟨.inr (Nat.le_trans hm.below.size hk), fun hx => absurd (hm.xo k hx).1 (by omega)⟩
/-- What holds own memory is no block that stays. -/
theorem Mem.own_ok (hm : Mem A0 w0 recs lsts w μ) {x : Loc} {b : Nat} (hb : μ.at_ x = some b) : (A0.A b ∨ w0.heap.size ≤ b) ∧ ¬ A0.X b :=
  ⟨.inr (hm.live x b hb).1, fun hx => (hm.xo b hx).2 x hb⟩
theorem Sim.ext {st : St} {tmps} (hm : Sim A0 w0 st tmps w μ) (h : Below w.heap.size w w') : Sim A0 w0 st tmps w' μ := ⟨hm.slots.mono (cx.ext h), hm.mem.ext h⟩
end

/-- Closed values read whatever own memory there is. -/
structure Cx.Sub (c c' : Cx) : Prop where
  A : ∀ b, c.A b → c'.A b
  w : ∀ b, c.A b → c'.w.heap[b]? = c.w.heap[b]?
mutual
theorem RepAV.closed {c c' : Cx} (h : c.Sub c') : ∀ {av v}, av.closed = true → RepAV c av v → RepAV c' av v
  | .d t x, v, _, hr => by simp only [RepAV] at hr ⊢; exact hr.mono h.A h.w
  | .full e x, v, _, hr => by simp only [RepAV] at hr ⊢; exact ⟨hr.1, hr.2.mono h.A h.w⟩
  | .nilS, v, _, hr => by simpa only [RepAV] using hr
  | .nilP, v, _, hr => by simpa only [RepAV] using hr
  | .pim cells, v, hc, hr => by
    simp only [RepAV] at hr ⊢
    obtain ⟨ad, us, e, hsp, hA, hcs, hu⟩ := hr
    exact ⟨ad, us, e, hsp, h.A _ hA, hcs.mono (h.w _ hA), hu.closed h (by simpa [AV.closed] using hc)⟩
  | .agg l, v, hc, hr => by simp only [RepAV] at hr ⊢; obtain ⟨us, e, hu⟩ := hr; exact ⟨us, e, hu.closed h (by simpa [AV.closed] using hc)⟩
  | .ifc q l, v, hc, hr => by simp only [RepAV] at hr ⊢; obtain ⟨us, e, hu⟩ := hr; exact ⟨us, e, hu.closed h (by simpa [AV.closed] using hc)⟩
  | .tup l, v, hc, hr => by simp only [RepAV] at hr ⊢; obtain ⟨us, e, hu⟩ := hr; exact ⟨us, e, hu.closed h (by simpa [AV.closed] using hc)⟩
  | .fn f a b, v, hc, hr => by
    simp only [RepAV] at hr ⊢; obtain ⟨a', b', e, h1, h2⟩ := hr
    simp only [AV.closed, Bool.and_eq_true] at hc
    exact ⟨a', b', e, h1.closed h hc.1, h2.closed h hc.2⟩
  | .whole _, _, hc, _ | .sx _, _, hc, _ | .bld _, _, hc, _ | .ptr _ _, _, hc, _ | .eptr _ _ _, _, hc, _ | .dead, _, hc, _ => by simp [AV.closed] at hc
theorem RepAVs.closed {c c' : Cx} (h : c.Sub c') : ∀ {l vs}, RepAVs c l vs → closedL l = true → RepAVs c' l vs
  | [], _, hr, _ => by simpa only [RepAVs] using hr
  | x :: xs, _, hr, hc => by
    simp only [RepAVs] at hr ⊢
    simp only [closedL, Bool.and_eq_true] at hc
    obtain ⟨v, us, e, h1, h2⟩ := hr
    exact ⟨v, us, e, RepAV.closed h hc.1 h1, h2.closed h hc.2⟩
end

/-! ### Operands -/
theorem ofConst1_rep (c : Cx) (v : Value) : RepAV c (ofConst1 v) v := by
  unfold ofConst1
  split <;> simp only [RepAV, Rep] <;> first | rfl | trivial | exact ⟨_, rfl⟩ | skip
theorem ofConst1s_rep (c : Cx) : ∀ l : List Value, RepAVs c (l.map ofConst1) l
  | [] => by simp [RepAVs]
  | v :: l => by simp only [List.map_cons, RepAVs]; exact ⟨v, l, rfl, ofConst1_rep c v, ofConst1s_rep c l⟩
theorem ofConst_rep (c : Cx) (v : Value) : RepAV c (ofConst v) v := by
  unfold ofConst
  split
  · rename_i l
    simp only [RepAV]
    exact ⟨l, rfl, ofConst1s_rep c l.toList⟩
  · exact ofConst1_rep c v
theorem ev_rep {c : Cx} {st : St} {a : Act} (h : RepAVs c st.slots a.tmps.toList) (x : Operand) : RepAV c (st.ev x) (a.eval x) := by
  cases x with
  | tmp t =>
    simp only [St.ev, Act.eval]
    cases hs : st.slots[t]? with
    | none => rw [List.getD_eq_getElem?_getD, hs]; simp only [Option.getD_none, RepAV]
    | some av =>
      obtain ⟨v, hv, hr⟩ := h.get t av hs
      rw [List.getD_eq_getElem?_getD, hs]
      have : a.tmps.getD t undef = v := by rw [Array.getD_eq_getD_getElem?, ← Array.getElem?_toList, hv]; rfl
      rw [this]; exact hr
  | const v => exact ofConst_rep c v
  | global g => simp only [St.ev, RepAV]
  | func f => simp only [St.ev, Act.eval, RepAV, RepAVs]; exact ⟨#[], #[], rfl, rfl, rfl⟩
theorem evs_rep {c : Cx} {st : St} {a : Act} (h : RepAVs c st.slots a.tmps.toList) : ∀ xs : List Operand, RepAVs c (xs.map st.ev) (xs.map a.eval)
  | [] => by simp [RepAVs]
  | x :: xs => by simp only [List.map_cons, RepAVs]; exact ⟨_, _, rfl, ev_rep h x, evs_rep h xs⟩

theorem Sim.put {A0 w0 st} {a : Act} {w μ} (h : Sim A0 w0 st a.tmps w μ) (dst : Option Nat) {av : AV} {v : Value} (hr : RepAV (cx A0 w0 st.recs st.lsts w μ) av v) :
    Sim A0 w0 (st.put dst av) (a.put dst v).tmps w μ := by
  cases dst with
  | none => exact h
  | some d =>
    refine ⟨?_, h.mem⟩
    simp only [St.put, Act.put, Array.toList_setIfInBounds]
    exact h.slots.set d hr

/-! ### What an operation is to show -/
/-- The value of the operation, and the state behind it. -/
def Post (A0 : Dom) (w0 : World) (tmps : Array Value) (av : AV) (st' : St) (v : Value) (w' : World) : Prop :=
  ∃ μ', RepAV (cx A0 w0 st'.recs st'.lsts w' μ') av v ∧ Sim A0 w0 st' tmps w' μ'
/-- Fences of rounds: nothing else is fenced. -/
def Fr (ρ : Option Nat) : Fence := { Fence.wide with round := ρ }
theorem callsIn_fr {P : Program} {n : Nat} {ρ : Option Nat} {f : FuncId} {args : Array Value} {w : World} {R : Ending → World → Prop} (h : Calls P f args w R) : CallsIn (Fr ρ) n P f args w R := by
  cases ρ with
  | none => exact callsIn_wide.2 h
  | some l => exact (callsIn_wide.2 h : CallsIn Fence.wide n P f args w R)
/-- Marks of ranges over functions among the deferred calls: their blocks are new behind B, and no data lies in them. -/
def Dok (B : Dom) (w0 : World) (A : Dom) : List Deferred → Prop
  | [] => True
  | d :: ds => (∃ D, d = { target := .collected D, args := #[] } ∧ A.F D ∧ A.X D ∧ A.wF.heap[D]? = some (.deferred (some [])) ∧ ¬ B.F D ∧ ¬ B.X D ∧ w0.heap.size ≤ D ∧ ∀ d' ∈ ds, d' ≠ { target := .collected D, args := #[] }) ∧ Dok B w0 A ds
theorem put_defers (a : Act) (d : Option Nat) (v : Value) : (a.put d v).defers = a.defers := by cases d <;> rfl
def OpOk (P : Program) (A0 : Dom) (w0 : World) (o : Oper) (a : Act) (w : World) (av : AV) (st' : St) : Prop :=
  ∀ (ρ : Option Nat) (n : Nat) (next : Act → World → Prop) (Q : Exit → Act → World → Prop), (∀ v w', Post A0 w0 a.tmps av st' v w' → next (a.put o.dst v) w') → o.wpIn (Fr ρ) n P a w next Q
/-- The operation panics, with that value. -/
def OpPan (P : Program) (A0 : Dom) (w0 : World) (o : Oper) (a : Act) (w : World) (av : AV) (st' : St) : Prop :=
  ∀ (ρ : Option Nat) (n : Nat) (next : Act → World → Prop) (Q : Exit → Act → World → Prop), (∀ v w', Post A0 w0 a.tmps av st' v w' → Q (.panic [{ v := v, recovered := false }]) a w') → o.wpIn (Fr ρ) n P a w next Q
section
variable {P : Program} {A0 : Dom} {w0 w : World} {st : St} {a : Act} {μ : Mu} {o : Oper}
theorem OpOk.run {av : AV} {st' : St} {v : Value} {w' : World} (hr : (execOp a.eval o).run P w = .ok (.value v) w') (hp : Post A0 w0 a.tmps av st' v w') (hnd : ∀ c, o.op ≠ .defer c := by intro c h; cases h) : OpOk P A0 w0 o a w av st' := by
  intro ρ n next Q hn
  refine ⟨fun f _ => trivial, ?_⟩
  rw [Oper.semAt_eq _ _ _ hnd, hr]; exact hn v w' hp
theorem OpOk.same (hs : Sim A0 w0 st a.tmps w μ) {av : AV} {v : Value} (hr : (execOp a.eval o).run P w = .ok (.value v) w) (hp : RepAV (cx A0 w0 st.recs st.lsts w μ) av v) (hnd : ∀ c, o.op ≠ .defer c := by intro c h; cases h) : OpOk P A0 w0 o a w av st :=
  OpOk.run hr ⟨μ, hp, hs⟩ hnd
end

/-! ### Reading and packing data -/
theorem RepAVs.nil {c : Cx} {us} (h : RepAVs c [] us) : us = [] := by simpa only [RepAVs] using h
theorem RepAVs.cons' {c : Cx} {x xs us} (h : RepAVs c (x :: xs) us) : ∃ v vs, us = v :: vs ∧ RepAV c x v ∧ RepAVs c xs vs := by simpa only [RepAVs] using h
theorem RepAVs.cons {c : Cx} {x xs v vs} (h1 : RepAV c x v) (h2 : RepAVs c xs vs) : RepAVs c (x :: xs) (v :: vs) := by simp only [RepAVs]; exact ⟨_, _, rfl, h1, h2⟩

theorem SliceRep.ofV {A w} {items : List V} {a cap} {us : Nat → List Value} (hcap : items.length ≤ cap)
    (hmem : items = [] ∨ ∃ ad, a = some ad ∧ ad.spot = none ∧ A ad.block ∧ ∀ i, i < items.length → (us i).length = 5 ∧ ∀ j, j < 5 → w.cell? ⟨ad.block, ad.off + (i * 5 + j), none⟩ = (us i)[j]?)
    (hit : ∀ i (h : i < items.length), RepV A w items[i] (us i)) : SliceRep A w (RepV A w) items (.slice a items.length cap) := by
  refine ⟨a, cap, rfl, hcap, ?_⟩
  rcases hmem with hm | ⟨ad, ha, hsp, hA, hc⟩
  · exact .inl hm
  · refine .inr ⟨ad, (List.range items.length).flatMap us, ha, hsp, hA, ?_, ?_⟩
    · have key : ∀ (l : List V) (k : Nat) (us : Nat → List Value), (∀ i, i < l.length → (us i).length = 5 ∧ ∀ j, j < 5 → w.cell? ⟨ad.block, ad.off + ((k + i) * 5 + j), none⟩ = (us i)[j]?) →
          ∀ j, j < ((List.range l.length).flatMap us).length → w.cell? ⟨ad.block, ad.off + (k * 5 + j), none⟩ = ((List.range l.length).flatMap us)[j]? := by
        intro l
        induction l with
        | nil => intro k us _ j hj; simp at hj
        | cons x xs ih =>
          intro k us h j hj
          rw [List.length_cons, List.range_succ_eq_map, List.flatMap_cons, List.flatMap_map] at hj ⊢
          obtain ⟨h5, h0⟩ := h 0 (by simp)
          by_cases hlt : j < 5
          · rw [List.getElem?_append_left (by omega)]
            simpa using h0 j hlt
          · rw [List.getElem?_append_right (by omega)]
            have := ih (k + 1) (fun i => us (i + 1)) (fun i hi => by
              obtain ⟨h1, h2⟩ := h (i + 1) (by simpa using hi)
              exact ⟨h1, fun j hj => by rw [← h2 j hj]; congr 2; omega⟩) (j - 5) (by rw [List.length_append, h5] at hj; simp only [Nat.succ_eq_add_one] at hj; omega)
            simp only [Nat.succ_eq_add_one, h5]
            rw [← this]; congr 2; omega
      intro j hj
      have := key items 0 us (fun i hi => by simpa using hc i hi) j hj
      simpa using this
    · have key : ∀ (l : List V) (us : Nat → List Value), (∀ i (h : i < l.length), RepV A w l[i] (us i)) → RepAll (RepV A w) l ((List.range l.length).flatMap us) := by
        intro l
        induction l with
        | nil => intro us _; simp [RepAll]
        | cons x xs ih =>
          intro us h
          rw [List.length_cons, List.range_succ_eq_map, List.flatMap_cons, List.flatMap_map]
          exact ⟨us 0, _, rfl, h 0 (by simp), ih (fun i => us (i + 1)) fun i hi => h (i + 1) (by simpa using hi)⟩
      exact key items us hit
theorem SliceRep.toV {A w} {items : List V} {v} (h : SliceRep A w (RepV A w) items v) : ∃ a cap, ∃ us : Nat → List Value, v = .slice a items.length cap ∧ items.length ≤ cap ∧
    (items = [] ∨ ∃ ad, a = some ad ∧ ad.spot = none ∧ A ad.block ∧ ∀ i, i < items.length → (us i).length = 5 ∧ ∀ j, j < 5 → w.cell? ⟨ad.block, ad.off + (i * 5 + j), none⟩ = (us i)[j]?) ∧ ∀ i (h : i < items.length), RepV A w items[i] (us i) := by
  obtain ⟨a, cap, e, hcap, hm⟩ := h
  rcases hm with hm | ⟨ad, us, ha, hsp, hA, hc, hr⟩
  · exact ⟨a, cap, fun _ => [], e, hcap, .inl hm, fun i hi => by subst hm; simp at hi⟩
  · have get : ∀ i (hi : i < items.length), RepV A w items[i] ((us.drop (i * 5)).take 5) := by
      intro i hi
      obtain ⟨p, u, q, e1, hp, hu⟩ := hr.get (sz := 5) (fun x u h => h.length) i items[i] (List.getElem?_eq_getElem hi)
      rw [e1, List.drop_append, List.drop_of_length_le (by omega), List.nil_append, hp, Nat.sub_self, List.drop_zero, List.take_append_of_le_length (by rw [hu.length]; exact Nat.le_refl _), List.take_of_length_le (by rw [hu.length]; exact Nat.le_refl _)]
      exact hu
    refine ⟨a, cap, fun i => (us.drop (i * 5)).take 5, e, hcap, .inr ⟨ad, ha, hsp, hA, fun i hi => ⟨(get i hi).length, fun j hj => ?_⟩⟩, get⟩
    have hl := hr.length (sz := 5) fun x u h => h.length
    rw [hc (i * 5 + j) (by omega), List.getElem?_take_of_lt hj, List.getElem?_drop]

theorem RepV.cells {A w} {x : V} {us} (h : RepV A w x us) : ∃ iv kv, us = [.int .i64 x.kind, .int .i64 x.n, .string ⟨x.s.toArray⟩, iv, kv] ∧ SliceRep A w (RepV A w) x.items iv ∧ SliceRep A w (fun k vs => vs = [Value.string ⟨k.toArray⟩]) x.keys kv := by
  cases h with
  | mk kind n s items keys a cap kv us hcap hmem hit hkeys => exact ⟨_, _, rfl, SliceRep.ofV hcap hmem hit, hkeys⟩
theorem RepV.of {A w} {kind n : Int} {s items keys iv kv} (h1 : SliceRep A w (RepV A w) items iv) (h2 : SliceRep A w (fun k vs => vs = [Value.string ⟨k.toArray⟩]) keys kv) :
    RepV A w (.mk kind n s items keys) [.int .i64 kind, .int .i64 n, .string ⟨s.toArray⟩, iv, kv] := by
  obtain ⟨a, cap, us, rfl, hcap, hm, hit⟩ := h1.toV
  exact .mk kind n s items keys a cap kv us hcap hm hit h2

theorem unpack_rep {c : Cx} : ∀ {t : Ty} {x : t.den} {us}, Rep c.A c.w t x us → RepAVs c (unpack t x) us
  | .unit, _, us, h => by simp only [Rep] at h; simp only [unpack, RepAVs]; exact h
  | .bool, _, _, h | .int _, _, _, h | .str, _, _, h => by simp only [Rep] at h; subst h; simp only [unpack]; exact RepAVs.one (by simp only [RepAV, Rep])
  | .list _, _, _, h => by obtain ⟨v, rfl, h⟩ := h; simp only [unpack]; exact RepAVs.one (by simp only [RepAV, Rep]; exact ⟨v, rfl, h⟩)
  | .prod a b, _, _, h => by obtain ⟨u1, u2, rfl, h1, h2⟩ := h; simp only [unpack]; exact (unpack_rep h1).append (unpack_rep h2)
  | .value, x, _, h => by
    obtain ⟨iv, kv, rfl, h1, h2⟩ := RepV.cells h
    simp only [unpack, RepAVs, RepAV, Rep]
    exact ⟨_, _, rfl, rfl, _, _, rfl, rfl, _, _, rfl, rfl, _, _, rfl, ⟨_, rfl, h1⟩, _, _, rfl, ⟨_, rfl, h2⟩, rfl⟩

theorem asTy_rep {c : Cx} {A' : Nat → Prop} {lsts : List (Option LObj)} (hA : ∀ b, c.A b → A' b) (hl : ∀ t o v, getL lsts t = some o → RepAV c (.whole t) v → Rep A' c.w (.list o.e) o.xs [v])
    {t : Ty} {av : AV} {x : t.den} {v} (h : asTy lsts t av = some x) (hr : RepAV c av v) : Rep A' c.w t x [v] := by
  cases av <;> simp only [asTy] at h
  case d t' y =>
    split at h
    · rename_i e; subst e; simp only [Option.some.injEq] at h; subst h
      simp only [RepAV] at hr; exact hr.mono hA fun _ _ => rfl
    · cases h
  case full e y =>
    split at h
    · rename_i e; subst e; simp only [Option.some.injEq] at h; subst h
      simp only [RepAV] at hr; exact hr.2.mono hA fun _ _ => rfl
    · cases h
  case nilS =>
    cases t <;> simp only at h <;> first | cases h | skip
    simp only [RepAV] at hr
    subst hr
    exact ⟨_, rfl, none, 0, rfl, Nat.le_refl _, .inl rfl⟩
  case whole j =>
    split at h
    · rename_i o ho
      split at h
      · rename_i e; subst e; simp only [Option.some.injEq] at h; subst h
        exact hl j o v ho hr
      · cases h
    · cases h
  all_goals cases h

theorem packTo_rep {c : Cx} {A' : Nat → Prop} {lsts : List (Option LObj)} (hA : ∀ b, c.A b → A' b) (hl : ∀ t o v, getL lsts t = some o → RepAV c (.whole t) v → Rep A' c.w (.list o.e) o.xs [v]) :
    ∀ {t : Ty} {l : List AV} {z : t.den × List AV} {us}, packTo lsts t l = some z → RepAVs c l us → ∃ u1 u2, us = u1 ++ u2 ∧ Rep A' c.w t z.1 u1 ∧ RepAVs c z.2 u2
  | .unit, l, z, us, h, hr => by simp only [packTo, Option.some.injEq] at h; subst h; exact ⟨[], us, rfl, rfl, hr⟩
  | .prod a b, l, z, us, h, hr => by
    simp only [packTo, Option.bind_eq_some_iff] at h
    obtain ⟨r, h1, q, h2, e⟩ := h
    simp only [Option.some.injEq] at e; subst e
    obtain ⟨u1, u2, rfl, g1, g2⟩ := packTo_rep hA hl h1 hr
    obtain ⟨u3, u4, rfl, g3, g4⟩ := packTo_rep hA hl h2 g2
    exact ⟨u1 ++ u3, u4, by simp, ⟨u1, u3, rfl, g1, g3⟩, g4⟩
  | .value, c1 :: c2 :: c3 :: c4 :: c5 :: l, z, us, h, hr => by
    simp only [packTo, Option.bind_eq_some_iff] at h
    obtain ⟨x1, h1, x2, h2, x3, h3, x4, h4, x5, h5, e⟩ := h
    simp only [Option.some.injEq] at e; subst e
    obtain ⟨v1, _, rfl, r1, hr1⟩ := hr.cons'
    obtain ⟨v2, _, rfl, r2, hr2⟩ := hr1.cons'
    obtain ⟨v3, _, rfl, r3, hr3⟩ := hr2.cons'
    obtain ⟨v4, _, rfl, r4, hr4⟩ := hr3.cons'
    obtain ⟨v5, us, rfl, r5, hr5⟩ := hr4.cons'
    have e1 := asTy_rep hA hl h1 r1; have e2 := asTy_rep hA hl h2 r2; have e3 := asTy_rep hA hl h3 r3; have e4 := asTy_rep hA hl h4 r4; have e5 := asTy_rep hA hl h5 r5
    simp only [Rep, List.cons.injEq, and_true] at e1 e2 e3
    obtain ⟨v, e, e4⟩ := e4; simp only [List.cons.injEq, and_true] at e; subst e
    obtain ⟨v, e, e5⟩ := e5; simp only [List.cons.injEq, and_true] at e; subst e
    subst e1; subst e2; subst e3
    exact ⟨[_, _, _, _, _], us, rfl, RepV.of e4 e5, hr5⟩
  | .bool, c1 :: l, z, us, h, hr => by
    simp only [packTo, Option.bind_eq_some_iff] at h; obtain ⟨x1, h1, e⟩ := h; simp only [Option.some.injEq] at e; subst e
    obtain ⟨v1, us, rfl, r1, hr1⟩ := hr.cons'; exact ⟨[v1], us, rfl, asTy_rep hA hl h1 r1, hr1⟩
  | .int k, c1 :: l, z, us, h, hr => by
    simp only [packTo, Option.bind_eq_some_iff] at h; obtain ⟨x1, h1, e⟩ := h; simp only [Option.some.injEq] at e; subst e
    obtain ⟨v1, us, rfl, r1, hr1⟩ := hr.cons'; exact ⟨[v1], us, rfl, asTy_rep hA hl h1 r1, hr1⟩
  | .str, c1 :: l, z, us, h, hr => by
    simp only [packTo, Option.bind_eq_some_iff] at h; obtain ⟨x1, h1, e⟩ := h; simp only [Option.some.injEq] at e; subst e
    obtain ⟨v1, us, rfl, r1, hr1⟩ := hr.cons'; exact ⟨[v1], us, rfl, asTy_rep hA hl h1 r1, hr1⟩
  | .list e, c1 :: l, z, us, h, hr => by
    simp only [packTo, Option.bind_eq_some_iff] at h; obtain ⟨x1, h1, e⟩ := h; simp only [Option.some.injEq] at e; subst e
    obtain ⟨v1, us, rfl, r1, hr1⟩ := hr.cons'; exact ⟨[v1], us, rfl, asTy_rep hA hl h1 r1, hr1⟩
  | .bool, [], _, _, h, _ | .int _, [], _, _, h, _ | .str, [], _, _, h, _ | .list _, [], _, _, h, _ | .value, [], _, _, h, _ | .value, [_], _, _, h, _ | .value, [_, _], _, _, h, _ | .value, [_, _, _], _, _, h, _ | .value, [_, _, _, _], _, _, h, _ => by simp [packTo] at h
theorem no_lists {c : Cx} {A' : Nat → Prop} (t : Nat) (o : LObj) (v : Value) (h : getL ([] : List (Option LObj)) t = some o) : RepAV c (.whole t) v → Rep A' c.w (.list o.e) o.xs [v] := by simp [getL] at h
end Go.Pe
