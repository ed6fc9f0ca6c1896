/- Pieces of code by themselves, loops, functions: what the evaluator tells is so. -/
import Derived.Test.YtgghmllnhaahgaaPeGhost
import Derived.RangeFuncLeaves
import Derived.RangeFuncOwn
namespace Go.Pe
open Go.RowKit
set_option linter.unusedSectionVars false
variable [GI]
set_option linter.unusedSimpArgs false
set_option linter.unusedVariables false

/-! ### Pieces -/
@[reducible] def OutDen : List (Ex × Shape) → Type
  | [] => Empty
  | [(_, sh)] => sh.den
  | (_, sh) :: q :: r => sh.den ⊕ OutDen (q :: r)
def packOut : (outs : List (Ex × Shape)) → Ex → St → Option (OutDen outs)
  | [], _, _ => none
  | [(e, sh)], ex, st => if ex = e then abs sh st else none
  | (e, sh) :: q :: r, ex, st => if ex = e then (abs sh st).map .inl else (packOut (q :: r) ex st).map .inr
def unOut : (outs : List (Ex × Shape)) → OutDen outs → Ex × St
  | [(e, sh)], z => (e, fill sh z)
  | (e, sh) :: _ :: _, .inl z => (e, fill sh z)
  | _ :: q :: r, .inr o => unOut (q :: r) o
/-- What comes out, handed on. -/
def unOutK {S : Type} : (outs : List (Ex × Shape)) → OutDen outs → (Ex → St → Option S) → Option S
  | [], _, _ => none
  | [(e, sh)], z, K => K e (fill sh z)
  | (e, sh) :: q :: r, o, K => match o with | .inl z => K e (fill sh z) | .inr o => unOutK (q :: r) o K
theorem unOutK_eq {S : Type} : ∀ (outs : List (Ex × Shape)) (o : OutDen outs) (K : Ex → St → Option S), unOutK outs o K = K (unOut outs o).1 (unOut outs o).2
  | [], o, _ => nomatch o
  | [(e, sh)], z, K => rfl
  | (e, sh) :: q :: r, .inl z, K => rfl
  | (e, sh) :: q :: r, .inr o, K => unOutK_eq (q :: r) o K
def outsOk (np : Nat) : List (Ex × Shape) → Bool
  | [] => true
  | (_, sh) :: r => Nat.ble np sh.recs.length && outsOk np r
theorem outsOk_le {a b : Nat} (h : a ≤ b) : ∀ {outs : List (Ex × Shape)}, outsOk b outs = true → outsOk a outs = true
  | [], _ => rfl
  | (_, sh) :: r, ho => by
    simp only [outsOk, Bool.and_eq_true] at ho ⊢
    exact ⟨Nat.ble_eq_true_of_le (Nat.le_trans h (Nat.le_of_ble_eq_true ho.1)), outsOk_le h ho.2⟩
theorem packOut_sound {A0 w0 w st} {tmps : Array Value} {μ} (hs : Sim A0 w0 st tmps w μ) {ex : Ex} : ∀ {outs : List (Ex × Shape)} {o : OutDen outs}, outsOk A0.np outs = true → packOut outs ex st = some o → (unOut outs o).1 = ex ∧ ∃ μ', Sim A0 w0 (unOut outs o).2 tmps w μ'
  | [], _, _, h => by simp [packOut] at h
  | [(e, sh)], o, hn, h => by
    simp only [outsOk, Bool.and_eq_true] at hn
    simp only [packOut] at h
    split at h
    · rename_i he
      exact ⟨he.symm, _, abs_sound hs (Nat.le_of_ble_eq_true hn.1) h⟩
    · cases h
  | (e, sh) :: q :: r, o, hn, h => by
    rw [outsOk, Bool.and_eq_true] at hn
    simp only [packOut] at h
    split at h
    · rename_i he
      simp only [Option.map_eq_some_iff] at h
      obtain ⟨z, hz, rfl⟩ := h
      exact ⟨he.symm, _, abs_sound hs (Nat.le_of_ble_eq_true hn.1) hz⟩
    · simp only [Option.map_eq_some_iff] at h
      obtain ⟨z, hz, rfl⟩ := h
      exact packOut_sound (outs := q :: r) (o := z) hs hn.2 hz

/-- A domain in which more stays as it is. -/
structure Dom.Ext (A0 A1 : Dom) : Prop where
  A : A1.A = A0.A
  X : ∀ b, A0.X b → A1.X b
  pin : A1.pin = A0.pin
  np : A1.np = A0.np
  keep : A1.keep = A0.keep
  F : ∀ b, A0.F b → A1.F b ∧ A1.wF.heap[b]? = A0.wF.heap[b]?
theorem Dom.Ext.refl (A0 : Dom) : A0.Ext A0 := ⟨rfl, fun _ h => h, rfl, rfl, rfl, fun _ h => ⟨h, rfl⟩⟩
theorem Dom.Ext.trans {A0 A1 A2 : Dom} (h : A0.Ext A1) (k : A1.Ext A2) : A0.Ext A2 :=
  ⟨k.A.trans h.A, fun b hb => k.X b (h.X b hb), k.pin.trans h.pin, k.np.trans h.np, k.keep.trans h.keep, fun b hb => by obtain ⟨h1, h2⟩ := h.F b hb; obtain ⟨h3, h4⟩ := k.F b h1; exact ⟨h3, h4.trans h2⟩⟩
theorem Dom.Ext.imm {A0 A1 : Dom} (h : A0.Ext A1) {w0 w : World} {μ : Mu} {b : Nat} (hb : Imm A1 w0 μ w b) : Imm A0 w0 μ w b := by
  have := hb.1.1
  rw [h.A] at this
  exact ⟨⟨this, fun hx => hb.1.2 (h.X b hx)⟩, hb.2⟩
theorem Dom.Ext.le {A0 A1 : Dom} (h : A0.Ext A1) (w0 : World) (recs : List (Option (List AV))) (lsts : List (Option LObj)) (w : World) (μ : Mu) : (cx A1 w0 recs lsts w μ).Le (cx A0 w0 recs lsts w μ) :=
  ⟨fun _ hb => h.imm hb, fun _ _ => rfl, Nat.le_refl _, Nat.le_refl _, fun _ _ hs => ⟨hs, rfl⟩, fun _ o _ ho => ⟨o, ho, rfl, rfl, rfl, rfl⟩, fun x v hx => by simp only [cx] at hx ⊢; rw [← h.keep]; exact hx⟩
theorem LstAt.imp {c c' : Cx} {t : Nat} {o : LObj} (hle : c.Le c') (hw : c'.w = c.w) (hμ : c'.μ = c.μ) (h : LstAt c t o) : LstAt c' t o := by
  rcases h with ⟨h1, h2⟩ | ⟨b, vs, hb, ho, hsz, hc, us, rest, e, hr⟩
  · exact .inl ⟨by rw [hμ]; exact h1, h2⟩
  · exact .inr ⟨b, vs, by rw [hμ]; exact hb, by rw [hw]; exact ho, by rw [hμ]; exact hsz, by rw [hμ]; exact hc, us, rest, e, hr.imp fun x u hx => hx.mono hle.A hle.w⟩
theorem Dom.Ext.sim {A0 A1 : Dom} (h : A0.Ext A1) {w0 w : World} {st : St} {tmps : Array Value} {μ : Mu} (hs : Sim A1 w0 st tmps w μ) : Sim A0 w0 st tmps w μ := by
  have hle := h.le w0 st.recs st.lsts w μ
  have hm := hs.mem
  refine ⟨hs.slots.mono hle, ?_, ?_, hm.live, hm.inj, hm.below, ?_, fun b hb => hm.xo b (h.X b hb), ?_, ?_, hm.gi, hm.bty, fun r c hr => (hm.htop r c hr).imp (c := cx A1 w0 st.recs st.lsts w μ) rfl rfl (fun _ _ => rfl) fun us hu => hu.mono hle, fun d hd => (hm.deep d hd).mono (c := cx A1 w0 st.recs st.lsts w μ) ⟨hle.A, hle.w, fun _ => rfl, fun _ _ _ => rfl, Nat.le_refl _, fun _ _ h => h⟩⟩
  · intro r cells hr hk
    obtain ⟨b, vs, h1, h2, h3⟩ := hm.hrec r cells hr hk
    exact ⟨b, vs, h1, h2, h3.mono hle⟩
  · intro t o ht; exact (hm.hlst t o ht).imp hle rfl rfl
  · intro b hb
    obtain ⟨h1, h2⟩ := h.F b hb
    obtain ⟨h3, h4, h5⟩ := hm.fr b h1
    exact ⟨h3, h4.trans h2, h5⟩
  · rw [← h.np]; exact hm.np
  · rw [← h.pin, ← h.np]; exact hm.pins
def PieceSound (P : Program) (np : Nat) (tp : Bool) (c : Code) (sh : Shape) (outs : List (Ex × Shape)) (F : sh.den → Option (OutDen outs)) : Prop :=
  np ≤ sh.recs.length ∧ ∀ y o, F y = some o → ∀ (ρ : Option Nat) (n : Nat) (B A0 : Dom) (w0 : World) (Q : Exit → Act → World → Prop) (a : Act) (w : World) (μ : Mu), (tp = true → ρ = none) → B.Ext A0 → A0.np ≤ np → Sim A0 w0 (fill sh y) a.tmps w μ → Dok B w0 A0 a.defers →
    (∀ A1 tm E a' w' μ', A0.Ext A1 → Sim A1 w0 (unOut outs o).2 tm w' μ' → Lands (unOut outs o).1 tm a' E → Dok B w0 A1 a'.defers → Q E a' w') → c.wpIn (Fr ρ) n P Q a w

/-- How code is gone through: pieces that are known already stand for themselves. -/
inductive Ann (P : Program) (np : Nat) (tp : Bool) : Code → Type 1
  | leaf (c : Code) : Ann P np tp c
  | seq {a b : Code} (x : Ann P np tp a) (y : Ann P np tp b) : Ann P np tp (.seq a b)
  | cond {c : Operand} {a b : Code} (x : Ann P np tp a) (y : Ann P np tp b) : Ann P np tp (.cond c a b)
  | block {id : Nat} {c : Code} (x : Ann P np tp c) : Ann P np tp (.block id c)
  | piece {c : Code} (sh : Shape) (outs : List (Ex × Shape)) (F : sh.den → Option (OutDen outs)) (h : PieceSound P np tp c sh outs F) : Ann P np tp c
  | gho {c : Code} (pre post : List GS) (x : Ann P np tp c) : Ann P np tp c

noncomputable def evA (ε : Env) {P : Program} {np : Nat} {tp : Bool} {S : Type} : {c : Code} → Ann P np tp c → St → (Ex → St → Option S) → Option S
  | _, .leaf c, st, K => evC ε c st K
  | _, .seq x y, st, K => evA ε x st fun ex st' => match ex with | .normal => evA ε y st' K | e => K e st'
  | _, .cond (c := c) x y, st, K => (match st.ev c with | .d .bool b => cond b (evA ε x st K) (evA ε y st K) | _ => none)
  | _, .block (id := id) x, st, K => evA ε x st fun ex st' => match ex with | .exit j => if j = id then K .normal st' else K (.exit j) st' | e => K e st'
  | _, .piece sh outs F _, st, K => (abs sh st).bind fun y => (F y).bind fun o => unOutK outs o K
  | _, .gho pre post x, st, K => evGs pre st fun st1 => evA ε x st1 fun ex st' => match ex with | .normal => evGs post st' (K .normal) | e => K e st'

section
variable {P : Program} {B : Dom} {w0 : World} {S : Type}
variable {ε : Env} (hε : EnvOk P ε)
include hε

theorem evA_sound {np : Nat} {tp : Bool} {ρ : Option Nat} (hρ : tp = true → ρ = none) {n : Nat} {r : S} : ∀ {c : Code} (x : Ann P np tp c) {A0 : Dom} (_ : B.Ext A0) (_ : A0.np ≤ np) {Q : Exit → Act → World → Prop} (K : Ex → St → Option S)
    (_ : ∀ A1 ex st' tm E a' w' μ', A0.Ext A1 → K ex st' = some r → Sim A1 w0 st' tm w' μ' → Lands ex tm a' E → Dok B w0 A1 a'.defers → Q E a' w')
    (st : St) (a : Act) (w : World) (μ : Mu), evA ε x st K = some r → Sim A0 w0 st a.tmps w μ → Dok B w0 A0 a.defers → c.wpIn (Fr ρ) n P Q a w
  | _, .leaf c, A0, hB, hnp, Q, K, hK, st, a, w, μ, h, hs, hd => evC_sound (Dk := Dok B w0 A0) hε c K (fun ex st' tm E a' w' μ' h1 h2 hl h3 => hK A0 ex st' tm E a' w' μ' (Dom.Ext.refl _) h1 h2 hl h3) st a w μ h hs hd
  | _, .seq x y, A0, hB, hnp, Q, K, hK, st, a, w, μ, h, hs, hd => by
    simp only [evA] at h
    refine wpIn_seq (evA_sound hρ x hB hnp _ (fun A1 ex st' tm E a' w' μ' he h1 h2 hl h3 => ?_) st a w μ h hs hd)
    cases ex with
    | normal => obtain ⟨rfl, rfl⟩ := hl; exact evA_sound hρ y (hB.trans he) (by rw [he.np]; exact hnp) K (fun A2 ex st' tm E a' w' μ' he2 => hK A2 ex st' tm E a' w' μ' (he.trans he2)) st' a' w' μ' h1 h2 h3
    | exit id => obtain ⟨rfl, rfl⟩ := hl; exact hK A1 (.exit id) st' _ _ a' w' μ' he h1 h2 ⟨rfl, rfl⟩ h3
    | ret => obtain ⟨rfl, rfl⟩ := hl; exact hK A1 .ret st' _ _ a' w' μ' he h1 h2 ⟨rfl, rfl⟩ h3
    | panic => obtain ⟨v, rfl, rfl⟩ := hl; exact hK A1 .panic st' _ _ a' w' μ' he h1 h2 ⟨v, rfl, rfl⟩ h3
  | _, .cond (c := c) x y, A0, hB, hnp, Q, K, hK, st, a, w, μ, h, hs, hd => by
    simp only [evA] at h
    split at h
    · rename_i b hc
      have hcr := ev_rep hs.slots c
      rw [hc] at hcr
      simp only [RepAV, Rep, List.cons.injEq, and_true] at hcr
      cases b with
      | true => exact wpIn_cond_true hcr (evA_sound hρ x hB hnp K hK st a w μ h hs hd)
      | false => exact wpIn_cond_false hcr (evA_sound hρ y hB hnp K hK st a w μ h hs hd)
    · cases h
  | _, .block (id := id) x, A0, hB, hnp, Q, K, hK, st, a, w, μ, h, hs, hd => by
    simp only [evA] at h
    refine wpIn_block (evA_sound hρ x hB hnp _ (fun A1 ex st' tm E a' w' μ' he h1 h2 hl h3 => ?_) st a w μ h hs hd)
    cases ex with
    | normal => obtain ⟨rfl, rfl⟩ := hl; exact hK A1 .normal st' _ _ a' w' μ' he h1 h2 ⟨rfl, rfl⟩ h3
    | exit j =>
      obtain ⟨rfl, rfl⟩ := hl
      simp only at h1
      simp only [Ex.out, Exit.inBlock]
      split at h1
      · rename_i e; rw [if_pos e]; exact hK A1 .normal st' _ _ a' w' μ' he h1 h2 ⟨rfl, rfl⟩ h3
      · rename_i e; rw [if_neg e]; exact hK A1 (.exit j) st' _ _ a' w' μ' he h1 h2 ⟨rfl, rfl⟩ h3
    | ret => obtain ⟨rfl, rfl⟩ := hl; exact hK A1 .ret st' _ _ a' w' μ' he h1 h2 ⟨rfl, rfl⟩ h3
    | panic => obtain ⟨v, rfl, rfl⟩ := hl; exact hK A1 .panic st' _ _ a' w' μ' he h1 h2 ⟨v, rfl, rfl⟩ h3
  | _, .piece sh outs F hF, A0, hB, hnp, Q, K, hK, st, a, w, μ, h, hs, hd => by
    simp only [evA, Option.bind_eq_some_iff] at h
    obtain ⟨y, hy, o, ho, h⟩ := h
    rw [unOutK_eq] at h
    exact hF.2 y o ho ρ n B A0 w0 Q a w _ hρ hB hnp (abs_sound hs (Nat.le_trans hnp hF.1) hy) hd fun A1 tm E a' w' μ' he h1 hl h2 => hK A1 _ _ tm E a' w' μ' he h h1 hl h2
  | _, .gho pre post x, A0, hB, hnp, Q, K, hK, st, a, w, μ, h, hs, hd => by
    simp only [evA] at h
    obtain ⟨st1, h1, μ1, hs1⟩ := evGs_sound pre hs _ r h
    refine evA_sound hρ x hB hnp _ (fun A1 ex st' tm E a' w' μ' he h1 h2 hl h3 => ?_) st1 a w μ1 h1 hs1 hd
    cases ex with
    | normal =>
      obtain ⟨rfl, rfl⟩ := hl
      obtain ⟨st2, h4, μ2, hs2⟩ := evGs_sound post h2 _ r h1
      exact hK A1 .normal st2 _ _ a' w' μ2 he h4 hs2 ⟨rfl, rfl⟩ h3
    | exit id => obtain ⟨rfl, rfl⟩ := hl; exact hK A1 (.exit id) st' _ _ a' w' μ' he h1 h2 ⟨rfl, rfl⟩ h3
    | ret => obtain ⟨rfl, rfl⟩ := hl; exact hK A1 .ret st' _ _ a' w' μ' he h1 h2 ⟨rfl, rfl⟩ h3
    | panic => obtain ⟨v, rfl, rfl⟩ := hl; exact hK A1 .panic st' _ _ a' w' μ' he h1 h2 ⟨v, rfl, rfl⟩ h3

omit hε in
theorem piece_of (hε : EnvOk P ε) {np : Nat} {tp : Bool} {c : Code} (x : Ann P np tp c) {sh : Shape} {outs : List (Ex × Shape)} {F : sh.den → Option (OutDen outs)} (h1 : Nat.ble np sh.recs.length = true) (h2 : outsOk np outs = true) (h : ∀ y, F y = evA ε x (fill sh y) (packOut outs)) : PieceSound P np tp c sh outs F := by
  refine ⟨Nat.le_of_ble_eq_true h1, ?_⟩
  intro y o ho ρ n B A0 w0 Q a w μ hρ hB hnp hs hd hQ
  rw [h] at ho
  have hok := h2
  refine evA_sound (B := B) hε hρ x hB hnp _ (fun A1 ex st' tm E a' w' μ' he h1 h2 hl h3 => ?_) _ a w μ ho hs hd
  obtain ⟨e, μ2, h4⟩ := packOut_sound h2 (outsOk_le (by rw [he.np]; exact hnp) hok) h1
  exact hQ A1 tm E a' w' μ2 he h4 (by rw [e]; exact hl) h3

omit hε in
def iter {α β : Type} (step : (α → Option β) → α → Option β) : Nat → α → Option β
  | 0 => fun _ => none
  | n + 1 => step (iter step n)
omit hε in
theorem loop_of (hε : EnvOk P ε) {np : Nat} {tp : Bool} {c : Code} (x : Ann P np tp c) {sh : Shape} {outs : List (Ex × Shape)} {step : (sh.den → Option (OutDen outs)) → sh.den → Option (OutDen outs)}
    (h1 : Nat.ble np sh.recs.length = true) (h2 : outsOk np outs = true) (h : ∀ rec y, step rec y = evA ε x (fill sh y) (fun ex st => match ex with | .normal => (abs sh st).bind rec | e => packOut outs e st)) : ∀ n, PieceSound P np tp (.loop c) sh outs (iter step n) := by
  intro m
  refine ⟨Nat.le_of_ble_eq_true h1, ?_⟩
  have hle := Nat.le_of_ble_eq_true h1
  have hok := h2
  intro y o ho ρ n B A0 w0 Q a w μ hρ hB hnp hs hd hQ
  refine wpIn_loop_rounds m ?_
  induction m generalizing y a w μ A0 with
  | zero => simp [iter] at ho
  | succ m ih =>
    rw [roundsIn_succ]
    simp only [iter] at ho
    rw [h] at ho
    refine evA_sound (B := B) (w0 := w0) hε hρ x hB hnp _ (fun A1 ex st' tm E a' w' μ' he h1 h2 hl h3 => ?_) _ a w μ ho hs hd
    have hnp1 : A1.np ≤ np := by rw [he.np]; exact hnp
    have out : ∀ ex, packOut outs ex st' = some o → Lands ex tm a' E → Q E a' w' := fun ex h1 hl => by
      obtain ⟨e, μ2, h4⟩ := packOut_sound h2 (outsOk_le hnp1 hok) h1
      exact hQ A1 tm E a' w' μ2 he h4 (by rw [e]; exact hl) h3
    cases ex with
    | normal =>
      obtain ⟨rfl, rfl⟩ := hl
      simp only [Option.bind_eq_some_iff] at h1
      obtain ⟨y', hy', h1⟩ := h1
      exact ih y' h1 A1 a' w' _ (hB.trans he) hnp1 (abs_sound h2 (Nat.le_trans hnp1 hle) hy') h3 fun A2 tm2 E2 a2 w2 μ2 he2 => hQ A2 tm2 E2 a2 w2 μ2 (he.trans he2)
    | exit id => obtain ⟨rfl, rfl⟩ := hl; exact out (.exit id) h1 ⟨rfl, rfl⟩
    | ret => obtain ⟨rfl, rfl⟩ := hl; exact out .ret h1 ⟨rfl, rfl⟩
    | panic => obtain ⟨v, rfl, rfl⟩ := hl; exact out .panic h1 ⟨v, rfl, rfl⟩
end

/-! ### Functions -/
/-- Kinds of parameters and results. -/
inductive KD where
  | one (t : Ty) | agg (ts : List Ty)
@[reducible] def tysDen : List Ty → Type
  | [] => Unit
  | t :: r => t.den × tysDen r
@[reducible] def KD.den : KD → Type
  | .one t => t.den
  | .agg ts => tysDen ts
@[reducible] def argsDen : List KD → Type
  | [] => Unit
  | k :: r => k.den × argsDen r
def encTys : (ts : List Ty) → tysDen ts → List AV
  | [], _ => []
  | t :: r, x => .d t x.1 :: encTys r x.2
def decTys : (ts : List Ty) → List AV → Option (tysDen ts)
  | [], [] => some ()
  | t :: r, v :: vs => (asTy [] t v).bind fun x => (decTys r vs).bind fun y => some (x, y)
  | _, _ => none
def KD.enc : (k : KD) → k.den → AV
  | .one t, x => .d t x
  | .agg ts, x => .agg (encTys ts x)
def KD.dec : (k : KD) → AV → Option k.den
  | .one t, v => asTy [] t v
  | .agg ts, .agg l => decTys ts l
  | .agg _, _ => none
def encArgs : (ks : List KD) → argsDen ks → List AV
  | [], _ => []
  | k :: r, x => k.enc x.1 :: encArgs r x.2
def decArgs : (ks : List KD) → List AV → Option (argsDen ks)
  | [], [] => some ()
  | k :: r, v :: vs => (k.dec v).bind fun x => (decArgs r vs).bind fun y => some (x, y)
  | _, _ => none
def encRes (ks : List KD) (x : argsDen ks) : AV := resVal (encArgs ks x)
def decRes : (ks : List KD) → AV → Option (argsDen ks)
  | [k], v => (k.dec v).bind fun x => some (x, ())
  | ks, .tup l => decArgs ks l
  | _, _ => none

theorem asTy_single {A w} {t : Ty} {v : AV} {x : t.den} {val : Value} (h : asTy [] t v = some x) (hr : RepAV (c0 A w) v val) : RepAV (c0 A w) (.d t x) val := by
  simp only [RepAV]
  exact asTy_rep (c := c0 A w) (A' := A) (fun _ h => h) (fun t o v h => no_lists t o v h) h hr
theorem decTys_rep {A w} : ∀ {ts : List Ty} {l : List AV} {x : tysDen ts} {vs}, decTys ts l = some x → RepAVs (c0 A w) l vs → RepAVs (c0 A w) (encTys ts x) vs
  | [], [], _, _, _, hr => by simpa only [encTys] using hr
  | [], _ :: _, _, _, h, _ => by simp [decTys] at h
  | _ :: _, [], _, _, h, _ => by simp [decTys] at h
  | t :: ts, v :: l, x, vs, h, hr => by
    simp only [decTys, Option.bind_eq_some_iff, Option.some.injEq] at h
    obtain ⟨y, hy, ys, hys, rfl⟩ := h
    obtain ⟨val, rest, rfl, h1, h2⟩ := hr.cons'
    exact RepAVs.cons (asTy_single hy h1) (decTys_rep hys h2)
theorem KD.dec_rep {A w} : ∀ {k : KD} {v : AV} {x : k.den} {val}, k.dec v = some x → RepAV (c0 A w) v val → RepAV (c0 A w) (k.enc x) val
  | .one t, v, x, val, h, hr => asTy_single h hr
  | .agg ts, v, x, val, h, hr => by
    cases v <;> simp only [KD.dec] at h <;> try (cases h; done)
    simp only [KD.enc, RepAV] at hr ⊢
    obtain ⟨us, e, hu⟩ := hr
    exact ⟨us, e, decTys_rep h hu⟩
theorem decArgs_rep {A w} : ∀ {ks : List KD} {l : List AV} {x : argsDen ks} {vs}, decArgs ks l = some x → RepAVs (c0 A w) l vs → RepAVs (c0 A w) (encArgs ks x) vs
  | [], [], _, _, _, hr => by simpa only [encArgs] using hr
  | [], _ :: _, _, _, h, _ => by simp [decArgs] at h
  | _ :: _, [], _, _, h, _ => by simp [decArgs] at h
  | k :: ks, v :: l, x, vs, h, hr => by
    simp only [decArgs, Option.bind_eq_some_iff, Option.some.injEq] at h
    obtain ⟨y, hy, ys, hys, rfl⟩ := h
    obtain ⟨val, rest, rfl, h1, h2⟩ := hr.cons'
    exact RepAVs.cons (KD.dec_rep hy h1) (decArgs_rep hys h2)
theorem encTys_closed : ∀ (ts : List Ty) (x : tysDen ts), closedL (encTys ts x) = true
  | [], _ => rfl
  | t :: ts, x => by simp [encTys, closedL, AV.closed, encTys_closed ts x.2]
theorem KD.enc_closed : ∀ (k : KD) (x : k.den), (k.enc x).closed = true
  | .one _, _ => rfl
  | .agg ts, x => by simp [KD.enc, AV.closed, encTys_closed]
theorem encArgs_closed : ∀ (ks : List KD) (x : argsDen ks), closedL (encArgs ks x) = true
  | [], _ => rfl
  | k :: ks, x => by simp [encArgs, closedL, KD.enc_closed, encArgs_closed ks x.2]
theorem encRes_closed (ks : List KD) (x : argsDen ks) : (encRes ks x).closed = true := by
  unfold encRes
  have := encArgs_closed ks x
  generalize encArgs ks x = l at this
  unfold resVal
  split
  · simpa [closedL] using this
  · simpa [AV.closed] using this
theorem decRes_rep {A w} {ks : List KD} {v : AV} {x : argsDen ks} {val} (h : decRes ks v = some x) (hr : RepAV (c0 A w) v val) : RepAV (c0 A w) (encRes ks x) val := by
  have key : ∀ {ks : List KD} {l : List AV} {x : argsDen ks}, ks.length ≠ 1 → decArgs ks l = some x → RepAV (c0 A w) (.tup l) val → RepAV (c0 A w) (encRes ks x) val := by
    intro ks l x hl h hr
    have hlen : (encArgs ks x).length = ks.length := by
      clear h hl hr
      induction ks with
      | nil => rfl
      | cons k ks ih => simp [encArgs, ih]
    simp only [RepAV] at hr
    obtain ⟨us, e, hu⟩ := hr
    have := decArgs_rep h hu
    unfold encRes resVal
    split
    · rename_i he; rw [he] at hlen; simp at hlen; omega
    · simp only [RepAV]; exact ⟨us, e, this⟩
  match ks, v, x, h with
  | [k], v, x, h =>
    simp only [decRes, Option.bind_eq_some_iff, Option.some.injEq] at h
    obtain ⟨y, hy, rfl⟩ := h
    exact KD.dec_rep hy hr
  | [], .tup l, x, h => exact key (by simp) h hr
  | k :: k' :: ks, .tup l, x, h => exact key (by simp) h hr

/-- A function, gone through as told. -/
noncomputable def evFunA (ε : Env) {P : Program} {np : Nat} {tp : Bool} {S : Type} (fn : Func) {c : Code} (x : Ann P np tp c) (args : List AV) (K : AV → Option S) : Option S :=
  evA ε x { slots := args ++ List.replicate (fn.ntmps - args.length) .dead, recs := [], lsts := [] } fun ex st => match ex with
    | .normal | .ret => (evRes ε st fn.results.toList).bind fun l => K (resVal l)
    | _ => none

/-- What is told of a function, as it is called. -/
def pfun {ps rs : List KD} (F : argsDen ps → Option (argsDen rs)) : PFun := fun args K => (decArgs ps args).bind fun x => (F x).bind fun y => K (encRes rs y)

section
variable {P : Program} {ε : Env}

def resF (tmps : Array Value) : ResultVar → Sem Value
  | .tmp t => pure (tmps.getD t undef)
  | .cell a t => do loadVar t (← asAddr (tmps.getD a undef))
def Far (A0 : Dom) (w0 w : World) (b : Nat) : Prop := (A0.A b ∨ w0.heap.size ≤ b) ∧ b < w.heap.size

theorem evRes_sound (hε : EnvOk P ε) {A0 w0 w st} {a : Act} {μ} (hs : Sim A0 w0 st a.tmps w μ) : ∀ (rs : List ResultVar) (l : List AV), evRes ε st rs = some l →
    ∃ vs : List Value, (rs.mapM (resF a.tmps)).run P w = .ok vs w ∧ closedL l = true ∧ RepAVs (c0 (Far A0 w0 w) w) l vs
  | [], l, h => by
    simp only [evRes, Option.some.injEq] at h; subst h
    exact ⟨[], by simp, rfl, by simp [RepAVs]⟩
  | .tmp t :: rs, l, h => by
    simp only [evRes, Option.bind_eq_some_iff, Option.some.injEq] at h
    obtain ⟨v, hv, m, hm, rfl⟩ := h
    obtain ⟨vs, h1, h2, h3⟩ := evRes_sound hε hs rs m hm
    have hr := ev_rep hs.slots (.tmp t)
    simp only [St.ev] at hr
    obtain ⟨g1, g2⟩ := close_rep (A' := Far A0 w0 w) hs.mem (fun b hb => ⟨hb.1.1, hb.2.1⟩) (fun t b hb => ⟨.inr (hs.mem.live _ _ hb).1, (hs.mem.live _ _ hb).2.1⟩) hv hr
    refine ⟨_ :: vs, ?_, by simp [closedL, g1, h2], RepAVs.cons g2 h3⟩
    simp [List.mapM_cons, resF, h1, Act.eval]
  | .cell q t :: rs, l, h => by
    simp only [evRes] at h
    split at h
    · rename_i r hq
      split at h
      · rename_i cells i hcells hi
        split at h
        · rename_i hsz
          simp only [Option.bind_eq_some_iff, Option.some.injEq] at h
          obtain ⟨v, hv, v', hv', m, hm, rfl⟩ := h
          obtain ⟨vs, h1, h2, h3⟩ := evRes_sound hε hs rs m hm
          have hti := hε.ti t i hi
          have hr := ev_rep hs.slots (.tmp q)
          simp only [St.ev, hq] at hr
          simp only [RepAV, cx] at hr
          obtain ⟨b, hb, hval⟩ := hr.2.2 (by rw [hcells]; rfl)
          obtain ⟨cs, hown, hcr⟩ := hs.mem.rec_at hcells hb
          have hpart : partOf cells 0 i.size i.agg = some v := by
            unfold partOf
            cases hag : i.agg with
            | true =>
              simp only [hag, if_true, Option.some.injEq] at hv ⊢
              subst hv
              rw [if_pos (by omega)]; simp [← hsz]
            | false =>
              simp only [hag, Bool.false_eq_true, if_false] at hv ⊢
              cases cells with
              | nil => simp at hv
              | cons x xs => simpa using hv
          obtain ⟨val, hrun, hrep⟩ := load_cells (P := P) (c := cx A0 w0 st.recs st.lsts w μ) (w := w) hti hcr hown.cells hpart
          obtain ⟨g1, g2⟩ := close_rep (A' := Far A0 w0 w) hs.mem (fun b hb => ⟨hb.1.1, hb.2.1⟩) (fun t b hb => ⟨.inr (hs.mem.live _ _ hb).1, (hs.mem.live _ _ hb).2.1⟩) hv' hrep
          refine ⟨val :: vs, ?_, by simp [closedL, g1, h2], RepAVs.cons g2 h3⟩
          simp only [Nat.zero_add] at hrun
          have he : a.tmps.getD q undef = .pointer (some ⟨b, 0, none⟩) := hval
          simp [List.mapM_cons, resF, h1, he, asAddr, hrun]
        · cases h
      · cases h
    · cases h

theorem results_run {w : World} {fn : Func} {tmps : Array Value} {vs : List Value} (h : (fn.results.toList.mapM (resF tmps)).run P w = .ok vs w) : (results fn tmps).run P w = .ok (if h : vs.toArray.size = 1 then vs.toArray[0] else .tuple vs.toArray) w := by
  have e : results fn tmps = (do let vs ← fn.results.mapM (resF tmps); pure (if h : vs.size = 1 then vs[0] else .tuple vs)) := by
    unfold results
    rfl
  rw [e, Array.mapM_eq_mapM_toList]
  simp [h]

/-! ### Leaving, with marks of ranges over functions -/
theorem Dok.drop {B : Dom} {w0 : World} {A A' : Dom} {D : Nat} (hF : ∀ b, A.F b → b ≠ D → A'.F b) (hX : ∀ b, A.X b → b ≠ D → A'.X b) (hw : A'.wF = A.wF) : ∀ {ds : List Deferred}, (∀ d ∈ ds, d ≠ { target := .collected D, args := #[] }) → Dok B w0 A ds → Dok B w0 A' ds
  | [], _, _ => trivial
  | d :: ds, hne, h => by
    obtain ⟨⟨D', h1, h2, h3, h4, h5, h5', h6, h7⟩, h8⟩ := h
    have hD : D' ≠ D := fun e => hne d (by simp) (by rw [h1, e])
    exact ⟨⟨D', h1, hF _ h2 hD, hX _ h3 hD, by rw [hw]; exact h4, h5, h5', h6, h7⟩, Dok.drop hF hX hw (fun d hd => hne d (by simp [hd])) h8⟩
def Dom.less (A1 : Dom) (D : Nat) : Dom := { A1 with F := fun b => A1.F b ∧ b ≠ D, X := fun b => A1.X b ∧ b ≠ D }
theorem sim_shut {A1 : Dom} {w0 w : World} {st : St} {tmps : Array Value} {μ : Mu} {D : Nat} {o : Obj} (hs : Sim A1 w0 st tmps w μ) (hF : A1.F D) (hX : A1.X D) (hD : w.heap[D]? = some (.deferred (some []))) (hw0 : w0.heap.size ≤ D) :
    Sim (A1.less D) w0 st tmps (w.putObj D o) μ := by
  have hm := hs.mem
  have hoth : ∀ b, b ≠ D → (w.putObj D o).heap[b]? = w.heap[b]? := fun b hb => World.putObj_heap_other hb
  have hsize : (w.putObj D o).heap.size = w.heap.size := by simp [World.putObj]
  have hown : ∀ {b vs}, Own w b vs → b ≠ D := by
    rintro b vs ⟨el, e⟩ rfl
    rw [hD] at e; cases e
  have hle : (cx A1 w0 st.recs st.lsts w μ).Le (cx (A1.less D) w0 st.recs st.lsts (w.putObj D o) μ) :=
    ⟨fun b hb => ⟨⟨hb.1.1, fun h => hb.1.2 h.1⟩, by rw [hsize]; exact hb.2.1, hb.2.2⟩, fun b hb => hoth b (fun e => hb.1.2 (e ▸ hX)), Nat.le_refl _, Nat.le_refl _, fun _ _ hs => ⟨hs, rfl⟩, fun _ o _ ho => ⟨o, ho, rfl, rfl, rfl, rfl⟩, fun _ _ h => h⟩
  have hat : ∀ x b, μ.at_ x = some b → (w.putObj D o).heap[b]? = w.heap[b]? := fun x b hx => hoth b fun e => (hm.xo D hX).2 x (e ▸ hx)
  refine ⟨hs.slots.mono hle, ?_, ?_, fun x b hx => ?_, hm.inj, ?_, ?_, fun b hb => by obtain ⟨h1, h2⟩ := hm.xo b hb.1; exact ⟨by rw [hsize]; exact h1, h2⟩, hm.np, hm.pins, hm.gi, hm.bty.ext fun x b hx => hoth b fun e => (hm.xo D hX).2 x (e ▸ hx), fun r c hr => (hm.htop r c hr).imp (c := cx A1 w0 st.recs st.lsts w μ) rfl rfl (fun b hb => hat _ b hb) fun us hu => hu.mono hle, fun d hd => (hm.deep d hd).mono (c := cx A1 w0 st.recs st.lsts w μ) ⟨hle.A, hle.w, fun _ => rfl, fun k b hb => hat _ b hb, Nat.le_refl _, fun _ _ h => h⟩⟩
  · intro r cells hr hk
    obtain ⟨b, vs, h1, h2, h3⟩ := hm.hrec r cells hr hk
    exact ⟨b, vs, h1, h2.ext (hoth b (hown h2)), h3.mono hle⟩
  · intro t o ht
    rcases hm.hlst t o ht with h1 | ⟨b, vs, hb, ho, hsz, hc, us, rest, e, hr⟩
    · exact .inl h1
    · exact .inr ⟨b, vs, hb, ho.ext (hoth b (hown ho)), hsz, hc, us, rest, e, hr.imp fun x u hx => hx.mono hle.A hle.w⟩
  · obtain ⟨h1, h2, h3⟩ := hm.live x b hx
    exact ⟨h1, by rw [hsize]; exact h2, h3⟩
  · exact hm.below.trans ((Below.refl _ w).grown (grownBy_putObj' w D o) (by have := hm.below.size; have := (Array.getElem?_eq_some_iff.1 hD).1; omega) (fun k e => by cases e; exact hw0))
  · rintro b ⟨hb, hne⟩
    obtain ⟨h1, h2, h3⟩ := hm.fr b hb
    exact ⟨by rw [hsize]; exact h1, by rw [hoth b hne]; exact h2, h3⟩
theorem leaveU {B : Dom} {w0 : World} {fn : Func} {R : Ending → World → Prop} {n : Nat} {st : St} {tmps ta : Array Value} {μ : Mu} {u : FrameMode} (hu : u ≠ .run) : ∀ (ds : List Deferred) (A1 : Dom) (w : World), B.Ext A1 → Dok B w0 A1 ds → Sim A1 w0 st tmps w μ →
    (∀ w1, Sim B w0 st tmps w1 μ → LeavesIn (Fr none) n P fn ta R [] u w1) → LeavesInM (Fr none) n P fn ta R ds u w
  | [], A1, w, he, _, hs, hfin => by
    exact hfin w (he.sim hs)
  | d :: ds, A1, w, he, hd, hs, hfin => by
    obtain ⟨⟨D, h1, h2, h3, h4, h5, h5', h6, h7⟩, h8⟩ := hd
    have hD : w.heap[D]? = some (.deferred (some [])) := (hs.mem.fr D h2).2.1.trans h4
    refine ⟨hu, .inl ⟨D, w.putObj D (.deferred none), by rw [h1], run_takeDeferred hD, ?_⟩⟩
    refine leaveU hu ds (A1.less D) _ ⟨he.A, fun b hb => ⟨he.X b hb, fun e => h5' (e ▸ hb)⟩, he.pin, he.np, he.keep, fun b hb => ⟨⟨(he.F b hb).1, fun e => h5 (e ▸ hb)⟩, (he.F b hb).2⟩⟩ ?_ (sim_shut hs h2 h3 hD h6) hfin
    exact Dok.drop (A' := A1.less D) (fun b h1 h2 => ⟨h1, h2⟩) (fun b h1 h2 => ⟨h1, h2⟩) rfl h7 h8

theorem leave {B : Dom} {w0 : World} {fn : Func} {R : Ending → World → Prop} {n : Nat} {st : St} {tmps : Array Value} {μ : Mu} (ds : List Deferred) (A1 : Dom) (w : World) (hB : B.Ext A1) (hd : Dok B w0 A1 ds) (hs : Sim A1 w0 st tmps w μ)
    (hfin : ∀ w1, Sim B w0 st tmps w1 μ → ∃ v, (results fn tmps).run P w1 = .ok v w1 ∧ R (.returned v) w1) : LeavesInM (Fr none) n P fn tmps R ds .returning w :=
  leaveU (by simp) ds A1 w hB hd hs fun w1 h1 => by
    obtain ⟨v, h2, h3⟩ := hfin w1 h1
    exact ⟨v, h2, h3⟩

/-- A FUNCTION IS WHAT THE EVALUATOR TELLS OF IT. -/
theorem sound_of (hε : EnvOk P ε) {f : Nat} {fn : Func} {c : Code} (hf : P.funcs[f]? = some fn) (hnm : (fn.name == "runtime.NumGoroutine") = false) (hb : fn.body = some c) (x : Ann P 0 true c) {ps rs : List KD}
    {F : argsDen ps → Option (argsDen rs)} (hF : ∀ y, F y = evFunA ε fn x (encArgs ps y) (decRes rs)) : Sound P f (pfun F) := by
  refine ⟨⟨fn, hf, hnm, by rw [hb]; rfl⟩, ?_⟩
  intro S args K r h A w vs hA hgi hcl hrep
  simp only [pfun, Option.bind_eq_some_iff] at h
  obtain ⟨y, hy, z, hz, hK⟩ := h
  refine ⟨encRes rs z, hK, encRes_closed rs z, ?_⟩
  rw [hF] at hz
  have hargs := decArgs_rep hy hrep
  refine (callsIn_wide (n := 0)).1 (callsIn_of_wp_marks (F := Fr none) hf hb trivial ?_)
  have hlen := hargs.length
  let μ0 : Mu := ⟨fun _ => none, fun _ => 0, none⟩
  have hsub : (c0 A w).Sub (cx (Dom.of A w) w [] [] w μ0) := ⟨fun b hb => ⟨⟨.inl hb, fun h => h⟩, hA b hb, fun x hx => by cases hx⟩, fun _ _ => rfl⟩
  have hdead : ∀ n, RepAVs (cx (Dom.of A w) w [] [] w μ0) (List.replicate n .dead) (List.replicate n undef) := by
    intro n
    induction n with
    | zero => simp [RepAVs]
    | succ n ih => exact RepAVs.cons (by simp only [RepAV]) ih
  have hsim : Sim (Dom.of A w) w { slots := encArgs ps y ++ List.replicate (fn.ntmps - (encArgs ps y).length) .dead, recs := [], lsts := [] } (vs.toArray ++ Array.replicate (fn.ntmps - vs.toArray.size) undef) w μ0 := by
    refine ⟨?_, ?_, ?_, ?_, ?_, Below.refl _ _, ?_, ?_, ?_, ?_, hgi, ⟨fun r c h => by simp [getL] at h, fun t o h => by simp [getL] at h⟩, fun r c h => by simp [getL] at h, fun d h => by cases h⟩
    · have := (RepAVs.closed hsub hargs (encArgs_closed ps y)).append (hdead (fn.ntmps - (encArgs ps y).length))
      simpa [hlen] using this
    · intro r cells h; simp [getL] at h
    · intro t o h; simp [getL] at h
    · intro x b h; cases h
    · intro x y b h; cases h
    · intro b h; cases h
    · intro b h; cases h
    · exact Nat.le_refl _
    · intro r b h; cases h
  refine evA_sound (B := Dom.of A w) (ρ := none) hε (fun _ => rfl) x (A0 := Dom.of A w) (Dom.Ext.refl _) (Nat.le_refl 0) _ (fun A1 ex st tm E a' w2 μ' he h1 h2 hl h3 => ?_) _ _ w μ0 hz hsim trivial
  have fin : tm = a'.tmps → (evRes ε st fn.results.toList).bind (fun l => decRes rs (resVal l)) = some z → LeavesInM (Fr none) 0 P fn a'.tmps (fun e w' => ∃ v', e = .returned v' ∧ Below w.heap.size w w' ∧ RepAV (c0 (News w w' A) w') (encRes rs z) v') a'.defers .returning w2 := by
    intro htm h4
    subst htm
    simp only [Option.bind_eq_some_iff] at h4
    obtain ⟨l, hl, hdec⟩ := h4
    refine leave _ A1 w2 he h3 h2 fun w' h2 => ?_
    obtain ⟨us, g1, g2, g3⟩ := evRes_sound (a := a') hε h2 _ l hl
    refine ⟨_, results_run g1, _, rfl, h2.mem.below, ?_⟩
    have hval : RepAV (c0 (Far (Dom.of A w) w w') w') (resVal l) (if h : us.toArray.size = 1 then us.toArray[0] else .tuple us.toArray) := by
      have hl2 := g3.length
      unfold resVal
      split
      · obtain ⟨v, rfl, hv⟩ := g3.one'
        simpa using hv
      · rename_i hne
        have : ¬ us.toArray.size = 1 := by
          intro e
          simp at e
          rw [hl2] at e
          match l, e with
          | [v], _ => exact hne v rfl
        rw [dif_neg this]
        simp only [RepAV]
        exact ⟨_, rfl, by simpa using g3⟩
    have hrr := decRes_rep hdec hval
    refine RepAV.closed (c := c0 (Far (Dom.of A w) w w') w') (c' := c0 (News w w' A) w') ⟨fun b hb => ?_, fun _ _ => rfl⟩ (encRes_closed rs z) hrr
    rcases hb.1 with h5 | h5
    · exact .inl h5
    · exact .inr ⟨h5, hb.2⟩
  cases ex with
  | normal => obtain ⟨e1, rfl⟩ := hl; exact fin e1 h1
  | ret => obtain ⟨e1, rfl⟩ := hl; exact fin e1 h1
  | exit id => cases h1
  | panic => cases h1

/-- What a function that is handed own memory hands back. -/
def evResH (ε : Env) (st : St) : List ResultVar → Option (List AV)
  | [] => some []
  | .tmp t :: r => (evResH ε st r).bind fun l => some (st.slots.getD t .dead :: l)
  | .cell a t :: r => match st.slots.getD a .dead with
    | .ptr q 0 => (match getL st.recs q, ε.ti t with
      | some cells, some i => (partOf cells 0 i.size i.agg).bind fun v => (evResH ε st r).bind fun l => some (v :: l)
      | _, _ => none)
    | _ => none
theorem evResH_sound (hε : EnvOk P ε) {A0 w0 w st} {a : Act} {μ} (hs : Sim A0 w0 st a.tmps w μ) : ∀ (rs : List ResultVar) (l : List AV), evResH ε st rs = some l →
    ∃ vs : List Value, (rs.mapM (resF a.tmps)).run P w = .ok vs w ∧ RepAVs (cx A0 w0 st.recs st.lsts w μ) l vs
  | [], l, h => by
    simp only [evResH, Option.some.injEq] at h; subst h
    exact ⟨[], by simp, by simp [RepAVs]⟩
  | .tmp t :: rs, l, h => by
    simp only [evResH, Option.bind_eq_some_iff, Option.some.injEq] at h
    obtain ⟨m, hm, rfl⟩ := h
    obtain ⟨vs, h1, h3⟩ := evResH_sound hε hs rs m hm
    have hr := ev_rep hs.slots (.tmp t)
    simp only [St.ev] at hr
    refine ⟨_ :: vs, ?_, RepAVs.cons hr h3⟩
    simp [List.mapM_cons, resF, h1, Act.eval]
  | .cell q t :: rs, l, h => by
    simp only [evResH] at h
    split at h
    · rename_i r hq
      split at h
      · rename_i cells i hcells hi
        simp only [Option.bind_eq_some_iff, Option.some.injEq] at h
        obtain ⟨v, hpart, m, hm, rfl⟩ := h
        obtain ⟨vs, h1, h3⟩ := evResH_sound hε hs rs m hm
        have hti := hε.ti t i hi
        have hr := ev_rep hs.slots (.tmp q)
        simp only [St.ev, hq] at hr
        simp only [RepAV, cx] at hr
        obtain ⟨b, hb, hval⟩ := hr.2.2 (by rw [hcells]; rfl)
        obtain ⟨cs, hown, hcr⟩ := hs.mem.rec_at hcells hb
        obtain ⟨val, hrun, hrep⟩ := load_cells (P := P) (c := cx A0 w0 st.recs st.lsts w μ) (w := w) hti hcr hown.cells hpart
        refine ⟨val :: vs, ?_, RepAVs.cons hrep h3⟩
        simp only [Nat.zero_add] at hrun
        have he : a.tmps.getD q undef = .pointer (some ⟨b, 0, none⟩) := hval
        simp [List.mapM_cons, resF, h1, he, asAddr, hrun]
      · cases h
    · cases h

/-- A function that is handed own memory, gone through as told. -/
noncomputable def evFunH (ε : Env) {P : Program} {np : Nat} {tp : Bool} (fn : Func) {c : Code} (x : Ann P np tp c) (I O : Shape) (y : I.den) : Option O.den :=
  evA ε x { slots := (fill I y).slots ++ List.replicate (fn.ntmps - (fill I y).slots.length) .dead, recs := (fill I y).recs, lsts := (fill I y).lsts } fun ex st => match ex with
    | .normal | .ret => (evResH ε st fn.results.toList).bind fun l => abs O ⟨l, st.recs, st.lsts⟩
    | _ => none
theorem sound_ofH (hε : EnvOk P ε) {f : Nat} {fn : Func} {c : Code} (hf : P.funcs[f]? = some fn) (hnm : (fn.name == "runtime.NumGoroutine") = false) (hb : fn.body = some c) {I O : Shape} (x : Ann P I.recs.length true c) (hIO : Nat.ble I.recs.length O.recs.length = true)
    {F : I.den → Option O.den} (hF : ∀ y, F y = evFunH ε fn x I O y) : SoundH P f ⟨I, O, F⟩ := by
  refine ⟨⟨fn, hf, hnm, by rw [hb]; rfl⟩, ?_⟩
  intro y o ho A0 w0 w vs μ hs
  replace ho : F y = some o := ho
  rw [hF] at ho
  refine (callsIn_wide (n := 0)).1 (callsIn_of_wp_marks (F := Fr none) hf hb trivial ?_)
  have hlen := hs.slots.length
  have hdead : ∀ n, RepAVs (cx A0 w0 (fill I y).recs (fill I y).lsts w μ) (List.replicate n .dead) (List.replicate n undef) := by
    intro n
    induction n with
    | zero => simp [RepAVs]
    | succ n ih => exact RepAVs.cons (by simp only [RepAV]) ih
  have hsim : Sim A0 w0 { slots := (fill I y).slots ++ List.replicate (fn.ntmps - (fill I y).slots.length) .dead, recs := (fill I y).recs, lsts := (fill I y).lsts } (vs.toArray ++ Array.replicate (fn.ntmps - vs.toArray.size) undef) w μ := by
    refine ⟨?_, hs.mem⟩
    have := hs.slots.append (hdead (fn.ntmps - (fill I y).slots.length))
    simp only [List.toList_toArray] at hlen
    simpa [hlen] using this
  have hnp : A0.np ≤ I.recs.length := by have := hs.mem.np; simp only [fill] at this; rw [fillR_length] at this; exact this
  refine evA_sound (B := A0) (ρ := none) hε (fun _ => rfl) x (Dom.Ext.refl _) hnp _ (fun A1 ex st tm E a' w2 μ' he h1 h2 hl h3 => ?_) _ _ w μ ho hsim trivial
  have fin : tm = a'.tmps → ((evResH ε st fn.results.toList).bind fun l => abs O ⟨l, st.recs, st.lsts⟩) = some o → LeavesInM (Fr none) 0 P fn a'.tmps (fun e w' => ∃ us μ', e = .returned (retVal us) ∧ Sim A0 w0 (fill O o) us.toArray w' μ') a'.defers .returning w2 := by
    intro htm h4
    subst htm
    simp only [Option.bind_eq_some_iff] at h4
    obtain ⟨l, hl, habs⟩ := h4
    refine leave _ A1 w2 he h3 h2 fun w' h2 => ?_
    obtain ⟨us, g1, g3⟩ := evResH_sound (a := a') hε h2 _ l hl
    have hs2 : Sim A0 w0 ⟨l, st.recs, st.lsts⟩ us.toArray w' μ' := ⟨by simpa using g3, h2.mem⟩
    exact ⟨_, results_run g1, us, _, rfl, abs_sound hs2 (Nat.le_trans hnp (Nat.le_of_ble_eq_true hIO)) habs⟩
  cases ex with
  | normal => obtain ⟨e1, rfl⟩ := hl; exact fin e1 h1
  | ret => obtain ⟨e1, rfl⟩ := hl; exact fin e1 h1
  | exit id => cases h1
  | panic => cases h1

/-- The same, of a function that may panic. -/
noncomputable def evFunP (ε : Env) {P : Program} {np : Nat} {tp : Bool} (fn : Func) {c : Code} (x : Ann P np tp c) (I O Z : Shape) (y : I.den) : Option (O.den ⊕ Z.den) :=
  evA ε x { slots := (fill I y).slots ++ List.replicate (fn.ntmps - (fill I y).slots.length) .dead, recs := (fill I y).recs, lsts := (fill I y).lsts } fun ex st => match ex with
    | .normal | .ret => ((evResH ε st fn.results.toList).bind fun l => abs O ⟨l, st.recs, st.lsts⟩).map .inl
    | .panic => (abs Z st).map .inr
    | _ => none
theorem sound_ofP (hε : EnvOk P ε) {f : Nat} {fn : Func} {c : Code} (hf : P.funcs[f]? = some fn) (hnm : (fn.name == "runtime.NumGoroutine") = false) (hb : fn.body = some c) {I O Z : Shape} (x : Ann P I.recs.length true c) (hIO : Nat.ble I.recs.length O.recs.length = true) (hIZ : Nat.ble I.recs.length Z.recs.length = true)
    {F : I.den → Option (O.den ⊕ Z.den)} (hF : ∀ y, F y = evFunP ε fn x I O Z y) : SoundP P f ⟨I, O, Z, F⟩ := by
  refine ⟨⟨fn, hf, hnm, by rw [hb]; rfl⟩, ?_⟩
  intro y o ho A0 w0 w vs μ hs
  replace ho : F y = some o := ho
  rw [hF] at ho
  refine (callsIn_wide (n := 0)).1 (callsIn_of_wp_marks (F := Fr none) hf hb trivial ?_)
  have hlen := hs.slots.length
  have hdead : ∀ n, RepAVs (cx A0 w0 (fill I y).recs (fill I y).lsts w μ) (List.replicate n .dead) (List.replicate n undef) := by
    intro n
    induction n with
    | zero => simp [RepAVs]
    | succ n ih => exact RepAVs.cons (by simp only [RepAV]) ih
  have hsim : Sim A0 w0 { slots := (fill I y).slots ++ List.replicate (fn.ntmps - (fill I y).slots.length) .dead, recs := (fill I y).recs, lsts := (fill I y).lsts } (vs.toArray ++ Array.replicate (fn.ntmps - vs.toArray.size) undef) w μ := by
    refine ⟨?_, hs.mem⟩
    have := hs.slots.append (hdead (fn.ntmps - (fill I y).slots.length))
    simp only [List.toList_toArray] at hlen
    simpa [hlen] using this
  have hnp : A0.np ≤ I.recs.length := by have := hs.mem.np; simp only [fill] at this; rw [fillR_length] at this; exact this
  refine evA_sound (B := A0) (ρ := none) hε (fun _ => rfl) x (Dom.Ext.refl _) hnp _ (fun A1 ex st tm E a' w2 μ' he h1 h2 hl h3 => ?_) _ _ w μ ho hsim trivial
  cases ex with
  | exit id => cases h1
  | panic =>
    obtain ⟨v, rfl, rfl⟩ := hl
    simp only [Option.map_eq_some_iff] at h1
    obtain ⟨z, hz, rfl⟩ := h1
    refine leaveU (by simp) _ A1 w2 he h3 h2 fun w' h2 => ?_
    exact ⟨v, _, rfl, abs_sound h2 (Nat.le_trans hnp (Nat.le_of_ble_eq_true hIZ)) hz⟩
  | normal | ret =>
    obtain ⟨rfl, rfl⟩ := hl
    simp only [Option.map_eq_some_iff] at h1
    obtain ⟨o, h4, rfl⟩ := h1
    simp only [Option.bind_eq_some_iff] at h4
    obtain ⟨l, hl, habs⟩ := h4
    refine leave _ A1 w2 he h3 h2 fun w' h2 => ?_
    obtain ⟨us, g1, g3⟩ := evResH_sound (a := a') hε h2 _ l hl
    have hs2 : Sim A0 w0 ⟨l, st.recs, st.lsts⟩ us.toArray w' μ' := ⟨by simpa using g3, h2.mem⟩
    exact ⟨_, results_run g1, us, _, rfl, abs_sound hs2 (Nat.le_trans hnp (Nat.le_of_ble_eq_true hIO)) habs⟩
end
end Go.Pe
