/- Texts of the proof, what is used of them: Fun, Ti, Range, Iter, GiTryd, ShelfTryd, BldTryd, LibTryd, Lib2Tryd, GV3. -/
import Derived.RangeFuncLeaves
import Derived.RangeFuncOwn
import Derived.RangeFuncIn
import Derived.RangeFuncRecord
import Derived.RangeFuncSeq
import Derived.Lib.AppendIntMem
import Derived.Lib.SmallJoins
import Derived.Test.YtgghmllnhaahgaaDoorProg
import Derived.Lib.Repeat
import Derived.Lib.Join
import Derived.Shelf.Strings.Builder1
import Derived.Shelf.Strings.Builder2
import Derived.Shelf.Small.Bits
import Derived.Shelf.Small.Strs
import Derived.Shelf.Strings.BuilderF
import Derived.Shelf.Strings.BuilderK
import Derived.Shelf.Utf8.RuneCount
import Derived.Shelf.Strings.Builder2Cap
import Derived.Shelf.Strconv.Itoa0
import Derived.Shelf.Strconv.Itoa1
import Derived.Shelf.LaysM
import Derived.Shelf.Strconv.Itoa2
import Derived.Shelf.Strconv.Itoa3
import Derived.Shelf.Strconv.Itoa4
import Derived.Shelf.Strings.Search1
import Derived.Shelf.Strings.Search2
import Derived.Shelf.Strings.Search3
import Derived.Shelf.Strings.Count
import Derived.Shelf.Strings.Shaped
import Derived.Shelf.Strings.Split
import Derived.Shelf.Strings.Replace
import Derived.Shelf.Strings.SplitShaped
import Derived.Shelf.Unicode.Decode
import Derived.Shelf.Strings.RuneCount
import Derived.Shelf.Unicode.DecodeSlow
import Derived.Shelf.Unicode.DecodeAny
import Derived.Shelf.Strings.BuilderCap
import Derived.Shelf.Slices.Turned
import Derived.Shelf.Slices.Equal
import Derived.Shelf.Slices.Empties2
import Derived.WalkKit
import Derived.LoopTactic
import Derived.OwnWalk
import Derived.Deep.RegionLaw
import Derived.Below
import Derived.IntWalk
import Derived.Lib.Hide
import Derived.Lib.UnsafeStr
import Derived.Test.YtgghmllnhaahgaaDoorPeZKeeps3
section
namespace Go.Pe
open Go.RowKit
set_option linter.unusedSectionVars false
variable [GI]
set_option linter.unusedSimpArgs false
set_option linter.unusedVariables false

@[reducible] def OutDen : List (Ex × Shape) → Type
  | [] => Empty
  | [(_, sh)] => sh.den
  | (_, sh) :: q :: r => sh.den ⊕ OutDen (q :: r)
def packOut : (outs : List (Ex × Shape)) → Ex → St → Option (OutDen outs)
  | [], _, _ => none
  | [(e, sh)], ex, st => if ex = e then abs sh st else none
  | (e, sh) :: q :: r, ex, st => if ex = e then (abs sh st).map .inl else (packOut (q :: r) ex st).map .inr
def unOut : (outs : List (Ex × Shape)) → OutDen outs → Ex × St
  | [(e, sh)], z => (e, fill sh z)
  | (e, sh) :: _ :: _, .inl z => (e, fill sh z)
  | _ :: q :: r, .inr o => unOut (q :: r) o
/-- What comes out, handed on. -/
def unOutK {S : Type} : (outs : List (Ex × Shape)) → OutDen outs → (Ex → St → Option S) → Option S
  | [], _, _ => none
  | [(e, sh)], z, K => K e (fill sh z)
  | (e, sh) :: q :: r, o, K => match o with | .inl z => K e (fill sh z) | .inr o => unOutK (q :: r) o K
theorem unOutK_eq {S : Type} : ∀ (outs : List (Ex × Shape)) (o : OutDen outs) (K : Ex → St → Option S), unOutK outs o K = K (unOut outs o).1 (unOut outs o).2
  | [], o, _ => nomatch o
  | [(e, sh)], z, K => rfl
  | (e, sh) :: q :: r, .inl z, K => rfl
  | (e, sh) :: q :: r, .inr o, K => unOutK_eq (q :: r) o K
def outsOk (np : Nat) : List (Ex × Shape) → Bool
  | [] => true
  | (_, sh) :: r => Nat.ble np sh.recs.length && outsOk np r
theorem outsOk_le {a b : Nat} (h : a ≤ b) : ∀ {outs : List (Ex × Shape)}, outsOk b outs = true → outsOk a outs = true
  | [], _ => rfl
  | (_, sh) :: r, ho => by
    simp only [outsOk, Bool.and_eq_true] at ho ⊢
    exact ⟨Nat.ble_eq_true_of_le (Nat.le_trans h (Nat.le_of_ble_eq_true ho.1)), outsOk_le h ho.2⟩
theorem packOut_sound {A0 w0 w st} {tmps : Array Value} {μ} (hs : Sim A0 w0 st tmps w μ) {ex : Ex} : ∀ {outs : List (Ex × Shape)} {o : OutDen outs}, outsOk A0.np outs = true → packOut outs ex st = some o → (unOut outs o).1 = ex ∧ ∃ μ', Sim A0 w0 (unOut outs o).2 tmps w μ'
  | [], _, _, h => by simp [packOut] at h
  | [(e, sh)], o, hn, h => by
    simp only [outsOk, Bool.and_eq_true] at hn
    simp only [packOut] at h
    split at h
    · rename_i he
      exact ⟨he.symm, _, abs_sound hs (Nat.le_of_ble_eq_true hn.1) h⟩
    · cases h
  | (e, sh) :: q :: r, o, hn, h => by
    rw [outsOk, Bool.and_eq_true] at hn
    simp only [packOut] at h
    split at h
    · rename_i he
      simp only [Option.map_eq_some_iff] at h
      obtain ⟨z, hz, rfl⟩ := h
      exact ⟨he.symm, _, abs_sound hs (Nat.le_of_ble_eq_true hn.1) hz⟩
    · simp only [Option.map_eq_some_iff] at h
      obtain ⟨z, hz, rfl⟩ := h
      exact packOut_sound (outs := q :: r) (o := z) hs hn.2 hz

/-- A domain in which more stays as it is. -/
structure Dom.Ext (A0 A1 : Dom) : Prop where
  A : A1.A = A0.A
  X : ∀ b, A0.X b → A1.X b
  pin : A1.pin = A0.pin
  np : A1.np = A0.np
  keep : A1.keep = A0.keep
  F : ∀ b, A0.F b → A1.F b ∧ A1.wF.heap[b]? = A0.wF.heap[b]?
theorem Dom.Ext.refl (A0 : Dom) : A0.Ext A0 := ⟨rfl, fun _ h => h, rfl, rfl, rfl, fun _ h => ⟨h, rfl⟩⟩
theorem Dom.Ext.trans {A0 A1 A2 : Dom} (h : A0.Ext A1) (k : A1.Ext A2) : A0.Ext A2 :=
  ⟨k.A.trans h.A, fun b hb => k.X b (h.X b hb), k.pin.trans h.pin, k.np.trans h.np, k.keep.trans h.keep, fun b hb => by obtain ⟨h1, h2⟩ := h.F b hb; obtain ⟨h3, h4⟩ := k.F b h1; exact ⟨h3, h4.trans h2⟩⟩
theorem Dom.Ext.imm {A0 A1 : Dom} (h : A0.Ext A1) {w0 w : World} {μ : Mu} {b : Nat} (hb : Imm A1 w0 μ w b) : Imm A0 w0 μ w b := by
  have := hb.1.1
  rw [h.A] at this
  exact ⟨⟨this, fun hx => hb.1.2 (h.X b hx)⟩, hb.2⟩
theorem Dom.Ext.le {A0 A1 : Dom} (h : A0.Ext A1) (w0 : World) (recs : List (Option (List AV))) (lsts : List (Option LObj)) (w : World) (μ : Mu) : (cx A1 w0 recs lsts w μ).Le (cx A0 w0 recs lsts w μ) :=
  ⟨fun _ hb => h.imm hb, fun _ _ => rfl, Nat.le_refl _, Nat.le_refl _, fun _ _ hs => ⟨hs, rfl⟩, fun _ o _ ho => ⟨o, ho, rfl, rfl, rfl, rfl⟩, fun x v hx => by simp only [cx] at hx ⊢; rw [← h.keep]; exact hx⟩
theorem LstAt.imp {c c' : Cx} {t : Nat} {o : LObj} (hle : c.Le c') (hw : c'.w = c.w) (hμ : c'.μ = c.μ) (h : LstAt c t o) : LstAt c' t o := by
  rcases h with ⟨h1, h2⟩ | ⟨b, vs, hb, ho, hsz, hc, us, rest, e, hr⟩
  · exact .inl ⟨by rw [hμ]; exact h1, h2⟩
  · exact .inr ⟨b, vs, by rw [hμ]; exact hb, by rw [hw]; exact ho, by rw [hμ]; exact hsz, by rw [hμ]; exact hc, us, rest, e, hr.imp fun x u hx => hx.mono hle.A hle.w⟩
theorem Dom.Ext.sim {A0 A1 : Dom} (h : A0.Ext A1) {w0 w : World} {st : St} {tmps : Array Value} {μ : Mu} (hs : Sim A1 w0 st tmps w μ) : Sim A0 w0 st tmps w μ := by
  have hle := h.le w0 st.recs st.lsts w μ
  have hm := hs.mem
  refine ⟨hs.slots.mono hle, ?_, ?_, hm.live, hm.inj, hm.below, ?_, fun b hb => hm.xo b (h.X b hb), ?_, ?_, hm.gi, hm.bty, fun r c hr => (hm.htop r c hr).imp (c := cx A1 w0 st.recs st.lsts w μ) rfl rfl (fun _ _ => rfl) fun us hu => hu.mono hle, fun d hd => (hm.deep d hd).mono (c := cx A1 w0 st.recs st.lsts w μ) ⟨hle.A, hle.w, fun _ => rfl, fun _ _ _ => rfl, Nat.le_refl _, fun _ _ h => h⟩⟩
  · intro r cells hr hk
    obtain ⟨b, vs, h1, h2, h3⟩ := hm.hrec r cells hr hk
    exact ⟨b, vs, h1, h2, h3.mono hle⟩
  · intro t o ht; exact (hm.hlst t o ht).imp hle rfl rfl
  · intro b hb
    obtain ⟨h1, h2⟩ := h.F b hb
    obtain ⟨h3, h4, h5⟩ := hm.fr b h1
    exact ⟨h3, h4.trans h2, h5⟩
  · rw [← h.np]; exact hm.np
  · rw [← h.pin, ← h.np]; exact hm.pins
def PieceSound (P : Program) (np : Nat) (tp : Bool) (c : Code) (sh : Shape) (outs : List (Ex × Shape)) (F : sh.den → Option (OutDen outs)) : Prop :=
  np ≤ sh.recs.length ∧ ∀ y o, F y = some o → ∀ (ρ : Option Nat) (n : Nat) (B A0 : Dom) (w0 : World) (Q : Exit → Act → World → Prop) (a : Act) (w : World) (μ : Mu), (tp = true → ρ = none) → B.Ext A0 → A0.np ≤ np → Sim A0 w0 (fill sh y) a.tmps w μ → Dok B w0 A0 a.defers →
    (∀ A1 tm E a' w' μ', A0.Ext A1 → Sim A1 w0 (unOut outs o).2 tm w' μ' → Lands (unOut outs o).1 tm a' E → Dok B w0 A1 a'.defers → Q E a' w') → c.wpIn (Fr ρ) n P Q a w

/-- How code is gone through: pieces that are known already stand for themselves. -/
inductive Ann (P : Program) (np : Nat) (tp : Bool) : Code → Type 1
  | leaf (c : Code) : Ann P np tp c
  | seq {a b : Code} (x : Ann P np tp a) (y : Ann P np tp b) : Ann P np tp (.seq a b)
  | cond {c : Operand} {a b : Code} (x : Ann P np tp a) (y : Ann P np tp b) : Ann P np tp (.cond c a b)
  | block {id : Nat} {c : Code} (x : Ann P np tp c) : Ann P np tp (.block id c)
  | piece {c : Code} (sh : Shape) (outs : List (Ex × Shape)) (F : sh.den → Option (OutDen outs)) (h : PieceSound P np tp c sh outs F) : Ann P np tp c
  | gho {c : Code} (pre post : List GS) (x : Ann P np tp c) : Ann P np tp c

noncomputable def evA (ε : Env) {P : Program} {np : Nat} {tp : Bool} {S : Type} : {c : Code} → Ann P np tp c → St → (Ex → St → Option S) → Option S
  | _, .leaf c, st, K => evC ε c st K
  | _, .seq x y, st, K => evA ε x st fun ex st' => match ex with | .normal => evA ε y st' K | e => K e st'
  | _, .cond (c := c) x y, st, K => (match st.ev c with | .d .bool b => cond b (evA ε x st K) (evA ε y st K) | _ => none)
  | _, .block (id := id) x, st, K => evA ε x st fun ex st' => match ex with | .exit j => if j = id then K .normal st' else K (.exit j) st' | e => K e st'
  | _, .piece sh outs F _, st, K => (abs sh st).bind fun y => (F y).bind fun o => unOutK outs o K
  | _, .gho pre post x, st, K => evGs pre st fun st1 => evA ε x st1 fun ex st' => match ex with | .normal => evGs post st' (K .normal) | e => K e st'

section
variable {P : Program} {B : Dom} {w0 : World} {S : Type}
variable {ε : Env} (hε : EnvOk P ε)
include hε

theorem evA_sound {np : Nat} {tp : Bool} {ρ : Option Nat} (hρ : tp = true → ρ = none) {n : Nat} {r : S} : ∀ {c : Code} (x : Ann P np tp c) {A0 : Dom} (_ : B.Ext A0) (_ : A0.np ≤ np) {Q : Exit → Act → World → Prop} (K : Ex → St → Option S)
    (_ : ∀ A1 ex st' tm E a' w' μ', A0.Ext A1 → K ex st' = some r → Sim A1 w0 st' tm w' μ' → Lands ex tm a' E → Dok B w0 A1 a'.defers → Q E a' w')
    (st : St) (a : Act) (w : World) (μ : Mu), evA ε x st K = some r → Sim A0 w0 st a.tmps w μ → Dok B w0 A0 a.defers → c.wpIn (Fr ρ) n P Q a w
  | _, .leaf c, A0, hB, hnp, Q, K, hK, st, a, w, μ, h, hs, hd => evC_sound (Dk := Dok B w0 A0) hε c K (fun ex st' tm E a' w' μ' h1 h2 hl h3 => hK A0 ex st' tm E a' w' μ' (Dom.Ext.refl _) h1 h2 hl h3) st a w μ h hs hd
  | _, .seq x y, A0, hB, hnp, Q, K, hK, st, a, w, μ, h, hs, hd => by
    simp only [evA] at h
    refine wpIn_seq (evA_sound hρ x hB hnp _ (fun A1 ex st' tm E a' w' μ' he h1 h2 hl h3 => ?_) st a w μ h hs hd)
    cases ex with
    | normal => obtain ⟨rfl, rfl⟩ := hl; exact evA_sound hρ y (hB.trans he) (by rw [he.np]; exact hnp) K (fun A2 ex st' tm E a' w' μ' he2 => hK A2 ex st' tm E a' w' μ' (he.trans he2)) st' a' w' μ' h1 h2 h3
    | exit id => obtain ⟨rfl, rfl⟩ := hl; exact hK A1 (.exit id) st' _ _ a' w' μ' he h1 h2 ⟨rfl, rfl⟩ h3
    | ret => obtain ⟨rfl, rfl⟩ := hl; exact hK A1 .ret st' _ _ a' w' μ' he h1 h2 ⟨rfl, rfl⟩ h3
    | panic => obtain ⟨v, rfl, rfl⟩ := hl; exact hK A1 .panic st' _ _ a' w' μ' he h1 h2 ⟨v, rfl, rfl⟩ h3
  | _, .cond (c := c) x y, A0, hB, hnp, Q, K, hK, st, a, w, μ, h, hs, hd => by
    simp only [evA] at h
    split at h
    · rename_i b hc
      have hcr := ev_rep hs.slots c
      rw [hc] at hcr
      simp only [RepAV, Rep, List.cons.injEq, and_true] at hcr
      cases b with
      | true => exact wpIn_cond_true hcr (evA_sound hρ x hB hnp K hK st a w μ h hs hd)
      | false => exact wpIn_cond_false hcr (evA_sound hρ y hB hnp K hK st a w μ h hs hd)
    · cases h
  | _, .block (id := id) x, A0, hB, hnp, Q, K, hK, st, a, w, μ, h, hs, hd => by
    simp only [evA] at h
    refine wpIn_block (evA_sound hρ x hB hnp _ (fun A1 ex st' tm E a' w' μ' he h1 h2 hl h3 => ?_) st a w μ h hs hd)
    cases ex with
    | normal => obtain ⟨rfl, rfl⟩ := hl; exact hK A1 .normal st' _ _ a' w' μ' he h1 h2 ⟨rfl, rfl⟩ h3
    | exit j =>
      obtain ⟨rfl, rfl⟩ := hl
      simp only at h1
      simp only [Ex.out, Exit.inBlock]
      split at h1
      · rename_i e; rw [if_pos e]; exact hK A1 .normal st' _ _ a' w' μ' he h1 h2 ⟨rfl, rfl⟩ h3
      · rename_i e; rw [if_neg e]; exact hK A1 (.exit j) st' _ _ a' w' μ' he h1 h2 ⟨rfl, rfl⟩ h3
    | ret => obtain ⟨rfl, rfl⟩ := hl; exact hK A1 .ret st' _ _ a' w' μ' he h1 h2 ⟨rfl, rfl⟩ h3
    | panic => obtain ⟨v, rfl, rfl⟩ := hl; exact hK A1 .panic st' _ _ a' w' μ' he h1 h2 ⟨v, rfl, rfl⟩ h3
  | _, .piece sh outs F hF, A0, hB, hnp, Q, K, hK, st, a, w, μ, h, hs, hd => by
    simp only [evA, Option.bind_eq_some_iff] at h
    obtain ⟨y, hy, o, ho, h⟩ := h
    rw [unOutK_eq] at h
    exact hF.2 y o ho ρ n B A0 w0 Q a w _ hρ hB hnp (abs_sound hs (Nat.le_trans hnp hF.1) hy) hd fun A1 tm E a' w' μ' he h1 hl h2 => hK A1 _ _ tm E a' w' μ' he h h1 hl h2
  | _, .gho pre post x, A0, hB, hnp, Q, K, hK, st, a, w, μ, h, hs, hd => by
    simp only [evA] at h
    obtain ⟨st1, h1, μ1, hs1⟩ := evGs_sound pre hs _ r h
    refine evA_sound hρ x hB hnp _ (fun A1 ex st' tm E a' w' μ' he h1 h2 hl h3 => ?_) st1 a w μ1 h1 hs1 hd
    cases ex with
    | normal =>
      obtain ⟨rfl, rfl⟩ := hl
      obtain ⟨st2, h4, μ2, hs2⟩ := evGs_sound post h2 _ r h1
      exact hK A1 .normal st2 _ _ a' w' μ2 he h4 hs2 ⟨rfl, rfl⟩ h3
    | exit id => obtain ⟨rfl, rfl⟩ := hl; exact hK A1 (.exit id) st' _ _ a' w' μ' he h1 h2 ⟨rfl, rfl⟩ h3
    | ret => obtain ⟨rfl, rfl⟩ := hl; exact hK A1 .ret st' _ _ a' w' μ' he h1 h2 ⟨rfl, rfl⟩ h3
    | panic => obtain ⟨v, rfl, rfl⟩ := hl; exact hK A1 .panic st' _ _ a' w' μ' he h1 h2 ⟨v, rfl, rfl⟩ h3

omit hε in
theorem piece_of (hε : EnvOk P ε) {np : Nat} {tp : Bool} {c : Code} (x : Ann P np tp c) {sh : Shape} {outs : List (Ex × Shape)} {F : sh.den → Option (OutDen outs)} (h1 : Nat.ble np sh.recs.length = true) (h2 : outsOk np outs = true) (h : ∀ y, F y = evA ε x (fill sh y) (packOut outs)) : PieceSound P np tp c sh outs F := by
  refine ⟨Nat.le_of_ble_eq_true h1, ?_⟩
  intro y o ho ρ n B A0 w0 Q a w μ hρ hB hnp hs hd hQ
  rw [h] at ho
  have hok := h2
  refine evA_sound (B := B) hε hρ x hB hnp _ (fun A1 ex st' tm E a' w' μ' he h1 h2 hl h3 => ?_) _ a w μ ho hs hd
  obtain ⟨e, μ2, h4⟩ := packOut_sound h2 (outsOk_le (by rw [he.np]; exact hnp) hok) h1
  exact hQ A1 tm E a' w' μ2 he h4 (by rw [e]; exact hl) h3

omit hε in
def iter {α β : Type} (step : (α → Option β) → α → Option β) : Nat → α → Option β
  | 0 => fun _ => none
  | n + 1 => step (iter step n)
omit hε in
theorem loop_of (hε : EnvOk P ε) {np : Nat} {tp : Bool} {c : Code} (x : Ann P np tp c) {sh : Shape} {outs : List (Ex × Shape)} {step : (sh.den → Option (OutDen outs)) → sh.den → Option (OutDen outs)}
    (h1 : Nat.ble np sh.recs.length = true) (h2 : outsOk np outs = true) (h : ∀ rec y, step rec y = evA ε x (fill sh y) (fun ex st => match ex with | .normal => (abs sh st).bind rec | e => packOut outs e st)) : ∀ n, PieceSound P np tp (.loop c) sh outs (iter step n) := by
  intro m
  refine ⟨Nat.le_of_ble_eq_true h1, ?_⟩
  have hle := Nat.le_of_ble_eq_true h1
  have hok := h2
  intro y o ho ρ n B A0 w0 Q a w μ hρ hB hnp hs hd hQ
  refine wpIn_loop_rounds m ?_
  induction m generalizing y a w μ A0 with
  | zero => simp [iter] at ho
  | succ m ih =>
    rw [roundsIn_succ]
    simp only [iter] at ho
    rw [h] at ho
    refine evA_sound (B := B) (w0 := w0) hε hρ x hB hnp _ (fun A1 ex st' tm E a' w' μ' he h1 h2 hl h3 => ?_) _ a w μ ho hs hd
    have hnp1 : A1.np ≤ np := by rw [he.np]; exact hnp
    have out : ∀ ex, packOut outs ex st' = some o → Lands ex tm a' E → Q E a' w' := fun ex h1 hl => by
      obtain ⟨e, μ2, h4⟩ := packOut_sound h2 (outsOk_le hnp1 hok) h1
      exact hQ A1 tm E a' w' μ2 he h4 (by rw [e]; exact hl) h3
    cases ex with
    | normal =>
      obtain ⟨rfl, rfl⟩ := hl
      simp only [Option.bind_eq_some_iff] at h1
      obtain ⟨y', hy', h1⟩ := h1
      exact ih y' h1 A1 a' w' _ (hB.trans he) hnp1 (abs_sound h2 (Nat.le_trans hnp1 hle) hy') h3 fun A2 tm2 E2 a2 w2 μ2 he2 => hQ A2 tm2 E2 a2 w2 μ2 (he.trans he2)
    | exit id => obtain ⟨rfl, rfl⟩ := hl; exact out (.exit id) h1 ⟨rfl, rfl⟩
    | ret => obtain ⟨rfl, rfl⟩ := hl; exact out .ret h1 ⟨rfl, rfl⟩
    | panic => obtain ⟨v, rfl, rfl⟩ := hl; exact out .panic h1 ⟨v, rfl, rfl⟩
end

/-- Kinds of parameters and results. -/
inductive KD where
  | one (t : Ty) | agg (ts : List Ty)
@[reducible] def tysDen : List Ty → Type
  | [] => Unit
  | t :: r => t.den × tysDen r
@[reducible] def KD.den : KD → Type
  | .one t => t.den
  | .agg ts => tysDen ts
@[reducible] def argsDen : List KD → Type
  | [] => Unit
  | k :: r => k.den × argsDen r
def encTys : (ts : List Ty) → tysDen ts → List AV
  | [], _ => []
  | t :: r, x => .d t x.1 :: encTys r x.2
def decTys : (ts : List Ty) → List AV → Option (tysDen ts)
  | [], [] => some ()
  | t :: r, v :: vs => (asTy [] t v).bind fun x => (decTys r vs).bind fun y => some (x, y)
  | _, _ => none
def KD.enc : (k : KD) → k.den → AV
  | .one t, x => .d t x
  | .agg ts, x => .agg (encTys ts x)
def KD.dec : (k : KD) → AV → Option k.den
  | .one t, v => asTy [] t v
  | .agg ts, .agg l => decTys ts l
  | .agg _, _ => none
def encArgs : (ks : List KD) → argsDen ks → List AV
  | [], _ => []
  | k :: r, x => k.enc x.1 :: encArgs r x.2
def decArgs : (ks : List KD) → List AV → Option (argsDen ks)
  | [], [] => some ()
  | k :: r, v :: vs => (k.dec v).bind fun x => (decArgs r vs).bind fun y => some (x, y)
  | _, _ => none
def encRes (ks : List KD) (x : argsDen ks) : AV := resVal (encArgs ks x)
def decRes : (ks : List KD) → AV → Option (argsDen ks)
  | [k], v => (k.dec v).bind fun x => some (x, ())
  | ks, .tup l => decArgs ks l
  | _, _ => none

theorem asTy_single {A w} {t : Ty} {v : AV} {x : t.den} {val : Value} (h : asTy [] t v = some x) (hr : RepAV (c0 A w) v val) : RepAV (c0 A w) (.d t x) val := by
  simp only [RepAV]
  exact asTy_rep (c := c0 A w) (A' := A) (fun _ h => h) (fun t o v h => no_lists t o v h) h hr
theorem decTys_rep {A w} : ∀ {ts : List Ty} {l : List AV} {x : tysDen ts} {vs}, decTys ts l = some x → RepAVs (c0 A w) l vs → RepAVs (c0 A w) (encTys ts x) vs
  | [], [], _, _, _, hr => by simpa only [encTys] using hr
  | [], _ :: _, _, _, h, _ => by simp [decTys] at h
  | _ :: _, [], _, _, h, _ => by simp [decTys] at h
  | t :: ts, v :: l, x, vs, h, hr => by
    simp only [decTys, Option.bind_eq_some_iff, Option.some.injEq] at h
    obtain ⟨y, hy, ys, hys, rfl⟩ := h
    obtain ⟨val, rest, rfl, h1, h2⟩ := hr.cons'
    exact RepAVs.cons (asTy_single hy h1) (decTys_rep hys h2)
theorem KD.dec_rep {A w} : ∀ {k : KD} {v : AV} {x : k.den} {val}, k.dec v = some x → RepAV (c0 A w) v val → RepAV (c0 A w) (k.enc x) val
  | .one t, v, x, val, h, hr => asTy_single h hr
  | .agg ts, v, x, val, h, hr => by
    cases v <;> simp only [KD.dec] at h <;> try (cases h; done)
    simp only [KD.enc, RepAV] at hr ⊢
    obtain ⟨us, e, hu⟩ := hr
    exact ⟨us, e, decTys_rep h hu⟩
theorem decArgs_rep {A w} : ∀ {ks : List KD} {l : List AV} {x : argsDen ks} {vs}, decArgs ks l = some x → RepAVs (c0 A w) l vs → RepAVs (c0 A w) (encArgs ks x) vs
  | [], [], _, _, _, hr => by simpa only [encArgs] using hr
  | [], _ :: _, _, _, h, _ => by simp [decArgs] at h
  | _ :: _, [], _, _, h, _ => by simp [decArgs] at h
  | k :: ks, v :: l, x, vs, h, hr => by
    simp only [decArgs, Option.bind_eq_some_iff, Option.some.injEq] at h
    obtain ⟨y, hy, ys, hys, rfl⟩ := h
    obtain ⟨val, rest, rfl, h1, h2⟩ := hr.cons'
    exact RepAVs.cons (KD.dec_rep hy h1) (decArgs_rep hys h2)
theorem encTys_closed : ∀ (ts : List Ty) (x : tysDen ts), closedL (encTys ts x) = true
  | [], _ => rfl
  | t :: ts, x => by simp [encTys, closedL, AV.closed, encTys_closed ts x.2]
theorem KD.enc_closed : ∀ (k : KD) (x : k.den), (k.enc x).closed = true
  | .one _, _ => rfl
  | .agg ts, x => by simp [KD.enc, AV.closed, encTys_closed]
theorem encArgs_closed : ∀ (ks : List KD) (x : argsDen ks), closedL (encArgs ks x) = true
  | [], _ => rfl
  | k :: ks, x => by simp [encArgs, closedL, KD.enc_closed, encArgs_closed ks x.2]
theorem encRes_closed (ks : List KD) (x : argsDen ks) : (encRes ks x).closed = true := by
  unfold encRes
  have := encArgs_closed ks x
  generalize encArgs ks x = l at this
  unfold resVal
  split
  · simpa [closedL] using this
  · simpa [AV.closed] using this
theorem decRes_rep {A w} {ks : List KD} {v : AV} {x : argsDen ks} {val} (h : decRes ks v = some x) (hr : RepAV (c0 A w) v val) : RepAV (c0 A w) (encRes ks x) val := by
  have key : ∀ {ks : List KD} {l : List AV} {x : argsDen ks}, ks.length ≠ 1 → decArgs ks l = some x → RepAV (c0 A w) (.tup l) val → RepAV (c0 A w) (encRes ks x) val := by
    intro ks l x hl h hr
    have hlen : (encArgs ks x).length = ks.length := by
      clear h hl hr
      induction ks with
      | nil => rfl
      | cons k ks ih => simp [encArgs, ih]
    simp only [RepAV] at hr
    obtain ⟨us, e, hu⟩ := hr
    have := decArgs_rep h hu
    unfold encRes resVal
    split
    · rename_i he; rw [he] at hlen; simp at hlen; omega
    · simp only [RepAV]; exact ⟨us, e, this⟩
  match ks, v, x, h with
  | [k], v, x, h =>
    simp only [decRes, Option.bind_eq_some_iff, Option.some.injEq] at h
    obtain ⟨y, hy, rfl⟩ := h
    exact KD.dec_rep hy hr
  | [], .tup l, x, h => exact key (by simp) h hr
  | k :: k' :: ks, .tup l, x, h => exact key (by simp) h hr

/-- A function, gone through as told. -/
noncomputable def evFunA (ε : Env) {P : Program} {np : Nat} {tp : Bool} {S : Type} (fn : Func) {c : Code} (x : Ann P np tp c) (args : List AV) (K : AV → Option S) : Option S :=
  evA ε x { slots := args ++ List.replicate (fn.ntmps - args.length) .dead, recs := [], lsts := [] } fun ex st => match ex with
    | .normal | .ret => (evRes ε st fn.results.toList).bind fun l => K (resVal l)
    | _ => none

/-- What is told of a function, as it is called. -/
def pfun {ps rs : List KD} (F : argsDen ps → Option (argsDen rs)) : PFun := fun args K => (decArgs ps args).bind fun x => (F x).bind fun y => K (encRes rs y)

section
variable {P : Program} {ε : Env}

def resF (tmps : Array Value) : ResultVar → Sem Value
  | .tmp t => pure (tmps.getD t undef)
  | .cell a t => do loadVar t (← asAddr (tmps.getD a undef))
def Far (A0 : Dom) (w0 w : World) (b : Nat) : Prop := (A0.A b ∨ w0.heap.size ≤ b) ∧ b < w.heap.size

theorem evRes_sound (hε : EnvOk P ε) {A0 w0 w st} {a : Act} {μ} (hs : Sim A0 w0 st a.tmps w μ) : ∀ (rs : List ResultVar) (l : List AV), evRes ε st rs = some l →
    ∃ vs : List Value, (rs.mapM (resF a.tmps)).run P w = .ok vs w ∧ closedL l = true ∧ RepAVs (c0 (Far A0 w0 w) w) l vs
  | [], l, h => by
    simp only [evRes, Option.some.injEq] at h; subst h
    exact ⟨[], by simp, rfl, by simp [RepAVs]⟩
  | .tmp t :: rs, l, h => by
    simp only [evRes, Option.bind_eq_some_iff, Option.some.injEq] at h
    obtain ⟨v, hv, m, hm, rfl⟩ := h
    obtain ⟨vs, h1, h2, h3⟩ := evRes_sound hε hs rs m hm
    have hr := ev_rep hs.slots (.tmp t)
    simp only [St.ev] at hr
    obtain ⟨g1, g2⟩ := close_rep (A' := Far A0 w0 w) hs.mem (fun b hb => ⟨hb.1.1, hb.2.1⟩) (fun t b hb => ⟨.inr (hs.mem.live _ _ hb).1, (hs.mem.live _ _ hb).2.1⟩) hv hr
    refine ⟨_ :: vs, ?_, by simp [closedL, g1, h2], RepAVs.cons g2 h3⟩
    simp [List.mapM_cons, resF, h1, Act.eval]
  | .cell q t :: rs, l, h => by
    simp only [evRes] at h
    split at h
    · rename_i r hq
      split at h
      · rename_i cells i hcells hi
        split at h
        · rename_i hsz
          simp only [Option.bind_eq_some_iff, Option.some.injEq] at h
          obtain ⟨v, hv, v', hv', m, hm, rfl⟩ := h
          obtain ⟨vs, h1, h2, h3⟩ := evRes_sound hε hs rs m hm
          have hti := hε.ti t i hi
          have hr := ev_rep hs.slots (.tmp q)
          simp only [St.ev, hq] at hr
          simp only [RepAV, cx] at hr
          obtain ⟨b, hb, hval⟩ := hr.2.2 (by rw [hcells]; rfl)
          obtain ⟨cs, hown, hcr⟩ := hs.mem.rec_at hcells hb
          have hpart : partOf cells 0 i.size i.agg = some v := by
            unfold partOf
            cases hag : i.agg with
            | true =>
              simp only [hag, if_true, Option.some.injEq] at hv ⊢
              subst hv
              rw [if_pos (by omega)]; simp [← hsz]
            | false =>
              simp only [hag, Bool.false_eq_true, if_false] at hv ⊢
              cases cells with
              | nil => simp at hv
              | cons x xs => simpa using hv
          obtain ⟨val, hrun, hrep⟩ := load_cells (P := P) (c := cx A0 w0 st.recs st.lsts w μ) (w := w) hti hcr hown.cells hpart
          obtain ⟨g1, g2⟩ := close_rep (A' := Far A0 w0 w) hs.mem (fun b hb => ⟨hb.1.1, hb.2.1⟩) (fun t b hb => ⟨.inr (hs.mem.live _ _ hb).1, (hs.mem.live _ _ hb).2.1⟩) hv' hrep
          refine ⟨val :: vs, ?_, by simp [closedL, g1, h2], RepAVs.cons g2 h3⟩
          simp only [Nat.zero_add] at hrun
          have he : a.tmps.getD q undef = .pointer (some ⟨b, 0, none⟩) := hval
          simp [List.mapM_cons, resF, h1, he, asAddr, hrun]
        · cases h
      · cases h
    · cases h

theorem results_run {w : World} {fn : Func} {tmps : Array Value} {vs : List Value} (h : (fn.results.toList.mapM (resF tmps)).run P w = .ok vs w) : (results fn tmps).run P w = .ok (if h : vs.toArray.size = 1 then vs.toArray[0] else .tuple vs.toArray) w := by
  have e : results fn tmps = (do let vs ← fn.results.mapM (resF tmps); pure (if h : vs.size = 1 then vs[0] else .tuple vs)) := by
    unfold results
    rfl
  rw [e, Array.mapM_eq_mapM_toList]
  simp [h]

theorem Dok.drop {B : Dom} {w0 : World} {A A' : Dom} {D : Nat} (hF : ∀ b, A.F b → b ≠ D → A'.F b) (hX : ∀ b, A.X b → b ≠ D → A'.X b) (hw : A'.wF = A.wF) : ∀ {ds : List Deferred}, (∀ d ∈ ds, d ≠ { target := .collected D, args := #[] }) → Dok B w0 A ds → Dok B w0 A' ds
  | [], _, _ => trivial
  | d :: ds, hne, h => by
    obtain ⟨⟨D', h1, h2, h3, h4, h5, h5', h6, h7⟩, h8⟩ := h
    have hD : D' ≠ D := fun e => hne d (by simp) (by rw [h1, e])
    exact ⟨⟨D', h1, hF _ h2 hD, hX _ h3 hD, by rw [hw]; exact h4, h5, h5', h6, h7⟩, Dok.drop hF hX hw (fun d hd => hne d (by simp [hd])) h8⟩
def Dom.less (A1 : Dom) (D : Nat) : Dom := { A1 with F := fun b => A1.F b ∧ b ≠ D, X := fun b => A1.X b ∧ b ≠ D }
theorem sim_shut {A1 : Dom} {w0 w : World} {st : St} {tmps : Array Value} {μ : Mu} {D : Nat} {o : Obj} (hs : Sim A1 w0 st tmps w μ) (hF : A1.F D) (hX : A1.X D) (hD : w.heap[D]? = some (.deferred (some []))) (hw0 : w0.heap.size ≤ D) :
    Sim (A1.less D) w0 st tmps (w.putObj D o) μ := by
  have hm := hs.mem
  have hoth : ∀ b, b ≠ D → (w.putObj D o).heap[b]? = w.heap[b]? := fun b hb => World.putObj_heap_other hb
  have hsize : (w.putObj D o).heap.size = w.heap.size := by simp [World.putObj]
  have hown : ∀ {b vs}, Own w b vs → b ≠ D := by
    rintro b vs ⟨el, e⟩ rfl
    rw [hD] at e; cases e
  have hle : (cx A1 w0 st.recs st.lsts w μ).Le (cx (A1.less D) w0 st.recs st.lsts (w.putObj D o) μ) :=
    ⟨fun b hb => ⟨⟨hb.1.1, fun h => hb.1.2 h.1⟩, by rw [hsize]; exact hb.2.1, hb.2.2⟩, fun b hb => hoth b (fun e => hb.1.2 (e ▸ hX)), Nat.le_refl _, Nat.le_refl _, fun _ _ hs => ⟨hs, rfl⟩, fun _ o _ ho => ⟨o, ho, rfl, rfl, rfl, rfl⟩, fun _ _ h => h⟩
  have hat : ∀ x b, μ.at_ x = some b → (w.putObj D o).heap[b]? = w.heap[b]? := fun x b hx => hoth b fun e => (hm.xo D hX).2 x (e ▸ hx)
  refine ⟨hs.slots.mono hle, ?_, ?_, fun x b hx => ?_, hm.inj, ?_, ?_, fun b hb => by obtain ⟨h1, h2⟩ := hm.xo b hb.1; exact ⟨by rw [hsize]; exact h1, h2⟩, hm.np, hm.pins, hm.gi, hm.bty.ext fun x b hx => hoth b fun e => (hm.xo D hX).2 x (e ▸ hx), fun r c hr => (hm.htop r c hr).imp (c := cx A1 w0 st.recs st.lsts w μ) rfl rfl (fun b hb => hat _ b hb) fun us hu => hu.mono hle, fun d hd => (hm.deep d hd).mono (c := cx A1 w0 st.recs st.lsts w μ) ⟨hle.A, hle.w, fun _ => rfl, fun k b hb => hat _ b hb, Nat.le_refl _, fun _ _ h => h⟩⟩
  · intro r cells hr hk
    obtain ⟨b, vs, h1, h2, h3⟩ := hm.hrec r cells hr hk
    exact ⟨b, vs, h1, h2.ext (hoth b (hown h2)), h3.mono hle⟩
  · intro t o ht
    rcases hm.hlst t o ht with h1 | ⟨b, vs, hb, ho, hsz, hc, us, rest, e, hr⟩
    · exact .inl h1
    · exact .inr ⟨b, vs, hb, ho.ext (hoth b (hown ho)), hsz, hc, us, rest, e, hr.imp fun x u hx => hx.mono hle.A hle.w⟩
  · obtain ⟨h1, h2, h3⟩ := hm.live x b hx
    exact ⟨h1, by rw [hsize]; exact h2, h3⟩
  · exact hm.below.trans ((Below.refl _ w).grown (grownBy_putObj' w D o) (by have := hm.below.size; have := (Array.getElem?_eq_some_iff.1 hD).1; omega) (fun k e => by cases e; exact hw0))
  · rintro b ⟨hb, hne⟩
    obtain ⟨h1, h2, h3⟩ := hm.fr b hb
    exact ⟨by rw [hsize]; exact h1, by rw [hoth b hne]; exact h2, h3⟩
theorem leaveU {B : Dom} {w0 : World} {fn : Func} {R : Ending → World → Prop} {n : Nat} {st : St} {tmps ta : Array Value} {μ : Mu} {u : FrameMode} (hu : u ≠ .run) : ∀ (ds : List Deferred) (A1 : Dom) (w : World), B.Ext A1 → Dok B w0 A1 ds → Sim A1 w0 st tmps w μ →
    (∀ w1, Sim B w0 st tmps w1 μ → LeavesIn (Fr none) n P fn ta R [] u w1) → LeavesInM (Fr none) n P fn ta R ds u w
  | [], A1, w, he, _, hs, hfin => by
    exact hfin w (he.sim hs)
  | d :: ds, A1, w, he, hd, hs, hfin => by
    obtain ⟨⟨D, h1, h2, h3, h4, h5, h5', h6, h7⟩, h8⟩ := hd
    have hD : w.heap[D]? = some (.deferred (some [])) := (hs.mem.fr D h2).2.1.trans h4
    refine ⟨hu, .inl ⟨D, w.putObj D (.deferred none), by rw [h1], run_takeDeferred hD, ?_⟩⟩
    refine leaveU hu ds (A1.less D) _ ⟨he.A, fun b hb => ⟨he.X b hb, fun e => h5' (e ▸ hb)⟩, he.pin, he.np, he.keep, fun b hb => ⟨⟨(he.F b hb).1, fun e => h5 (e ▸ hb)⟩, (he.F b hb).2⟩⟩ ?_ (sim_shut hs h2 h3 hD h6) hfin
    exact Dok.drop (A' := A1.less D) (fun b h1 h2 => ⟨h1, h2⟩) (fun b h1 h2 => ⟨h1, h2⟩) rfl h7 h8

theorem leave {B : Dom} {w0 : World} {fn : Func} {R : Ending → World → Prop} {n : Nat} {st : St} {tmps : Array Value} {μ : Mu} (ds : List Deferred) (A1 : Dom) (w : World) (hB : B.Ext A1) (hd : Dok B w0 A1 ds) (hs : Sim A1 w0 st tmps w μ)
    (hfin : ∀ w1, Sim B w0 st tmps w1 μ → ∃ v, (results fn tmps).run P w1 = .ok v w1 ∧ R (.returned v) w1) : LeavesInM (Fr none) n P fn tmps R ds .returning w :=
  leaveU (by simp) ds A1 w hB hd hs fun w1 h1 => by
    obtain ⟨v, h2, h3⟩ := hfin w1 h1
    exact ⟨v, h2, h3⟩

/-- A FUNCTION IS WHAT THE EVALUATOR TELLS OF IT. -/
theorem sound_of (hε : EnvOk P ε) {f : Nat} {fn : Func} {c : Code} (hf : P.funcs[f]? = some fn) (hnm : (fn.name == "runtime.NumGoroutine") = false) (hb : fn.body = some c) (x : Ann P 0 true c) {ps rs : List KD}
    {F : argsDen ps → Option (argsDen rs)} (hF : ∀ y, F y = evFunA ε fn x (encArgs ps y) (decRes rs)) : Sound P f (pfun F) := by
  refine ⟨⟨fn, hf, hnm, by rw [hb]; rfl⟩, ?_⟩
  intro S args K r h A w vs hA hgi hcl hrep
  simp only [pfun, Option.bind_eq_some_iff] at h
  obtain ⟨y, hy, z, hz, hK⟩ := h
  refine ⟨encRes rs z, hK, encRes_closed rs z, ?_⟩
  rw [hF] at hz
  have hargs := decArgs_rep hy hrep
  refine (callsIn_wide (n := 0)).1 (callsIn_of_wp_marks (F := Fr none) hf hb trivial ?_)
  have hlen := hargs.length
  let μ0 : Mu := ⟨fun _ => none, fun _ => 0, none⟩
  have hsub : (c0 A w).Sub (cx (Dom.of A w) w [] [] w μ0) := ⟨fun b hb => ⟨⟨.inl hb, fun h => h⟩, hA b hb, fun x hx => by cases hx⟩, fun _ _ => rfl⟩
  have hdead : ∀ n, RepAVs (cx (Dom.of A w) w [] [] w μ0) (List.replicate n .dead) (List.replicate n undef) := by
    intro n
    induction n with
    | zero => simp [RepAVs]
    | succ n ih => exact RepAVs.cons (by simp only [RepAV]) ih
  have hsim : Sim (Dom.of A w) w { slots := encArgs ps y ++ List.replicate (fn.ntmps - (encArgs ps y).length) .dead, recs := [], lsts := [] } (vs.toArray ++ Array.replicate (fn.ntmps - vs.toArray.size) undef) w μ0 := by
    refine ⟨?_, ?_, ?_, ?_, ?_, Below.refl _ _, ?_, ?_, ?_, ?_, hgi, ⟨fun r c h => by simp [getL] at h, fun t o h => by simp [getL] at h⟩, fun r c h => by simp [getL] at h, fun d h => by cases h⟩
    · have := (RepAVs.closed hsub hargs (encArgs_closed ps y)).append (hdead (fn.ntmps - (encArgs ps y).length))
      simpa [hlen] using this
    · intro r cells h; simp [getL] at h
    · intro t o h; simp [getL] at h
    · intro x b h; cases h
    · intro x y b h; cases h
    · intro b h; cases h
    · intro b h; cases h
    · exact Nat.le_refl _
    · intro r b h; cases h
  refine evA_sound (B := Dom.of A w) (ρ := none) hε (fun _ => rfl) x (A0 := Dom.of A w) (Dom.Ext.refl _) (Nat.le_refl 0) _ (fun A1 ex st tm E a' w2 μ' he h1 h2 hl h3 => ?_) _ _ w μ0 hz hsim trivial
  have fin : tm = a'.tmps → (evRes ε st fn.results.toList).bind (fun l => decRes rs (resVal l)) = some z → LeavesInM (Fr none) 0 P fn a'.tmps (fun e w' => ∃ v', e = .returned v' ∧ Below w.heap.size w w' ∧ RepAV (c0 (News w w' A) w') (encRes rs z) v') a'.defers .returning w2 := by
    intro htm h4
    subst htm
    simp only [Option.bind_eq_some_iff] at h4
    obtain ⟨l, hl, hdec⟩ := h4
    refine leave _ A1 w2 he h3 h2 fun w' h2 => ?_
    obtain ⟨us, g1, g2, g3⟩ := evRes_sound (a := a') hε h2 _ l hl
    refine ⟨_, results_run g1, _, rfl, h2.mem.below, ?_⟩
    have hval : RepAV (c0 (Far (Dom.of A w) w w') w') (resVal l) (if h : us.toArray.size = 1 then us.toArray[0] else .tuple us.toArray) := by
      have hl2 := g3.length
      unfold resVal
      split
      · obtain ⟨v, rfl, hv⟩ := g3.one'
        simpa using hv
      · rename_i hne
        have : ¬ us.toArray.size = 1 := by
          intro e
          simp at e
          rw [hl2] at e
          match l, e with
          | [v], _ => exact hne v rfl
        rw [dif_neg this]
        simp only [RepAV]
        exact ⟨_, rfl, by simpa using g3⟩
    have hrr := decRes_rep hdec hval
    refine RepAV.closed (c := c0 (Far (Dom.of A w) w w') w') (c' := c0 (News w w' A) w') ⟨fun b hb => ?_, fun _ _ => rfl⟩ (encRes_closed rs z) hrr
    rcases hb.1 with h5 | h5
    · exact .inl h5
    · exact .inr ⟨h5, hb.2⟩
  cases ex with
  | normal => obtain ⟨e1, rfl⟩ := hl; exact fin e1 h1
  | ret => obtain ⟨e1, rfl⟩ := hl; exact fin e1 h1
  | exit id => cases h1
  | panic => cases h1

/-- What a function that is handed own memory hands back. -/
def evResH (ε : Env) (st : St) : List ResultVar → Option (List AV)
  | [] => some []
  | .tmp t :: r => (evResH ε st r).bind fun l => some (st.slots.getD t .dead :: l)
  | .cell a t :: r => match st.slots.getD a .dead with
    | .ptr q 0 => (match getL st.recs q, ε.ti t with
      | some cells, some i => (partOf cells 0 i.size i.agg).bind fun v => (evResH ε st r).bind fun l => some (v :: l)
      | _, _ => none)
    | _ => none
theorem evResH_sound (hε : EnvOk P ε) {A0 w0 w st} {a : Act} {μ} (hs : Sim A0 w0 st a.tmps w μ) : ∀ (rs : List ResultVar) (l : List AV), evResH ε st rs = some l →
    ∃ vs : List Value, (rs.mapM (resF a.tmps)).run P w = .ok vs w ∧ RepAVs (cx A0 w0 st.recs st.lsts w μ) l vs
  | [], l, h => by
    simp only [evResH, Option.some.injEq] at h; subst h
    exact ⟨[], by simp, by simp [RepAVs]⟩
  | .tmp t :: rs, l, h => by
    simp only [evResH, Option.bind_eq_some_iff, Option.some.injEq] at h
    obtain ⟨m, hm, rfl⟩ := h
    obtain ⟨vs, h1, h3⟩ := evResH_sound hε hs rs m hm
    have hr := ev_rep hs.slots (.tmp t)
    simp only [St.ev] at hr
    refine ⟨_ :: vs, ?_, RepAVs.cons hr h3⟩
    simp [List.mapM_cons, resF, h1, Act.eval]
  | .cell q t :: rs, l, h => by
    simp only [evResH] at h
    split at h
    · rename_i r hq
      split at h
      · rename_i cells i hcells hi
        simp only [Option.bind_eq_some_iff, Option.some.injEq] at h
        obtain ⟨v, hpart, m, hm, rfl⟩ := h
        obtain ⟨vs, h1, h3⟩ := evResH_sound hε hs rs m hm
        have hti := hε.ti t i hi
        have hr := ev_rep hs.slots (.tmp q)
        simp only [St.ev, hq] at hr
        simp only [RepAV, cx] at hr
        obtain ⟨b, hb, hval⟩ := hr.2.2 (by rw [hcells]; rfl)
        obtain ⟨cs, hown, hcr⟩ := hs.mem.rec_at hcells hb
        obtain ⟨val, hrun, hrep⟩ := load_cells (P := P) (c := cx A0 w0 st.recs st.lsts w μ) (w := w) hti hcr hown.cells hpart
        refine ⟨val :: vs, ?_, RepAVs.cons hrep h3⟩
        simp only [Nat.zero_add] at hrun
        have he : a.tmps.getD q undef = .pointer (some ⟨b, 0, none⟩) := hval
        simp [List.mapM_cons, resF, h1, he, asAddr, hrun]
      · cases h
    · cases h

/-- A function that is handed own memory, gone through as told. -/
noncomputable def evFunH (ε : Env) {P : Program} {np : Nat} {tp : Bool} (fn : Func) {c : Code} (x : Ann P np tp c) (I O : Shape) (y : I.den) : Option O.den :=
  evA ε x { slots := (fill I y).slots ++ List.replicate (fn.ntmps - (fill I y).slots.length) .dead, recs := (fill I y).recs, lsts := (fill I y).lsts } fun ex st => match ex with
    | .normal | .ret => (evResH ε st fn.results.toList).bind fun l => abs O ⟨l, st.recs, st.lsts⟩
    | _ => none
theorem sound_ofH (hε : EnvOk P ε) {f : Nat} {fn : Func} {c : Code} (hf : P.funcs[f]? = some fn) (hnm : (fn.name == "runtime.NumGoroutine") = false) (hb : fn.body = some c) {I O : Shape} (x : Ann P I.recs.length true c) (hIO : Nat.ble I.recs.length O.recs.length = true)
    {F : I.den → Option O.den} (hF : ∀ y, F y = evFunH ε fn x I O y) : SoundH P f ⟨I, O, F⟩ := by
  refine ⟨⟨fn, hf, hnm, by rw [hb]; rfl⟩, ?_⟩
  intro y o ho A0 w0 w vs μ hs
  replace ho : F y = some o := ho
  rw [hF] at ho
  refine (callsIn_wide (n := 0)).1 (callsIn_of_wp_marks (F := Fr none) hf hb trivial ?_)
  have hlen := hs.slots.length
  have hdead : ∀ n, RepAVs (cx A0 w0 (fill I y).recs (fill I y).lsts w μ) (List.replicate n .dead) (List.replicate n undef) := by
    intro n
    induction n with
    | zero => simp [RepAVs]
    | succ n ih => exact RepAVs.cons (by simp only [RepAV]) ih
  have hsim : Sim A0 w0 { slots := (fill I y).slots ++ List.replicate (fn.ntmps - (fill I y).slots.length) .dead, recs := (fill I y).recs, lsts := (fill I y).lsts } (vs.toArray ++ Array.replicate (fn.ntmps - vs.toArray.size) undef) w μ := by
    refine ⟨?_, hs.mem⟩
    have := hs.slots.append (hdead (fn.ntmps - (fill I y).slots.length))
    simp only [List.toList_toArray] at hlen
    simpa [hlen] using this
  have hnp : A0.np ≤ I.recs.length := by have := hs.mem.np; simp only [fill] at this; rw [fillR_length] at this; exact this
  refine evA_sound (B := A0) (ρ := none) hε (fun _ => rfl) x (Dom.Ext.refl _) hnp _ (fun A1 ex st tm E a' w2 μ' he h1 h2 hl h3 => ?_) _ _ w μ ho hsim trivial
  have fin : tm = a'.tmps → ((evResH ε st fn.results.toList).bind fun l => abs O ⟨l, st.recs, st.lsts⟩) = some o → LeavesInM (Fr none) 0 P fn a'.tmps (fun e w' => ∃ us μ', e = .returned (retVal us) ∧ Sim A0 w0 (fill O o) us.toArray w' μ') a'.defers .returning w2 := by
    intro htm h4
    subst htm
    simp only [Option.bind_eq_some_iff] at h4
    obtain ⟨l, hl, habs⟩ := h4
    refine leave _ A1 w2 he h3 h2 fun w' h2 => ?_
    obtain ⟨us, g1, g3⟩ := evResH_sound (a := a') hε h2 _ l hl
    have hs2 : Sim A0 w0 ⟨l, st.recs, st.lsts⟩ us.toArray w' μ' := ⟨by simpa using g3, h2.mem⟩
    exact ⟨_, results_run g1, us, _, rfl, abs_sound hs2 (Nat.le_trans hnp (Nat.le_of_ble_eq_true hIO)) habs⟩
  cases ex with
  | normal => obtain ⟨e1, rfl⟩ := hl; exact fin e1 h1
  | ret => obtain ⟨e1, rfl⟩ := hl; exact fin e1 h1
  | exit id => cases h1
  | panic => cases h1

end
end Go.Pe
end
section
namespace Go.Pe
open Go.RowKit
set_option linter.unusedSectionVars false
variable [GI]

def tysOf (f : Nat → Option Ty) : List Nat → Option Ty
  | [] => some .unit
  | [t] => f t
  | t :: r => (f t).bind fun a => (tysOf f r).bind fun b => some (.prod a b)
/-- A type's kind; 'vt' is the type of values that hold values of their own type. -/
def tyOf (P : Program) (vt : Nat) : Nat → Nat → Option Ty
  | 0, _ => none
  | n + 1, t => if t = vt then some .value else match P.underlying t with
    | some .bool => some .bool
    | some (.int k) => some (.int k)
    | some .string => some .str
    | some (.slice e) => (tyOf P vt n e).map .list
    | some (.struct fs) => tysOf (tyOf P vt n) (fs.toList.map (·.type))
    | some (.array m e) => tysOf (tyOf P vt n) (List.replicate m e)
    | _ => none
/-- Bytes are of one type. -/
def tyU8 (t : Nat) (e : Ty) : Option Ty := match e with
  | .int .u8 => (match Nat.beq t GI.u8 with | true => some (.int .u8) | false => none)
  | e => some e
theorem tyU8_some {t : Nat} {e e' : Ty} (h : tyU8 t e = some e') : e' = e ∧ (e' = .int .u8 → t = GI.u8) := by
  unfold tyU8 at h
  split at h
  · split at h
    · rename_i hb; cases h; exact ⟨rfl, fun _ => Nat.eq_of_beq_eq_true hb⟩
    · cases h
  · rename_i hne; cases h; exact ⟨rfl, fun e => absurd e hne⟩
def tiOf (P : Program) (vt t : Nat) : Option TI :=
  match P.underlying t, P.info? t with
  | some d, some inf => match inf.zero with
    | some z => if z.cells.size = inf.size ∧ inf.bytes ≤ 16384 then
        some ⟨d, inf.size, (match d with | .struct _ | .array _ _ => true | _ => false), (tyOf P vt 8 t).bind fun e => if e.size = inf.size then tyU8 t e else none, z.cells.toList.map ofConst,
          (match d with | .struct fs => !P.stoodInHeld t && !P.eqGuardType P.depth t && eqFs 0 fs.toList | _ => false), Nat.beq t GI.bt⟩ else none
    | none => none
  | _, _ => none

theorem consts_rep (c : Cx) : ∀ l : List Value, RepAVs c (l.map ofConst) l
  | [] => by simp [RepAVs]
  | v :: l => by simp only [List.map_cons]; exact RepAVs.cons (ofConst_rep c v) (consts_rep c l)
theorem tiOf_ok {P : Program} {vt t : Nat} {i : TI} (h : tiOf P vt t = some i) : TiOk P t i := by
  unfold tiOf at h
  split at h
  · rename_i d inf hd hi
    split at h
    · rename_i z hz
      split at h
      · rename_i hc
        cases h
        refine ⟨hd, ⟨inf, hi, rfl, hc.2, z, hz, hc.1, fun c => consts_rep _ _⟩, rfl, fun e he => ?_, fun he => ?_, fun he => Nat.eq_of_beq_eq_true he, fun he => ?_⟩
        · simp only [Option.bind_eq_some_iff] at he
          obtain ⟨e', _, he⟩ := he
          split at he
          · rename_i hs; rw [(tyU8_some he).1]; exact hs
          · cases he
        · simp only [Option.bind_eq_some_iff] at he
          obtain ⟨e', _, he⟩ := he
          split at he
          · exact (tyU8_some he).2 rfl
          · cases he
        · dsimp only at he
          split at he
          · rename_i fs
            simp only [Bool.and_eq_true, Bool.not_eq_true'] at he
            exact ⟨fs, hd, he.1.1, he.1.2, he.2⟩
          · cases he
      · cases h
    · cases h
  · cases h

def _root_.Go.Code.cl : Code → Code | .seq a _ => a | c => c
def _root_.Go.Code.cr : Code → Code | .seq _ b => b | c => c
def _root_.Go.Code.cb : Code → Code | .block _ b => b | .loop b => b | c => c
def _root_.Go.Code.ce : Code → Code | .cond _ _ b => b | c => c
def codeOf (f : Func) : Code := match f.body with | some c => c | none => .skip

/-- A table of functions. -/
structure FnRow (P : Program) where
  f : Nat
  G : PFun
  sc : Bool
  sound : Sound P f @G
  uni : PFun.Uni @G
def fnOf {P : Program} : List (FnRow P) → Nat → Option (PFun × Bool)
  | [], _ => none
  | r :: l, f => match Nat.beq r.f f with | true => some (r.G, r.sc) | false => fnOf l f
/-- Functions that are handed own memory. -/
structure HRow (P : Program) where
  f : Nat
  h : HF
  sound : SoundH P f h
def hfOf {P : Program} : List (HRow P) → Nat → List HF
  | [], _ => []
  | r :: l, f => match Nat.beq r.f f with | true => r.h :: hfOf l f | false => hfOf l f
theorem hfOf_ok {P : Program} : ∀ {l : List (HRow P)} {f : Nat} {h : HF}, h ∈ hfOf l f → SoundH P f h
  | [], f, h, hh => by simp [hfOf] at hh
  | r :: l, f, h, hh => by
    simp only [hfOf] at hh
    split at hh
    · rename_i e
      have e : r.f = f := by simpa using e
      rcases List.mem_cons.1 hh with rfl | hh
      · exact e ▸ r.sound
      · exact hfOf_ok hh
    · exact hfOf_ok hh
/-- Functions that may panic. -/
structure PRow (P : Program) where
  f : Nat
  h : PF
  sound : SoundP P f h
def envOf (P : Program) (vt : Nat) (l : List (FnRow P)) (hl : List (HRow P)) (own : List Nat := []) : Env := ⟨tiOf P vt, fnOf l, hfOf hl, fun _ => [], fun _ => false, own, fun _ => none⟩
theorem fnOf_ok {P : Program} : ∀ {l : List (FnRow P)} {f : Nat} {G : PFun} {sc : Bool}, fnOf l f = some (@G, sc) → Sound P f @G ∧ PFun.Uni @G
  | r :: l, f, G, sc, h => by
    simp only [fnOf] at h
    split at h
    · rename_i e
      have e : r.f = f := by simpa using e
      subst e
      have h1 : (r.G : PFun) = @G := congrArg Prod.fst (Option.some.inj h)
      exact ⟨h1 ▸ r.sound, h1 ▸ r.uni⟩
    · exact fnOf_ok h
theorem envOf_ok {P : Program} (vt : Nat) (l : List (FnRow P)) (hl : List (HRow P)) (hm : P.follows .mixedOrders = true) (own : List Nat := []) : EnvOk P (envOf P vt l hl own) :=
  ⟨fun _ _ h => tiOf_ok h, fun _ _ _ h => (fnOf_ok h).1, fun _ _ _ h => (fnOf_ok h).2, hm, fun _ _ h => hfOf_ok h, (fun _ _ h => by cases h), (fun _ h => by cases h), (fun _ _ h => by cases h)⟩
/-- Functions that are told of the state itself. -/
structure ERow (P : Program) where
  f : Nat
  G : Ext
  sound : ExtOk P f @G
def extOf {P : Program} : List (ERow P) → Nat → Option Ext
  | [], _ => none
  | r :: l, f => match Nat.beq r.f f with | true => some @r.G | false => extOf l f
theorem extOf_ok {P : Program} : ∀ {l : List (ERow P)} {f : Nat} {G : Ext}, extOf l f = some @G → ExtOk P f @G
  | [], f, G, h => by cases h
  | r :: l, f, G, h => by
    simp only [extOf] at h
    split at h
    · rename_i e
      have e : r.f = f := by simpa using e
      cases h
      exact e ▸ r.sound
    · exact extOf_ok h
def envOfE (P : Program) (vt : Nat) (l : List (FnRow P)) (hl : List (HRow P)) (xl : List (ERow P)) (own : List Nat := []) : Env := ⟨tiOf P vt, fnOf l, hfOf hl, fun _ => [], fun _ => false, own, extOf xl⟩
theorem envOfE_ok {P : Program} (vt : Nat) (l : List (FnRow P)) (hl : List (HRow P)) (xl : List (ERow P)) (hm : P.follows .mixedOrders = true) (own : List Nat := []) : EnvOk P (envOfE P vt l hl xl own) :=
  ⟨fun _ _ h => tiOf_ok h, fun _ _ _ h => (fnOf_ok h).1, fun _ _ _ h => (fnOf_ok h).2, hm, fun _ _ h => hfOf_ok h, (fun _ _ h => by cases h), (fun _ h => by cases h), fun _ _ h => extOf_ok h⟩
theorem pfun_uni {ps rs : List KD} (F : argsDen ps → Option (argsDen rs)) : PFun.Uni (pfun F) := by
  intro S args K
  show ((decArgs ps args).bind fun x => (F x).bind fun y => K (encRes rs y)) = ((decArgs ps args).bind fun x => (F x).bind fun y => some (encRes rs y)).bind K
  rw [Option.bind_assoc]; congr; funext x; rw [Option.bind_assoc]; rfl
/-- Is what it hands back scalar? -/
def KD.scalar : KD → Bool
  | .one .bool | .one (.int _) | .one .str => true
  | _ => false
def rowOf {P : Program} {f : Nat} {ps rs : List KD} {F : argsDen ps → Option (argsDen rs)} (sc : Bool) (h : Sound P f (pfun F)) : FnRow P := ⟨f, pfun F, sc, h, pfun_uni F⟩

/-- How long a loop may go on: no longer than all that it holds. -/
def Ty.fuel : (t : Ty) → t.den → Nat
  | .bool, _ => 0
  | .int _, x => x.natAbs
  | .str, x => x.length
  | .list _, x => x.length
  | .unit, _ => 0
  | .prod a b, x => a.fuel x.1 + b.fuel x.2
  | .value, _ => 0
mutual
def SAV.fuel : (s : SAV) → s.den → Nat
  | .hole t, x => t.fuel x
  | .agg l, x => fuelL l x
  | .ifc _ l, x => fuelL l x
  | .fn _ a b, x => fuelL a x.1 + fuelL b x.2
  | .eptr _ _, i => i
  | .stk, x => x.length
  | .dead, _ | .ptr _ _, _ | .whole _, _ | .nilP, _ | .nilS, _ | .bld _, _ | .same, _ => 0
def fuelL : (l : List SAV) → SAVs.den l → Nat
  | [], _ => 0
  | s :: r, z => s.fuel z.1 + fuelL r z.2
end
def fuelR : (l : List (Option (List SAV))) → recsDen l → Nat
  | [], _ => 0
  | none :: r, z => fuelR r z
  | some l :: r, z => fuelL l z.1 + fuelR r z.2
def fuelT : (l : List (Option Ty)) → lstsDen l → Nat
  | [], _ => 0
  | none :: r, z => fuelT r z
  | some _ :: r, z => z.1.length + fuelT r z.2
def fuelOf (sh : Shape) (z : sh.den) : Nat := 1000000 + (fuelL sh.slots z.1 + fuelR sh.recs z.2.1 + fuelT sh.lsts z.2.2)
/-- A loop, gone through. -/
def go {sh : Shape} {β : Type} (step : (sh.den → Option β) → sh.den → Option β) (y : sh.den) : Option β := iter step (fuelOf sh y) y
theorem go_of {P : Program} {ε : Env} (hε : EnvOk P ε) {np : Nat} {tp : Bool} {c : Code} (x : Ann P np tp c) {sh : Shape} {outs : List (Ex × Shape)} {step : (sh.den → Option (OutDen outs)) → sh.den → Option (OutDen outs)}
    (h1 : Nat.ble np sh.recs.length = true) (h2 : outsOk np outs = true) (h : ∀ rec y, step rec y = evA ε x (fill sh y) (fun ex st => match ex with | .normal => (abs sh st).bind rec | e => packOut outs e st)) : PieceSound P np tp (.loop c) sh outs (go step) :=
  ⟨Nat.le_of_ble_eq_true h1, fun y o ho => (loop_of hε x h1 h2 h (fuelOf sh y)).2 y o ho⟩

noncomputable def recN : Nat := Classical.choose (⟨1000000, rfl⟩ : ∃ n : Nat, n = 1000000)
theorem recN_eq : recN = 1000000 := Classical.choose_spec (⟨1000000, rfl⟩ : ∃ n : Nat, n = 1000000)
abbrev Has (P : Program) (f : Nat) : Prop := ∃ fn, P.funcs[f]? = some fn ∧ (fn.name == "runtime.NumGoroutine") = false ∧ fn.body.isSome = true
theorem sound_none {P : Program} {f : Nat} (h : Has P f) {ps rs : List KD} : Sound P f (pfun (fun _ : argsDen ps => (none : Option (argsDen rs)))) := by
  refine ⟨h, ?_⟩
  intro S args K r hG
  simp only [pfun, Option.bind_none, Option.bind_eq_some_iff] at hG
  obtain ⟨_, _, hG⟩ := hG
  cases hG
noncomputable def recF {P : Program} {f : Nat} (h : Has P f) {ps rs : List KD} (step : (F : argsDen ps → Option (argsDen rs)) → Sound P f (pfun F) → {F : argsDen ps → Option (argsDen rs) // Sound P f (pfun F)}) :
    (n : Nat) → {F : argsDen ps → Option (argsDen rs) // Sound P f (pfun F)}
  | 0 => ⟨fun _ => none, sound_none h⟩
  | n + 1 => step (recF h step n).1 (recF h step n).2
theorem soundH_none {P : Program} {f : Nat} (h : Has P f) {I O : Shape} : SoundH P f ⟨I, O, fun _ => none⟩ := by
  refine ⟨h, ?_⟩
  intro y o ho
  cases ho
noncomputable def recH {P : Program} {f : Nat} (h : Has P f) {I O : Shape} (step : (F : I.den → Option O.den) → SoundH P f ⟨I, O, F⟩ → {F : I.den → Option O.den // SoundH P f ⟨I, O, F⟩}) :
    (n : Nat) → {F : I.den → Option O.den // SoundH P f ⟨I, O, F⟩}
  | 0 => ⟨fun _ => none, soundH_none h⟩
  | n + 1 => step (recH h step n).1 (recH h step n).2
end Go.Pe
end
section
namespace Go.Pe
open Go.RowKit
set_option linter.unusedSectionVars false
variable [GI]
set_option linter.unusedSimpArgs false
set_option linter.unusedVariables false

section
variable {A H : Dom} {w0 w : World} {st : St} {tmps : Array Value} {μ : Mu} {l : Nat}
theorem Dok.ext {B A A1 : Dom} (h : A.Ext A1) : ∀ {ds : List Deferred}, Dok B w0 A ds → Dok B w0 A1 ds
  | [], _ => trivial
  | d :: ds, ⟨⟨D, h1, h2, h3, h4, h5⟩, h6⟩ => ⟨⟨D, h1, (h.F D h2).1, h.X D h3, (h.F D h2).2.trans h4, h5⟩, Dok.ext h h6⟩
theorem Dok.old {B A : Dom} {D : Nat} (hD : ¬ A.F D) : ∀ {ds : List Deferred}, Dok B w0 A ds → ∀ d ∈ ds, d ≠ { target := .collected D, args := #[] }
  | [], _ => by simp
  | d :: ds, ⟨⟨D', h1, h2, _⟩, h6⟩ => by
    intro d' hd'
    rcases List.mem_cons.1 hd' with rfl | hd'
    · rw [h1]; intro e
      simp only [Deferred.mk.injEq, Target.collected.injEq, and_true] at e
      exact hD (e ▸ h2)
    · exact Dok.old hD h6 d' hd'
end

section
variable {P : Program} {ε : Env}
end
end Go.Pe
end
section
namespace Go.Pe
open Go.RowKit
set_option linter.unusedSectionVars false
variable [GI]
set_option linter.unusedSimpArgs false
set_option linter.unusedVariables false

section
variable {P : Program} {ops : Array Oper} {Q : Exit → Act → World → Prop} {l : List Nat} {i n : Nat} {ρ : Option Nat} {a : Act} {w w' : World} {v : Value} {d : Option Nat} {op : Op}
theorem RoundIn.fr {m : Nat} {L : Nat} {f : FuncId} {tmps : Array Value} {assign body : Code} {R : Ending → World → Prop} (h : RoundIn (Fr ρ) n P L f tmps assign body w R) : RoundIn (Fr ρ) m P L f tmps assign body w R :=
  ⟨h.1, fun c cs _ => h.2 c cs (fun d hd => by cases ρ <;> cases hd)⟩
end

section
variable {P : Program} {ε : Env} (hε : EnvOk P ε)
end

section
variable {P : Program} {ε : Env} (hε : EnvOk P ε)
theorem put_tmps (a : Act) {d e : Nat} (v : Value) (hd : d < a.tmps.size) : (a.put (some d) v).tmps.getD e undef = if e = d then v else a.tmps.getD e undef := by
  simp only [Act.put, Array.getD_eq_getD_getElem?, Array.getElem?_setIfInBounds]
  by_cases h : d = e
  · subst h; simp [hd]
  · rw [if_neg h, if_neg (fun e => h e.symm)]
theorem put_size (a : Act) {d : Option Nat} (v : Value) : (a.put d v).tmps.size = a.tmps.size := by
  cases d <;> simp [Act.put]
/-- The state of the iterator. -/
structure BackAt (a : Act) (L : Nat) (pv : Value) (k : Int) : Prop where
  sz : a.tmps.size = 19
  t0 : a.tmps.getD 0 undef = .func (.yield L) #[] #[]
  t1 : a.tmps.getD 1 undef = pv
  t3 : a.tmps.getD 3 undef = .int .i64 (k - 1)
  df : a.defers = []
theorem BackAt.put {a : Act} {L : Nat} {pv : Value} {k : Int} {d : Nat} {v : Value} (h : BackAt a L pv k) (h0 : d ≠ 0) (h1 : d ≠ 1) (h3 : d ≠ 3) (hd : d < 19) : BackAt (a.put (some d) v) L pv k :=
  ⟨(put_size _ _).trans h.sz, by rw [put_tmps _ _ (by rw [h.sz]; exact hd), if_neg (Ne.symm h0)]; exact h.t0, by rw [put_tmps _ _ (by rw [h.sz]; exact hd), if_neg (Ne.symm h1)]; exact h.t1, by rw [put_tmps _ _ (by rw [h.sz]; exact hd), if_neg (Ne.symm h3)]; exact h.t3, by rw [put_defers]; exact h.df⟩
end
def _root_.Go.Code.ra : Code → Code | .rangeFunc _ _ a _ => a | c => c
def _root_.Go.Code.rb : Code → Code | .rangeFunc _ _ _ b => b | c => c
end Go.Pe
end
section
set_option linter.unusedSectionVars false
set_option linter.unusedVariables false
set_option linter.unusedSimpArgs false
namespace Go.Pe.Tryd
open Go.Proofs Go.RowKit
/-- strconv's table of powers reads as it is laid; bytealg's bound is a number. -/
def Inv (w : World) : Prop := (∃ m : Int, w.cell? ⟨0, 0, none⟩ = some (.int .i64 m)) ∧ Lib.TabIs Tryd.prog w "internal/strconv.uint64pow10" .u64 Lib.pow10Tab
theorem inv_mono {w w' : World} (h : Inv w) (hb : Below w.heap.size w w') : Inv w' := by
  obtain ⟨⟨m, hm⟩, ht⟩ := h
  have h0 : 0 < w.heap.size := by
    rcases Nat.lt_or_ge 0 w.heap.size with h' | h'
    · exact h'
    · simp [World.cell?, Array.getElem?_eq_none h'] at hm
  exact ⟨⟨m, by rw [hb.cell (p := ⟨0, 0, none⟩) h0]; exact hm⟩, Lib.tabBelow_of_tabIs ht w' hb⟩
instance : GI := ⟨Inv, inv_mono, 59, 5⟩
end Go.Pe.Tryd
end
section
set_option linter.unusedSectionVars false
set_option linter.unusedVariables false
set_option linter.unusedSimpArgs false
namespace Go.Proofs
open Go.Shelf

def Tryd.laysM173_ren : Go.Shelf.Ren := ⟨fun | 173 => 39 | 246 => 60 | 283 => 77 | 284 => 78 | 285 => 79 | 286 => 80 | 129 => 96 | 317 => 100 | 318 => 101 | 319 => 102 | 320 => 103 | 337 => 114 | 338 => 115 | n => n, fun | 2 => 2 | 3 => 3 | 9 => 9 | 4 => 4 | 171 => 103 | 0 => 0 | 53 => 104 | 37 => 44 | 5 => 5 | 173 => 107 | 212 => 129 | 51 => 122 | 20 => 20 | 213 => 130 | 46 => 97 | 232 => 146 | 233 => 147 | n => n, fun | 17 => 1 | 18 => 2 | 19 => 3 | n => n⟩
theorem Tryd.laysM173 : Go.Proofs.LaysM.n173 Tryd.prog Tryd.laysM173_ren := {
  mixed := by kernel_rfl
  f129 := Tryd.func96.trans (congrArg some (by kernel_rfl))
  f173 := Tryd.func39.trans (congrArg some (by kernel_rfl))
  f246 := Tryd.func60.trans (congrArg some (by kernel_rfl))
  f283 := Tryd.func77.trans (congrArg some (by kernel_rfl))
  f284 := Tryd.func78.trans (congrArg some (by kernel_rfl))
  f285 := Tryd.func79.trans (congrArg some (by kernel_rfl))
  f286 := Tryd.func80.trans (congrArg some (by kernel_rfl))
  f317 := Tryd.func100.trans (congrArg some (by kernel_rfl))
  f318 := Tryd.func101.trans (congrArg some (by kernel_rfl))
  f319 := Tryd.func102.trans (congrArg some (by kernel_rfl))
  f320 := Tryd.func103.trans (congrArg some (by kernel_rfl))
  f337 := Tryd.func114.trans (congrArg some (by kernel_rfl))
  f338 := Tryd.func115.trans (congrArg some (by kernel_rfl))
  t0 := Tryd.underlying0
  a0 := Tryd.isAgg0
  z0 := Tryd.sizeOf0
  v0 := Tryd.zeroValue0
  t2 := Tryd.underlying2
  a2 := Tryd.isAgg2
  z2 := Tryd.sizeOf2
  v2 := Tryd.zeroValue2
  t3 := Tryd.underlying3
  a3 := Tryd.isAgg3
  z3 := Tryd.sizeOf3
  v3 := Tryd.zeroValue3
  t4 := Tryd.underlying4
  a4 := Tryd.isAgg4
  z4 := Tryd.sizeOf4
  v4 := Tryd.zeroValue4
  t5 := Tryd.underlying5
  a5 := Tryd.isAgg5
  z5 := Tryd.sizeOf5
  v5 := Tryd.zeroValue5
  t9 := Tryd.underlying9
  a9 := Tryd.isAgg9
  z9 := Tryd.sizeOf9
  v9 := Tryd.zeroValue9
  t20 := Tryd.underlying20
  a20 := Tryd.isAgg20
  z20 := Tryd.sizeOf20
  v20 := Tryd.zeroValue20
  t37 := Tryd.underlying44
  a37 := Tryd.isAgg44
  z37 := Tryd.sizeOf44
  v37 := Tryd.zeroValue44
  t46 := Tryd.underlying97
  a46 := Tryd.isAgg97
  z46 := Tryd.sizeOf97
  v46 := Tryd.zeroValue97
  t51 := Tryd.underlying122
  a51 := Tryd.isAgg122
  z51 := Tryd.sizeOf122
  v51 := Tryd.zeroValue122
  t53 := Tryd.underlying104
  a53 := Tryd.isAgg104
  z53 := Tryd.sizeOf104
  v53 := Tryd.zeroValue104
  t171 := Tryd.underlying103
  a171 := Tryd.isAgg103
  z171 := Tryd.sizeOf103
  v171 := Tryd.zeroValue103
  t173 := Tryd.underlying107
  a173 := Tryd.isAgg107
  z173 := Tryd.sizeOf107
  v173 := Tryd.zeroValue107
  t212 := Tryd.underlying129
  a212 := Tryd.isAgg129
  z212 := Tryd.sizeOf129
  v212 := Tryd.zeroValue129
  t213 := Tryd.underlying130
  a213 := Tryd.isAgg130
  z213 := Tryd.sizeOf130
  t232 := Tryd.underlying146
  a232 := Tryd.isAgg146
  z232 := Tryd.sizeOf146
  v232 := Tryd.zeroValue146
  t233 := Tryd.underlying147
  a233 := Tryd.isAgg147
  z233 := Tryd.sizeOf147
  v233 := Tryd.zeroValue147
  g17 := by kernel_rfl
  g18 := by kernel_rfl
  g19 := by kernel_rfl
  i0 := by kernel_rfl
  i2 := by kernel_rfl
  i3 := by kernel_rfl
  i4 := by kernel_rfl
  i5 := by kernel_rfl
  i9 := by kernel_rfl
  i20 := by kernel_rfl
  i37 := by kernel_rfl
  i46 := by kernel_rfl
  i51 := by kernel_rfl
  i53 := by kernel_rfl
  i171 := by kernel_rfl
  i173 := by kernel_rfl
  i212 := by kernel_rfl
  i232 := by kernel_rfl
  i233 := by kernel_rfl
  m17 := by kernel_rfl
  m18 := by kernel_rfl
  m19 := by kernel_rfl }
open Go.RowKit Go.Sort Go.Lib in
theorem Tryd.strconv_FormatInt_10 (n : Int) (h0 : -9223372036854775808 ≤ n) (h1 : n ≤ 9223372036854775807) (w : World) (htab : Lib.TabIs Tryd.prog w "internal/strconv.uint64pow10" .u64 Lib.pow10Tab) :
    Calls Tryd.prog 39 #[.int .i64 n, .int .i64 10] w fun e w' => e = .returned (.string ⟨(Lib.itoa n).toArray⟩) ∧ ∃ k os, w' = grow (w.drewN k) os := Any.strconv_FormatInt_10 Tryd.laysM173 n h0 h1 w htab
def Tryd.lays155_ren : Go.Shelf.Ren := ⟨fun | 155 => 72 | 154 => 98 | 138 => 110 | 165 => 111 | 143 => 112 | 166 => 53 | 197 => 113 | 169 => 35 | 195 => 117 | 218 => 118 | 240 => 71 | 241 => 119 | 219 => 120 | 260 => 121 | 276 => 97 | 277 => 122 | 217 => 46 | 225 => 123 | 224 => 124 | 267 => 125 | 266 => 67 | 314 => 126 | n => n, fun | 9 => 9 | 3 => 3 | 4 => 4 | 72 => 59 | 0 => 0 | 76 => 85 | 105 => 140 | 21 => 21 | 5 => 5 | 70 => 57 | 20 => 20 | 37 => 44 | 75 => 84 | 127 => 87 | 164 => 123 | 46 => 97 | 119 => 149 | 139 => 152 | 138 => 151 | 146 => 153 | 51 => 122 | 80 => 61 | n => n, fun | 1 => 0 | 3 => 4 | 4 => 5 | n => n⟩
theorem Tryd.lays155 : Go.Proofs.Lays.n155 Tryd.prog Tryd.lays155_ren := {
  mixed := by kernel_rfl
  f138 := Tryd.func110.trans (congrArg some (by kernel_rfl))
  f143 := Tryd.func112.trans (congrArg some (by kernel_rfl))
  f154 := Tryd.func98.trans (congrArg some (by kernel_rfl))
  f155 := Tryd.func72.trans (congrArg some (by kernel_rfl))
  f165 := Tryd.func111.trans (congrArg some (by kernel_rfl))
  f166 := Tryd.func53.trans (congrArg some (by kernel_rfl))
  f169 := Tryd.func35.trans (congrArg some (by kernel_rfl))
  f195 := Tryd.func117.trans (congrArg some (by kernel_rfl))
  f197 := Tryd.func113.trans (congrArg some (by kernel_rfl))
  f217 := Tryd.func46.trans (congrArg some (by kernel_rfl))
  f218 := Tryd.func118.trans (congrArg some (by kernel_rfl))
  f219 := Tryd.func120.trans (congrArg some (by kernel_rfl))
  f224 := Tryd.func124.trans (congrArg some (by kernel_rfl))
  f225 := Tryd.func123.trans (congrArg some (by kernel_rfl))
  f240 := Tryd.func71.trans (congrArg some (by kernel_rfl))
  f241 := Tryd.func119.trans (congrArg some (by kernel_rfl))
  f260 := Tryd.func121.trans (congrArg some (by kernel_rfl))
  f266 := Tryd.func67.trans (congrArg some (by kernel_rfl))
  f267 := Tryd.func125.trans (congrArg some (by kernel_rfl))
  f276 := Tryd.func97.trans (congrArg some (by kernel_rfl))
  f277 := Tryd.func122.trans (congrArg some (by kernel_rfl))
  f314 := Tryd.func126.trans (congrArg some (by kernel_rfl))
  t0 := Tryd.underlying0
  a0 := Tryd.isAgg0
  z0 := Tryd.sizeOf0
  v0 := Tryd.zeroValue0
  t3 := Tryd.underlying3
  a3 := Tryd.isAgg3
  z3 := Tryd.sizeOf3
  v3 := Tryd.zeroValue3
  t4 := Tryd.underlying4
  a4 := Tryd.isAgg4
  z4 := Tryd.sizeOf4
  v4 := Tryd.zeroValue4
  t5 := Tryd.underlying5
  a5 := Tryd.isAgg5
  z5 := Tryd.sizeOf5
  v5 := Tryd.zeroValue5
  t9 := Tryd.underlying9
  a9 := Tryd.isAgg9
  z9 := Tryd.sizeOf9
  v9 := Tryd.zeroValue9
  t20 := Tryd.underlying20
  a20 := Tryd.isAgg20
  z20 := Tryd.sizeOf20
  v20 := Tryd.zeroValue20
  t21 := Tryd.underlying21
  a21 := Tryd.isAgg21
  z21 := Tryd.sizeOf21
  v21 := Tryd.zeroValue21
  t37 := Tryd.underlying44
  a37 := Tryd.isAgg44
  z37 := Tryd.sizeOf44
  v37 := Tryd.zeroValue44
  t46 := Tryd.underlying97
  a46 := Tryd.isAgg97
  z46 := Tryd.sizeOf97
  v46 := Tryd.zeroValue97
  t51 := Tryd.underlying122
  a51 := Tryd.isAgg122
  z51 := Tryd.sizeOf122
  v51 := Tryd.zeroValue122
  t70 := Tryd.underlying57
  a70 := Tryd.isAgg57
  z70 := Tryd.sizeOf57
  v70 := Tryd.zeroValue57
  t72 := Tryd.underlying59
  a72 := Tryd.isAgg59
  z72 := Tryd.sizeOf59
  v72 := Tryd.zeroValue59
  t75 := Tryd.underlying84
  a75 := Tryd.isAgg84
  z75 := Tryd.sizeOf84
  v75 := Tryd.zeroValue84
  t76 := Tryd.underlying85
  a76 := Tryd.isAgg85
  z76 := Tryd.sizeOf85
  v76 := Tryd.zeroValue85
  t105 := Tryd.underlying140
  a105 := Tryd.isAgg140
  z105 := Tryd.sizeOf140
  v105 := Tryd.zeroValue140
  t119 := Tryd.underlying149
  a119 := Tryd.isAgg149
  z119 := Tryd.sizeOf149
  t127 := Tryd.underlying87
  a127 := Tryd.isAgg87
  z127 := Tryd.sizeOf87
  v127 := Tryd.zeroValue87
  t138 := Tryd.underlying151
  a138 := Tryd.isAgg151
  z138 := Tryd.sizeOf151
  v138 := Tryd.zeroValue151
  t139 := Tryd.underlying152
  a139 := Tryd.isAgg152
  z139 := Tryd.sizeOf152
  v139 := Tryd.zeroValue152
  t146 := Tryd.underlying153
  a146 := Tryd.isAgg153
  z146 := Tryd.sizeOf153
  v146 := Tryd.zeroValue153
  t164 := Tryd.underlying123
  a164 := Tryd.isAgg123
  z164 := Tryd.sizeOf123
  v164 := Tryd.zeroValue123
  g1 := by kernel_rfl
  g3 := by kernel_rfl
  g4 := by kernel_rfl }
theorem Tryd.Builder_Extra_155 : Builder.Extra Tryd.prog Tryd.lays155_ren := {
  sizeBuilder := by kernel_rfl
  liesBuilder := by kernel_rfl
  t5 := Tryd.underlying5
  a5 := Tryd.isAgg5
  z5 := Tryd.sizeOf5
  v5 := Tryd.zeroValue5
  infoByte := by kernel_rfl
  cellsByte := by kernel_rfl
  sizeByte := by kernel_rfl
  neB5 := by decide }
open Go.RowKit Go.Lib in
theorem Tryd.strings_ReplaceAll (s old new : ByteArray) (m : Int) (w : World) (hs : s.size < 4294967281) (hm : w.cell? ⟨0, 0, none⟩ = some (.int .i64 m)) (h1 : 1 ≤ old.size) (hlen : s.size + Lib.countB s old * new.size ≤ 140737488355328) :
    Calls Tryd.prog 72 #[.string s, .string old, .string new] w fun e w' =>
      e = .returned (.string ⟨(Lib.replaceAll s.data.toList old.data.toList new.data.toList).toArray⟩) ∧ Below w.heap.size w w' := Any.strings_ReplaceAll Tryd.lays155 Tryd.Builder_Extra_155 s old new m w hs hm h1 hlen
end Go.Proofs
end
section
set_option linter.unusedSectionVars false
set_option linter.unusedVariables false
set_option linter.unusedSimpArgs false
namespace Go.Pe.Tryd
open Go.Proofs Go.RowKit
set_option maxRecDepth 100000 in
set_option maxHeartbeats 1000000 in
theorem copy_used (b : Nat) (w : World) (h0 : w.cell? ⟨b, 0, none⟩ = some (.pointer (some ⟨b, 0, none⟩))) :
    Calls Tryd.prog 71 #[.pointer (some ⟨b, 0, none⟩)] w fun e w' => e = .returned (.tuple #[]) ∧ w' = w := by
  obtain ⟨j, hj, _⟩ := Option.map_eq_some_iff.1 (show (Tryd.prog.info? 59).map (·.size) = some 2 by kernel_rfl)
  go_enter Tryd.func71, Tryd.ntmps71
  go_wp2
  rw [Lib.run_neq_ptr_same _ _ Tryd.underlying57 hj]
  go_wp2
  go_end0
  exact ⟨rfl, rfl⟩
set_option maxRecDepth 100000 in
set_option maxHeartbeats 1000000 in
theorem copy_fresh (b : Nat) (w : World) (c1 : Value) (hb : w.heap[b]? = some (.cells #[.pointer none, c1] 59 (0, 0))) :
    Calls Tryd.prog 71 #[.pointer (some ⟨b, 0, none⟩)] w fun e w' => e = .returned (.tuple #[]) ∧ w' = w.setCell ⟨b, 0, none⟩ (.pointer (some ⟨b, 0, none⟩)) := by
  obtain ⟨j, hj, hjs⟩ := Option.map_eq_some_iff.1 (show (Tryd.prog.info? 59).map (·.size) = some 2 by kernel_rfl)
  have h0 : w.cell? ⟨b, 0, none⟩ = some (.pointer none) := by rw [Lib.cell_of_heap hb]; rfl
  have hsh : w.shape? b = some (59, 2) := by simp [World.shape?, hb]
  have hfz : w.frozen? ⟨b, 0, none⟩ = false := Lib.frozen_of_heap hb 0
  go_enter Tryd.func71, Tryd.ntmps71
  go_wp2
  rw [Lib.run_to_unsafe w ⟨b, 0, none⟩ Tryd.underlying57 Tryd.underlying123 hj (by rw [hjs]; decide) hsh (Nat.zero_lt_succ 1)]
  simp only [Result.andThen]
  rw [Oper.upon_value]
  go_wp2
  rw [run_callFunc_extern Tryd.func97 (by kernel_rfl) (by kernel_rfl) (by kernel_rfl) (e := Extern.AbiNoEscape.same) (by kernel_rfl)]
  rw [Lib.run_noEscape]
  simp only [Result.andThen]
  rw [Oper.upon_value]
  go_wp2
  rw [Lib.run_from_unsafe w ⟨b, 0, none⟩ Tryd.underlying123 Tryd.underlying57 hj hsh (by kernel_rfl)]
  simp only [Result.andThen]
  rw [Oper.upon_value]
  go_wp2
  go_end0
  exact ⟨rfl, rfl⟩

set_option maxRecDepth 100000 in
set_option maxHeartbeats 1000000 in
theorem str_bytes (b g cap : Nat) (p : Value) (cur : Array Value) (l : List UInt8) (h0 : l ≠ []) (w : World) (hbk : w.heap[b]? = some (.cells #[p, .slice (some ⟨g, 0, none⟩) l.length cap] 59 (0, 0))) (hg : w.heap[g]? = some (.cells cur 5 (0, 0)))
    (hlc : l.length ≤ cur.size) (hcap : l.length ≤ cap) (hn : l.length ≤ 4294967296) (hc : ∀ (j : Nat) x, l[j]? = some x → w.cell? ⟨g, j, none⟩ = some (.int .u8 x.toNat)) :
    Calls Tryd.prog 35 #[.pointer (some ⟨b, 0, none⟩)] w fun e w' => e = .returned (.string ⟨l.toArray⟩) ∧ w' = w.drew.freeze ⟨g, 0, none⟩ l.length := by
  have hl0 : l.length ≠ 0 := by simpa using h0
  have c1 : w.drew.cell? ⟨b, 1, none⟩ = some (.slice (some ⟨g, 0, none⟩) l.length cap) := by
    have : w.drew.heap[b]? = some (.cells #[p, .slice (some ⟨g, 0, none⟩) l.length cap] 59 (0, 0)) := hbk
    rw [Lib.cell_of_heap this]; rfl
  have hSD : (Builtin.unsafeSliceData_ #[44] 87 #[.slice (some ⟨g, 0, none⟩) l.length cap]).run Tryd.prog w.drew = .ok (.pointer (some ⟨g, 0, none⟩)) w.drew :=
    Lib.run_unsafeSliceData_row _ _ _ _ _ _ (by omega)
  have hUS : (Builtin.unsafeString_ #[87, 3] 9 #[.pointer (some ⟨g, 0, none⟩), .int .i64 l.length]).run Tryd.prog w.drew = .ok (.string ⟨l.toArray⟩) (w.drew.freeze ⟨g, 0, none⟩ l.length) := by
    refine Lib.run_unsafeString_row w.drew 87 3 9 5 Tryd.underlying87 (by kernel_rfl) g cur.size (by have hg' : w.drew.heap[g]? = some (.cells cur 5 (0, 0)) := hg; simp [World.shape?, hg']) l h0 (by omega) (by omega) ?_
    intro j x hx
    have e : (⟨g, 0, none⟩ : Addr).add j = ⟨g, j, none⟩ := by unfold Addr.add; split <;> simp_all
    rw [e]; exact hc j x hx
  clear hc hg
  go_enter Tryd.func35, Tryd.ntmps35
  go_wp2
  go_region
  all_goals (go_wp2; go_ret; exact ⟨rfl, rfl⟩)
set_option maxRecDepth 100000 in
set_option maxHeartbeats 2000000 in
theorem str_nil (b : Nat) (p : Value) (w : World) (hbk : w.heap[b]? = some (.cells #[p, .slice none 0 0] 59 (0, 0))) :
    Calls Tryd.prog 35 #[.pointer (some ⟨b, 0, none⟩)] w fun e w' => e = .returned (.string ⟨#[]⟩) ∧ w' = w.drew := by
  have hUS : ∀ q, (Builtin.unsafeString_ #[87, 3] 9 #[.pointer q, .int .i64 0]).run Tryd.prog w.drew = .ok (.string .empty) w.drew := fun q => Lib.run_unsafeString_none _ 87 3 9 q
  have c1 : w.drew.cell? ⟨b, 1, none⟩ = some (.slice none 0 0) := by
    have : w.drew.heap[b]? = some (.cells #[p, .slice none 0 0] 59 (0, 0)) := hbk
    rw [Lib.cell_of_heap this]; rfl
  have hSD : (Builtin.unsafeSliceData_ #[44] 87 #[.slice none 0 0]).run Tryd.prog w.drew = .ok (.pointer none) w.drew := rfl
  go_enter Tryd.func35, Tryd.ntmps35
  go_wp2
  go_region
  all_goals (go_wp2; go_ret; exact ⟨rfl, rfl⟩)
set_option maxRecDepth 100000 in
set_option maxHeartbeats 2000000 in
theorem str_room (b g cap : Nat) (p : Value) (w : World) (hc0 : cap ≠ 0) (hbk : w.heap[b]? = some (.cells #[p, .slice (some ⟨g, 0, none⟩) 0 cap] 59 (0, 0))) :
    Calls Tryd.prog 35 #[.pointer (some ⟨b, 0, none⟩)] w fun e w' => e = .returned (.string ⟨#[]⟩) ∧ w' = w.drew := by
  have hUS : ∀ q, (Builtin.unsafeString_ #[87, 3] 9 #[.pointer q, .int .i64 0]).run Tryd.prog w.drew = .ok (.string .empty) w.drew := fun q => Lib.run_unsafeString_none _ 87 3 9 q
  have c1 : w.drew.cell? ⟨b, 1, none⟩ = some (.slice (some ⟨g, 0, none⟩) 0 cap) := by
    have : w.drew.heap[b]? = some (.cells #[p, .slice (some ⟨g, 0, none⟩) 0 cap] 59 (0, 0)) := hbk
    rw [Lib.cell_of_heap this]; rfl
  have hSD : (Builtin.unsafeSliceData_ #[44] 87 #[.slice (some ⟨g, 0, none⟩) 0 cap]).run Tryd.prog w.drew = .ok (.pointer (some ⟨g, 0, none⟩)) w.drew :=
    Lib.run_unsafeSliceData_row _ _ _ _ _ _ hc0
  clear hc0
  go_enter Tryd.func35, Tryd.ntmps35
  go_wp2
  go_region
  all_goals (go_wp2; go_ret; exact ⟨rfl, rfl⟩)
set_option maxRecDepth 100000 in
set_option maxHeartbeats 2000000 in
theorem str_noroom (b g : Nat) (p : Value) (cur : Array Value) (w : World) (hbk : w.heap[b]? = some (.cells #[p, .slice (some ⟨g, 0, none⟩) 0 0] 59 (0, 0))) (hg : w.heap[g]? = some (.cells cur 5 (0, 0))) :
    Calls Tryd.prog 35 #[.pointer (some ⟨b, 0, none⟩)] w fun e w' => e = .returned (.string ⟨#[]⟩) ∧ w' = w.drew.alloc (.view ⟨g, 0, none⟩ 5) := by
  have hUS : ∀ W q, (Builtin.unsafeString_ #[87, 3] 9 #[.pointer q, .int .i64 0]).run Tryd.prog W = .ok (.string .empty) W := fun W q => Lib.run_unsafeString_none _ 87 3 9 q
  have hlt : b < w.heap.size := (Array.getElem?_eq_some_iff.1 hbk).1
  have c1 : w.drew.cell? ⟨b, 1, none⟩ = some (.slice (some ⟨g, 0, none⟩) 0 0) := by
    have : w.drew.heap[b]? = some (.cells #[p, .slice (some ⟨g, 0, none⟩) 0 0] 59 (0, 0)) := hbk
    rw [Lib.cell_of_heap this]; rfl
  have hSD : (Builtin.unsafeSliceData_ #[44] 87 #[.slice (some ⟨g, 0, none⟩) 0 0]).run Tryd.prog w.drew = .ok (.pointer (some ⟨w.drew.heap.size, 0, none⟩)) (w.drew.alloc (.view ⟨g, 0, none⟩ 5)) :=
    Lib.run_unsafeSliceData_zero _ #[44] 87 5 Tryd.underlying87 ⟨g, 0, none⟩ 0 (5, cur.size) (by have hg' : w.drew.heap[g]? = some (.cells cur 5 (0, 0)) := hg; simp [World.shape?, hg'])
  have c2 : (w.drew.alloc (.view ⟨g, 0, none⟩ 5)).cell? ⟨b, 1, none⟩ = some (.slice (some ⟨g, 0, none⟩) 0 0) := by
    have : (w.drew.alloc (.view ⟨g, 0, none⟩ 5)).heap[b]? = _ := (Lib.alloc_old w.drew _ b hlt).trans hbk
    rw [Lib.cell_of_heap this]; rfl
  have c3 : w.cell? ⟨b, 1, none⟩ = some (.slice (some ⟨g, 0, none⟩) 0 0) := c1
  have c4 : (w.alloc (.view ⟨g, 0, none⟩ 5)).drew.cell? ⟨b, 1, none⟩ = some (.slice (some ⟨g, 0, none⟩) 0 0) := c2
  clear hg
  go_enter Tryd.func35, Tryd.ntmps35
  go_wp2
  go_region
  all_goals (go_wp2; go_ret; exact ⟨rfl, rfl⟩)
end Go.Pe.Tryd
end
section
set_option linter.unusedSectionVars false
set_option linter.unusedVariables false
set_option linter.unusedSimpArgs false
namespace Go.Pe.Tryd
open Go.Proofs Go.RowKit
@[reducible] def h71_I : Shape := ⟨[.ptr 0 0], [some [.bld 0, .whole 0]], [some (.int .u8)]⟩
@[reducible] def h71_O : Shape := ⟨[], [some [.bld 0, .whole 0]], [some (.int .u8)]⟩
@[reducible] def h71_F (y : h71_I.den) : Option h71_O.den := some ((), y.2)
@[reducible] def h35_I : Shape := ⟨[.ptr 0 0], [some [.bld 0, .whole 0]], [some (.int .u8)]⟩
@[reducible] def h35_O : Shape := ⟨[.hole .str], [none], [none]⟩
@[reducible] def h35_F (y : h35_I.den) : Option h35_O.den := if bytesOf (strOf y.2.2.1) = y.2.2.1 ∧ y.2.2.1.length ≤ 4294967296 then some ((strOf y.2.2.1, ()), (), ()) else none
/-- A builder's block. -/
theorem bld_block {A0 : Dom} {w0 w : World} {st : St} {tmps : Array Value} {μ : Mu} (hs : Sim A0 w0 st tmps w μ) {l : List Int} (h0 : getL st.recs 0 = some [.bld 0, .whole 0]) (h1 : getL st.lsts 0 = some ⟨.int .u8, l⟩) :
    ∃ b p v, μ.at_ (.r 0) = some b ∧ w.heap[b]? = some (.cells #[p, v] 59 (0, 0)) ∧ (p = .pointer none ∨ p = .pointer (some ⟨b, 0, none⟩)) ∧ RepAV (cx A0 w0 st.recs st.lsts w μ) (.whole 0) v ∧ WholeAt μ 0 ⟨.int .u8, l⟩ v := by
  obtain ⟨b, vs, hb, ⟨el, ho⟩, hv⟩ := hs.mem.hrec 0 _ h0 rfl
  obtain ⟨vs2, h2⟩ := hs.mem.bty.r 0 _ h0 rfl b hb
  rw [ho] at h2; cases h2
  obtain ⟨p, _, e1, r1, hv⟩ := hv.cons'
  obtain ⟨v, _, rfl, r2, hv⟩ := hv.cons'
  obtain rfl := hv.nil
  have hvs : vs = #[p, v] := by apply Array.ext'; simpa using e1
  subst hvs
  have r2' := r2
  simp only [RepAV, cx] at r1 r2'
  obtain ⟨b', hb', hp⟩ := r1.2.2 (by rw [h0]; rfl)
  rw [hb] at hb'; cases hb'
  exact ⟨b, p, v, hb, ho, hp, r2, r2'.2.2 _ h1⟩
theorem copy_ok : SoundH Tryd.prog 71 ⟨h71_I, h71_O, h71_F⟩ := by
  refine ⟨⟨_, Tryd.func71, by kernel_rfl, by kernel_rfl⟩, ?_⟩
  intro y o hF A0 w0 w vs μ hs
  simp only [Option.some.injEq] at hF; subst hF
  obtain ⟨b, p, v, hb, hh, hp, hv, hw⟩ := bld_block hs (l := y.2.2.1) rfl rfl
  obtain ⟨x, _, e, hx, hn⟩ := hs.slots.cons'
  obtain rfl := hn.nil
  simp only [fillA, RepAV, cx] at hx
  obtain ⟨b', hb', rfl⟩ := hx.2.2 rfl
  rw [hb] at hb'; cases hb'
  have hvs : vs = [.pointer (some ⟨b, 0, none⟩)] := by simpa using e
  subst hvs
  rcases hp with rfl | rfl
  · refine (copy_fresh b w v hh).mono ?_
    rintro e w' ⟨rfl, rfl⟩
    refine ⟨[], μ, rfl, ?_, ?_⟩
    · simp [fill, fillL, RepAVs]
    · rw [setCell_eq_setRow w b 0 _ 59 (0, 0) _ hh]
      exact hs.mem.setRec (r := 0) (cells := [.bld 0, .whole 0]) (cells' := [.bld 0, .whole 0]) rfl hb ⟨59, hh⟩ (by
        refine RepAVs.cons ?_ (RepAVs.cons hv (by simp [RepAVs]))
        simp only [RepAV, cx]
        exact ⟨by simp [fill, fillR], rfl, fun _ => ⟨b, hb, .inr rfl⟩⟩) (fun h => h)
  · refine (copy_used b w (by rw [Lib.cell_of_heap hh]; rfl)).mono ?_
    rintro e w' ⟨rfl, rfl⟩
    exact ⟨[], μ, rfl, by simp [fill, fillL, RepAVs], hs.mem⟩
theorem freeze_other {w : World} {g n k : Nat} (h : k ≠ g) : (w.freeze ⟨g, 0, none⟩ n).heap[k]? = w.heap[k]? := by
  unfold World.freeze
  split
  · rfl
  · simp [Array.getElem?_modify, Ne.symm h]
theorem freeze_size {w : World} {a : Addr} {n : Nat} : (w.freeze a n).heap.size = w.heap.size := by
  unfold World.freeze
  split <;> simp
/-- What is left behind String: nothing is known of the builder. -/
theorem str_post {A0 : Dom} {w0 w : World} {l : List Int} {tmps : Array Value} {μ : Mu} (hs : Sim A0 w0 (fill h35_I (((), ()), (((), (), ()), ()), (l, ()))) tmps w μ) {w' : World} (s : List UInt8) (hsz : w.heap.size ≤ w'.heap.size) (hb : Below w0.heap.size w w')
    (hk : ∀ k, k < w.heap.size → (∀ x, μ.at_ x ≠ some k) → w'.heap[k]? = w.heap[k]?) : Sim A0 w0 (fill h35_O ((s, ()), (), ())) #[.string ⟨s.toArray⟩] w' ⟨fun _ => none, fun _ => 0, none⟩ := by
  have hm := hs.mem
  refine ⟨?_, ?_, ?_, (fun x b hx => by cases hx), (fun x y b hx => by cases hx), hm.below.trans hb, ?_, ?_, hm.np, ?_, hm.gi, ?_, (fun r c h => by cases r <;> simp [fill, fillR, getL] at h), (fun d h => by cases h)⟩
  · simp [fill, fillL, fillA, RepAVs, RepAV, Rep]
  · intro r cells h _
    cases r <;> simp [fill, fillR, getL] at h
  · intro r o h
    cases r <;> simp [fill, fillT, getL] at h
  · intro b hF
    obtain ⟨h1, h2, h3⟩ := hm.fr b hF
    exact ⟨by omega, (hk b h1 h3).trans h2, fun x hx => by cases hx⟩
  · intro b hX
    obtain ⟨h1, h2⟩ := hm.xo b hX
    exact ⟨by omega, fun x hx => by cases hx⟩
  · intro r b h
    obtain ⟨h1, h2⟩ := hm.pins r b h
    exact ⟨h1, fun h3 => by cases r <;> simp [fill, fillR, getL] at h3⟩
  · exact ⟨fun r c h => by cases r <;> simp [fill, fillR, getL] at h, fun r o h => by cases r <;> simp [fill, fillT, getL] at h⟩
theorem u8s {A : Nat → Prop} {w : World} : ∀ {xs : List Int} {us : List Value}, RepAll (Rep A w (.int .u8)) xs us → us = xs.map fun n => Value.int .u8 n
  | [], _, h => by simpa [RepAll] using h
  | x :: xs, _, ⟨u1, u2, e, h1, h2⟩ => by
    simp only [Rep] at h1
    rw [e, h1, u8s h2]; rfl
theorem str_ok : SoundH Tryd.prog 35 ⟨h35_I, h35_O, h35_F⟩ := by
  refine ⟨⟨_, Tryd.func35, by kernel_rfl, by kernel_rfl⟩, ?_⟩
  intro y o hF A0 w0 w vs μ hs
  obtain ⟨⟨⟨⟩, ⟨⟩⟩, ⟨⟨⟨⟩, ⟨⟩, ⟨⟩⟩, ⟨⟩⟩, l, ⟨⟩⟩ := y
  obtain ⟨b, p, v, hb, hh, hp, hv, hw⟩ := bld_block hs (l := l) rfl rfl
  obtain ⟨x, _, e, hx, hn⟩ := hs.slots.cons'
  obtain rfl := hn.nil
  simp only [fillA, RepAV, cx] at hx
  obtain ⟨b', hb', rfl⟩ := hx.2.2 rfl
  rw [hb] at hb'; cases hb'
  have hvs : vs = [.pointer (some ⟨b, 0, none⟩)] := by simpa using e
  subst hvs
  simp only [h35_F] at hF
  split at hF
  · rename_i hc
    obtain ⟨hc, hlen⟩ := hc
    cases hF
    have fin : ∀ {e : Ending} {w' : World}, e = .returned (.string ⟨(strOf l).toArray⟩) → w.heap.size ≤ w'.heap.size → Below w0.heap.size w w' → (∀ k, k < w.heap.size → (∀ x, μ.at_ x ≠ some k) → w'.heap[k]? = w.heap[k]?) →
        ∃ us μ', e = .returned (retVal us) ∧ Sim A0 w0 (fill h35_O ((strOf l, ()), (), ())) us.toArray w' μ' := fun he h1 h2 h3 =>
      ⟨[.string ⟨(strOf l).toArray⟩], _, by rw [he]; rfl, str_post hs (strOf l) h1 h2 h3⟩
    rcases hw with ⟨hat, rfl⟩ | ⟨g, hg, rfl⟩
    · rcases hs.mem.hlst 0 _ (show getL _ 0 = some ⟨.int .u8, l⟩ from rfl) with ⟨_, h2⟩ | ⟨g, _, h2, _⟩
      · simp only at h2; subst h2
        refine (str_nil b p w hh).mono ?_
        rintro e w' ⟨rfl, rfl⟩
        exact fin rfl (Nat.le_refl _) (Below.drew (Below.refl _ w)) fun k _ _ => rfl
      · rw [show (cx A0 w0 _ _ w μ).μ.at_ (.l 0) = μ.at_ (.l 0) from rfl, hat] at h2; cases h2
    · rcases hs.mem.hlst 0 _ (show getL _ 0 = some ⟨.int .u8, l⟩ from rfl) with ⟨h2, _⟩ | ⟨g', cs, h2, hown, hsz, hcap, us, rest, e1, hr⟩
      · rw [show (cx A0 w0 _ _ w μ).μ.at_ (.l 0) = μ.at_ (.l 0) from rfl, hg] at h2; cases h2
      · rw [show (cx A0 w0 _ _ w μ).μ.at_ (.l 0) = μ.at_ (.l 0) from rfl, hg] at h2; cases h2
        obtain ⟨cs2, hg2⟩ := hs.mem.bty.l 0 _ (show getL _ 0 = some ⟨.int .u8, l⟩ from rfl) rfl g hg
        obtain ⟨el, hg3⟩ := hown
        have hg4 : w.heap[g]? = some (.cells cs el (0, 0)) := hg3
        rw [hg4] at hg2; cases hg2
        have hus := u8s hr
        have hul : us.length = l.length := by rw [hus]; simp
        have hsz' : cs.size = μ.cap 0 := (show cs.size = μ.cap 0 * 1 from hsz).trans (Nat.mul_one _)
        have hcap' : l.length ≤ μ.cap 0 := hcap
        have hlive := hs.mem.live _ _ hg
        by_cases h0 : l = []
        · subst h0
          by_cases hc0 : μ.cap 0 = 0
          · have hh' := hh
            rw [hc0] at hh'
            refine (str_noroom b g p cs w hh' hg4).mono ?_
            rintro e w' ⟨rfl, rfl⟩
            refine fin rfl ((Below.drew (Below.refl w.heap.size w)).alloc (Nat.le_refl _) (.view ⟨g, 0, none⟩ 5)).size ((Below.drew (Below.refl _ w)).alloc hs.mem.below.size _) fun k hk _ => (Lib.alloc_old w.drew _ k hk)
          · refine (str_room b g _ p w hc0 hh).mono ?_
            rintro e w' ⟨rfl, rfl⟩
            exact fin rfl (Nat.le_refl _) (Below.drew (Below.refl _ w)) fun k _ _ => rfl
        · have hsl : (strOf l).length = l.length := by
            have := congrArg List.length hc
            simpa [bytesOf] using this
          have hne : strOf l ≠ [] := by intro e; rw [e] at hsl; exact h0 (List.eq_nil_of_length_eq_zero hsl.symm)
          rw [← hsl] at hh hcap' hlen
          refine (str_bytes b g _ p cs (strOf l) hne w hh hg4 (by rw [hsz']; exact hcap') hcap' hlen fun j x hx => ?_).mono ?_
          · rw [Lib.cell_of_heap hg4, ← Array.getElem?_toList, e1]
            have hj : j < l.length := by rw [← hsl]; exact (List.getElem?_eq_some_iff.1 hx).1
            have hx2 : (bytesOf (strOf l))[j]? = some (x.toNat : Int) := by simp only [bytesOf, List.getElem?_map, hx]; rfl
            rw [hc] at hx2
            rw [List.getElem?_append_left (by omega), hus, List.getElem?_map, hx2]; rfl
          · rintro e w' ⟨rfl, rfl⟩
            refine fin rfl (by rw [freeze_size]; exact Nat.le_refl _) (Lib.below_freeze (Below.drew (Below.refl _ w)) (p := ⟨g, 0, none⟩) hlive.1 _) fun k hk hx => freeze_other (w := w.drew) (fun e => hx (.l 0) (by rw [e]; exact hg))
  · cases hF
end Go.Pe.Tryd
end
section
set_option linter.unusedSectionVars false
set_option linter.unusedVariables false
set_option linter.unusedSimpArgs false
namespace Go.Pe.Tryd
open Go.Proofs Go.RowKit Go.Lib Go.Sort
noncomputable def formatF (y : argsDen [.one (.int .i64), .one (.int .i64)]) : Option (argsDen [.one .str]) :=
  if y.2.1 = 10 ∧ -9223372036854775808 ≤ y.1 ∧ y.1 ≤ 9223372036854775807 then some (Lib.itoa y.1, ()) else none
theorem below_growN (w : World) (k : Nat) (os : Array Obj) : Below w.heap.size w (grow (w.drewN k) os) :=
  ⟨rfl, rfl, rfl, Lib.size_grow w k os, fun j hj => Lib.heap_grow_old w k os j hj⟩
theorem format_ok : Sound Tryd.prog 39 (pfun formatF) := by
  refine ⟨⟨_, Tryd.func39, by kernel_rfl, by kernel_rfl⟩, ?_⟩
  intro S args K r hG A w vs hA hgi hcl hrep
  simp only [pfun, Option.bind_eq_some_iff] at hG
  obtain ⟨⟨n, b, _⟩, hy, z, hz, hK⟩ := hG
  refine ⟨_, hK, encRes_closed _ z, ?_⟩
  have hargs := decArgs_rep hy hrep
  simp only [encArgs, KD.enc] at hargs
  obtain ⟨v1, _, rfl, r1, hargs⟩ := hargs.cons'
  obtain ⟨v2, _, rfl, r2, hargs⟩ := hargs.cons'
  obtain rfl := hargs.nil
  simp only [RepAV, Rep, List.cons.injEq, and_true] at r1 r2
  subst r1; subst r2
  unfold formatF at hz
  split at hz
  · rename_i hc
    cases hz
    obtain ⟨hb, h0, h1⟩ := hc
    simp only at hb; subst hb
    refine (Tryd.strconv_FormatInt_10 n h0 h1 w hgi.2).mono fun e w' ⟨he, k, os, hw⟩ => ⟨_, he, ?_, ?_⟩
    · rw [hw]; exact below_growN w k os
    · simp [encRes, encArgs, resVal, KD.enc, RepAV, Rep]
  · cases hz
noncomputable def replaceF (y : argsDen [.one .str, .one .str, .one .str]) : Option (argsDen [.one .str]) :=
  if y.1.length < 4294967281 ∧ 1 ≤ y.2.1.length ∧ y.1.length + Lib.countB ⟨y.1.toArray⟩ ⟨y.2.1.toArray⟩ * y.2.2.1.length ≤ 140737488355328 then some (Lib.replaceAll y.1 y.2.1 y.2.2.1, ()) else none
theorem replace_ok : Sound Tryd.prog 72 (pfun replaceF) := by
  refine ⟨⟨_, Tryd.func72, by kernel_rfl, by kernel_rfl⟩, ?_⟩
  intro S args K r hG A w vs hA hgi hcl hrep
  simp only [pfun, Option.bind_eq_some_iff] at hG
  obtain ⟨⟨s, old, new, _⟩, hy, z, hz, hK⟩ := hG
  refine ⟨_, hK, encRes_closed _ z, ?_⟩
  have hargs := decArgs_rep hy hrep
  simp only [encArgs, KD.enc] at hargs
  obtain ⟨v1, _, rfl, r1, hargs⟩ := hargs.cons'
  obtain ⟨v2, _, rfl, r2, hargs⟩ := hargs.cons'
  obtain ⟨v3, _, rfl, r3, hargs⟩ := hargs.cons'
  obtain rfl := hargs.nil
  simp only [RepAV, Rep, List.cons.injEq, and_true] at r1 r2 r3
  subst r1; subst r2; subst r3
  unfold replaceF at hz
  split at hz
  · rename_i hc
    cases hz
    obtain ⟨⟨m, hm⟩, _⟩ := hgi
    refine (Tryd.strings_ReplaceAll ⟨s.toArray⟩ ⟨old.toArray⟩ ⟨new.toArray⟩ m w (by simpa [ByteArray.size] using hc.1) hm (by simpa [ByteArray.size] using hc.2.1) (by simpa [ByteArray.size] using hc.2.2)).mono fun e w' ⟨he, hw⟩ => ⟨_, he, hw, ?_⟩
    simp [encRes, encArgs, resVal, KD.enc, RepAV, Rep]
  · cases hz
end Go.Pe.Tryd
end
section
set_option linter.unusedSectionVars false
set_option linter.unusedVariables false
set_option linter.unusedSimpArgs false
namespace Go.Pe.Tryd
open Go.Proofs Go.RowKit
set_option maxRecDepth 100000
noncomputable section
theorem mixed : Tryd.prog.follows .mixedOrders = true := by kernel_rfl
@[reducible] noncomputable def f16_ps : List KD := [.agg [(.int .i64), (.int .i64), .str, (.list .value), (.list .str)], .one (.int .i64)]
@[reducible] noncomputable def f16_rs : List KD := [.one (.int .i64)]
@[reducible] noncomputable def f16_c : Code := codeOf Tryd.f16
@[reducible] noncomputable def f16_E (G : argsDen f16_ps → Option (argsDen f16_rs)) (hG : Sound Tryd.prog 16 (pfun G)) : Env := envOf Tryd.prog 25 [rowOf true hG] []
theorem f16_E_okE (G : argsDen f16_ps → Option (argsDen f16_rs)) (hG : Sound Tryd.prog 16 (pfun G)) : EnvOk Tryd.prog (f16_E G hG) := envOf_ok _ _ _ mixed
@[reducible] noncomputable def f16_p0_sh : Shape := ⟨[.dead, .hole (.int .i64), .dead, .dead, .dead, .hole (.int .i64), .dead, .dead, .dead, .hole (.list .value), .hole (.int .i64), .hole (.int .i64), .dead, .dead, .dead, .dead, .dead, .dead, .dead, .dead, .dead, .dead, .dead, .dead, .dead, .dead, .dead, .dead], [none], []⟩
@[reducible] noncomputable def f16_p0_o0 : Shape := ⟨[.dead, .dead, .dead, .dead, .dead, .hole (.int .i64), .dead, .dead, .dead, .dead, .dead, .dead, .dead, .dead, .dead, .dead, .dead, .dead, .dead, .dead, .dead, .dead, .dead, .dead, .dead, .dead, .dead, .dead], [], []⟩
@[reducible] noncomputable def f16_p0_o1 : Shape := ⟨[.dead, .dead, .dead, .dead, .hole (.int .i64), .dead, .dead, .dead, .dead, .dead, .dead, .dead, .dead, .dead, .dead, .dead, .dead, .dead, .dead, .dead, .dead, .dead, .dead, .dead, .dead, .dead, .dead, .dead], [], []⟩
@[reducible] noncomputable def f16_p0_outs : List (Ex × Shape) := [(.exit 0, f16_p0_o0), (.ret, f16_p0_o1)]
@[reducible] noncomputable def f16_p0_a (G : argsDen f16_ps → Option (argsDen f16_rs)) (hG : Sound Tryd.prog 16 (pfun G)) : Ann Tryd.prog 0 true (f16_c.cr.cr.cl.cr.cb.cb) := (.leaf _)
noncomputable def f16_p0_st (G : argsDen f16_ps → Option (argsDen f16_rs)) (hG : Sound Tryd.prog 16 (pfun G)) (rec : f16_p0_sh.den → Option (OutDen f16_p0_outs)) (y : f16_p0_sh.den) : Option (OutDen f16_p0_outs) := evA (f16_E G hG) (f16_p0_a G hG) (fill f16_p0_sh y) fun ex st => match ex with | .normal => (abs f16_p0_sh st).bind rec | e => packOut f16_p0_outs e st
theorem f16_p0_ok (G : argsDen f16_ps → Option (argsDen f16_rs)) (hG : Sound Tryd.prog 16 (pfun G)) : PieceSound Tryd.prog 0 true (.loop (f16_c.cr.cr.cl.cr.cb.cb)) f16_p0_sh f16_p0_outs (go (f16_p0_st G hG)) := go_of (f16_E_okE G hG) (f16_p0_a G hG) rfl rfl fun _ _ => rfl
@[reducible] noncomputable def f16_a (G : argsDen f16_ps → Option (argsDen f16_rs)) (hG : Sound Tryd.prog 16 (pfun G)) : Ann Tryd.prog 0 true f16_c := (.seq (.leaf _) (.seq (.leaf _) (.seq (.seq (.leaf _) (.block (.piece _ _ _ (f16_p0_ok G hG)))) (.leaf _))))
noncomputable def f16_b (G : argsDen f16_ps → Option (argsDen f16_rs)) (hG : Sound Tryd.prog 16 (pfun G)) (y : argsDen f16_ps) : Option (argsDen f16_rs) := evFunA (f16_E G hG) Tryd.f16 (f16_a G hG) (encArgs f16_ps y) (decRes f16_rs)
theorem f16_bok (G : argsDen f16_ps → Option (argsDen f16_rs)) (hG : Sound Tryd.prog 16 (pfun G)) : Sound Tryd.prog 16 (pfun (f16_b G hG)) := sound_of (c := f16_c) (f16_E_okE G hG) (by kernel_rfl) (by kernel_rfl) (by kernel_rfl) (f16_a G hG) (fun _ => rfl)
theorem f16_has : ∃ fn, Tryd.prog.funcs[16]? = some fn ∧ (fn.name == "runtime.NumGoroutine") = false ∧ fn.body.isSome = true := ⟨Tryd.f16, by kernel_rfl, by kernel_rfl, by kernel_rfl⟩
noncomputable def f16_S : (n : Nat) → {F : argsDen f16_ps → Option (argsDen f16_rs) // Sound Tryd.prog 16 (pfun F)} := recF f16_has fun F h => ⟨f16_b F h, f16_bok F h⟩
noncomputable def f16_F : argsDen f16_ps → Option (argsDen f16_rs) := (f16_S recN).1
theorem f16_ok : Sound Tryd.prog 16 (pfun f16_F) := (f16_S recN).2
@[reducible] noncomputable def f12_c : Code := codeOf Tryd.f12
@[reducible] noncomputable def f12_E : Env := envOf Tryd.prog 25 [rowOf true f16_ok] []
theorem f12_E_okE : EnvOk Tryd.prog f12_E := envOf_ok _ _ _ mixed
@[reducible] noncomputable def f12_ps : List KD := [.agg [(.int .i64), (.int .i64), .str, (.list .value), (.list .str)]]
@[reducible] noncomputable def f12_rs : List KD := [.one .bool]
@[reducible] noncomputable def f12_a : Ann Tryd.prog 0 true f12_c := (.leaf _)
noncomputable def f12_F (y : argsDen f12_ps) : Option (argsDen f12_rs) := evFunA f12_E Tryd.f12 f12_a (encArgs f12_ps y) (decRes f12_rs)
theorem f12_ok : Sound Tryd.prog 12 (pfun f12_F) := sound_of (c := f12_c) (f12_E_okE) (by kernel_rfl) (by kernel_rfl) (by kernel_rfl) f12_a (fun _ => rfl)
@[reducible] noncomputable def f23_c : Code := codeOf Tryd.f23
@[reducible] noncomputable def f23_E : Env := envOf Tryd.prog 25 [] []
theorem f23_E_okE : EnvOk Tryd.prog f23_E := envOf_ok _ _ _ mixed
@[reducible] noncomputable def f23_ps : List KD := [.one (.int .i64)]
@[reducible] noncomputable def f23_rs : List KD := [.agg [(.int .i64), (.int .i64), .str, (.list .value), (.list .str)]]
@[reducible] noncomputable def f23_a : Ann Tryd.prog 0 true f23_c := (.leaf _)
noncomputable def f23_F (y : argsDen f23_ps) : Option (argsDen f23_rs) := evFunA f23_E Tryd.f23 f23_a (encArgs f23_ps y) (decRes f23_rs)
theorem f23_ok : Sound Tryd.prog 23 (pfun f23_F) := sound_of (c := f23_c) (f23_E_okE) (by kernel_rfl) (by kernel_rfl) (by kernel_rfl) f23_a (fun _ => rfl)
@[reducible] noncomputable def f22_c : Code := codeOf Tryd.f22
@[reducible] noncomputable def f22_E : Env := envOf Tryd.prog 25 [] []
theorem f22_E_okE : EnvOk Tryd.prog f22_E := envOf_ok _ _ _ mixed
@[reducible] noncomputable def f22_ps : List KD := [.one .str]
@[reducible] noncomputable def f22_rs : List KD := [.agg [(.int .i64), (.int .i64), .str, (.list .value), (.list .str)]]
@[reducible] noncomputable def f22_a : Ann Tryd.prog 0 true f22_c := (.leaf _)
noncomputable def f22_F (y : argsDen f22_ps) : Option (argsDen f22_rs) := evFunA f22_E Tryd.f22 f22_a (encArgs f22_ps y) (decRes f22_rs)
theorem f22_ok : Sound Tryd.prog 22 (pfun f22_F) := sound_of (c := f22_c) (f22_E_okE) (by kernel_rfl) (by kernel_rfl) (by kernel_rfl) f22_a (fun _ => rfl)
@[reducible] noncomputable def f28_c : Code := codeOf Tryd.f28
@[reducible] noncomputable def f28_E : Env := envOf Tryd.prog 25 [] []
theorem f28_E_okE : EnvOk Tryd.prog f28_E := envOf_ok _ _ _ mixed
@[reducible] noncomputable def f28_ps : List KD := [.one (.list .value)]
@[reducible] noncomputable def f28_rs : List KD := [.agg [(.int .i64), (.int .i64), .str, (.list .value), (.list .str)]]
@[reducible] noncomputable def f28_a : Ann Tryd.prog 0 true f28_c := (.leaf _)
noncomputable def f28_F (y : argsDen f28_ps) : Option (argsDen f28_rs) := evFunA f28_E Tryd.f28 f28_a (encArgs f28_ps y) (decRes f28_rs)
theorem f28_ok : Sound Tryd.prog 28 (pfun f28_F) := sound_of (c := f28_c) (f28_E_okE) (by kernel_rfl) (by kernel_rfl) (by kernel_rfl) f28_a (fun _ => rfl)
@[reducible] noncomputable def f17_ps : List KD := [.agg [(.int .i64), (.int .i64), .str, (.list .value), (.list .str)]]
@[reducible] noncomputable def f17_rs : List KD := [.one (.int .i64)]
@[reducible] noncomputable def f17_c : Code := codeOf Tryd.f17
@[reducible] noncomputable def f17_E (G : argsDen f17_ps → Option (argsDen f17_rs)) (hG : Sound Tryd.prog 17 (pfun G)) : Env := envOf Tryd.prog 25 [rowOf true hG] []
theorem f17_E_okE (G : argsDen f17_ps → Option (argsDen f17_rs)) (hG : Sound Tryd.prog 17 (pfun G)) : EnvOk Tryd.prog (f17_E G hG) := envOf_ok _ _ _ mixed
@[reducible] noncomputable def f17_p0_sh : Shape := ⟨[.dead, .dead, .dead, .hole (.int .i64), .dead, .dead, .dead, .hole (.list .value), .hole (.int .i64), .hole (.int .i64), .dead, .dead, .dead, .dead, .dead, .dead, .dead, .dead, .dead, .dead], [none], []⟩
@[reducible] noncomputable def f17_p0_o0 : Shape := ⟨[.dead, .dead, .dead, .hole (.int .i64), .dead, .dead, .dead, .dead, .dead, .dead, .dead, .dead, .dead, .dead, .dead, .dead, .dead, .dead, .dead, .dead], [], []⟩
@[reducible] noncomputable def f17_p0_outs : List (Ex × Shape) := [(.exit 0, f17_p0_o0)]
@[reducible] noncomputable def f17_p0_a (G : argsDen f17_ps → Option (argsDen f17_rs)) (hG : Sound Tryd.prog 17 (pfun G)) : Ann Tryd.prog 0 true (f17_c.cr.cr.cl.cr.cb.cb) := (.leaf _)
noncomputable def f17_p0_st (G : argsDen f17_ps → Option (argsDen f17_rs)) (hG : Sound Tryd.prog 17 (pfun G)) (rec : f17_p0_sh.den → Option (OutDen f17_p0_outs)) (y : f17_p0_sh.den) : Option (OutDen f17_p0_outs) := evA (f17_E G hG) (f17_p0_a G hG) (fill f17_p0_sh y) fun ex st => match ex with | .normal => (abs f17_p0_sh st).bind rec | e => packOut f17_p0_outs e st
theorem f17_p0_ok (G : argsDen f17_ps → Option (argsDen f17_rs)) (hG : Sound Tryd.prog 17 (pfun G)) : PieceSound Tryd.prog 0 true (.loop (f17_c.cr.cr.cl.cr.cb.cb)) f17_p0_sh f17_p0_outs (go (f17_p0_st G hG)) := go_of (f17_E_okE G hG) (f17_p0_a G hG) rfl rfl fun _ _ => rfl
@[reducible] noncomputable def f17_a (G : argsDen f17_ps → Option (argsDen f17_rs)) (hG : Sound Tryd.prog 17 (pfun G)) : Ann Tryd.prog 0 true f17_c := (.seq (.leaf _) (.seq (.leaf _) (.seq (.seq (.leaf _) (.block (.piece _ _ _ (f17_p0_ok G hG)))) (.leaf _))))
noncomputable def f17_b (G : argsDen f17_ps → Option (argsDen f17_rs)) (hG : Sound Tryd.prog 17 (pfun G)) (y : argsDen f17_ps) : Option (argsDen f17_rs) := evFunA (f17_E G hG) Tryd.f17 (f17_a G hG) (encArgs f17_ps y) (decRes f17_rs)
theorem f17_bok (G : argsDen f17_ps → Option (argsDen f17_rs)) (hG : Sound Tryd.prog 17 (pfun G)) : Sound Tryd.prog 17 (pfun (f17_b G hG)) := sound_of (c := f17_c) (f17_E_okE G hG) (by kernel_rfl) (by kernel_rfl) (by kernel_rfl) (f17_a G hG) (fun _ => rfl)
theorem f17_has : ∃ fn, Tryd.prog.funcs[17]? = some fn ∧ (fn.name == "runtime.NumGoroutine") = false ∧ fn.body.isSome = true := ⟨Tryd.f17, by kernel_rfl, by kernel_rfl, by kernel_rfl⟩
noncomputable def f17_S : (n : Nat) → {F : argsDen f17_ps → Option (argsDen f17_rs) // Sound Tryd.prog 17 (pfun F)} := recF f17_has fun F h => ⟨f17_b F h, f17_bok F h⟩
noncomputable def f17_F : argsDen f17_ps → Option (argsDen f17_rs) := (f17_S recN).1
theorem f17_ok : Sound Tryd.prog 17 (pfun f17_F) := (f17_S recN).2
@[reducible] noncomputable def f15_ps : List KD := [.agg [(.int .i64), (.int .i64), .str, (.list .value), (.list .str)]]
@[reducible] noncomputable def f15_rs : List KD := [.one (.int .i64)]
@[reducible] noncomputable def f15_c : Code := codeOf Tryd.f15
@[reducible] noncomputable def f15_E (G : argsDen f15_ps → Option (argsDen f15_rs)) (hG : Sound Tryd.prog 15 (pfun G)) : Env := envOf Tryd.prog 25 [rowOf true hG] []
theorem f15_E_okE (G : argsDen f15_ps → Option (argsDen f15_rs)) (hG : Sound Tryd.prog 15 (pfun G)) : EnvOk Tryd.prog (f15_E G hG) := envOf_ok _ _ _ mixed
@[reducible] noncomputable def f15_p0_sh : Shape := ⟨[.dead, .dead, .dead, .hole (.int .i64), .dead, .dead, .dead, .hole (.list .value), .hole (.int .i64), .hole (.int .i64), .dead, .dead, .dead, .dead, .dead, .dead, .dead, .dead, .dead], [none], []⟩
@[reducible] noncomputable def f15_p0_o0 : Shape := ⟨[.dead, .dead, .dead, .hole (.int .i64), .dead, .dead, .dead, .dead, .dead, .dead, .dead, .dead, .dead, .dead, .dead, .dead, .dead, .dead, .dead], [], []⟩
@[reducible] noncomputable def f15_p0_outs : List (Ex × Shape) := [(.exit 0, f15_p0_o0)]
@[reducible] noncomputable def f15_p0_a (G : argsDen f15_ps → Option (argsDen f15_rs)) (hG : Sound Tryd.prog 15 (pfun G)) : Ann Tryd.prog 0 true (f15_c.cr.cr.cl.cr.cb.cb) := (.leaf _)
noncomputable def f15_p0_st (G : argsDen f15_ps → Option (argsDen f15_rs)) (hG : Sound Tryd.prog 15 (pfun G)) (rec : f15_p0_sh.den → Option (OutDen f15_p0_outs)) (y : f15_p0_sh.den) : Option (OutDen f15_p0_outs) := evA (f15_E G hG) (f15_p0_a G hG) (fill f15_p0_sh y) fun ex st => match ex with | .normal => (abs f15_p0_sh st).bind rec | e => packOut f15_p0_outs e st
theorem f15_p0_ok (G : argsDen f15_ps → Option (argsDen f15_rs)) (hG : Sound Tryd.prog 15 (pfun G)) : PieceSound Tryd.prog 0 true (.loop (f15_c.cr.cr.cl.cr.cb.cb)) f15_p0_sh f15_p0_outs (go (f15_p0_st G hG)) := go_of (f15_E_okE G hG) (f15_p0_a G hG) rfl rfl fun _ _ => rfl
@[reducible] noncomputable def f15_a (G : argsDen f15_ps → Option (argsDen f15_rs)) (hG : Sound Tryd.prog 15 (pfun G)) : Ann Tryd.prog 0 true f15_c := (.seq (.leaf _) (.seq (.leaf _) (.seq (.seq (.leaf _) (.block (.piece _ _ _ (f15_p0_ok G hG)))) (.leaf _))))
noncomputable def f15_b (G : argsDen f15_ps → Option (argsDen f15_rs)) (hG : Sound Tryd.prog 15 (pfun G)) (y : argsDen f15_ps) : Option (argsDen f15_rs) := evFunA (f15_E G hG) Tryd.f15 (f15_a G hG) (encArgs f15_ps y) (decRes f15_rs)
theorem f15_bok (G : argsDen f15_ps → Option (argsDen f15_rs)) (hG : Sound Tryd.prog 15 (pfun G)) : Sound Tryd.prog 15 (pfun (f15_b G hG)) := sound_of (c := f15_c) (f15_E_okE G hG) (by kernel_rfl) (by kernel_rfl) (by kernel_rfl) (f15_a G hG) (fun _ => rfl)
theorem f15_has : ∃ fn, Tryd.prog.funcs[15]? = some fn ∧ (fn.name == "runtime.NumGoroutine") = false ∧ fn.body.isSome = true := ⟨Tryd.f15, by kernel_rfl, by kernel_rfl, by kernel_rfl⟩
noncomputable def f15_S : (n : Nat) → {F : argsDen f15_ps → Option (argsDen f15_rs) // Sound Tryd.prog 15 (pfun F)} := recF f15_has fun F h => ⟨f15_b F h, f15_bok F h⟩
noncomputable def f15_F : argsDen f15_ps → Option (argsDen f15_rs) := (f15_S recN).1
theorem f15_ok : Sound Tryd.prog 15 (pfun f15_F) := (f15_S recN).2
@[reducible] noncomputable def f75_c : Code := codeOf Tryd.f75
@[reducible] noncomputable def f75_E : Env := envOf Tryd.prog 25 [] []
theorem f75_E_okE : EnvOk Tryd.prog f75_E := envOf_ok _ _ _ mixed
@[reducible] noncomputable def f75_ps : List KD := [.one (.int .u8)]
@[reducible] noncomputable def f75_rs : List KD := [.one .bool]
@[reducible] noncomputable def f75_a : Ann Tryd.prog 0 true f75_c := (.leaf _)
noncomputable def f75_F (y : argsDen f75_ps) : Option (argsDen f75_rs) := evFunA f75_E Tryd.f75 f75_a (encArgs f75_ps y) (decRes f75_rs)
theorem f75_ok : Sound Tryd.prog 75 (pfun f75_F) := sound_of (c := f75_c) (f75_E_okE) (by kernel_rfl) (by kernel_rfl) (by kernel_rfl) f75_a (fun _ => rfl)
@[reducible] noncomputable def f99_c : Code := codeOf Tryd.f99
@[reducible] noncomputable def h99_E : Env := envOf Tryd.prog 25 [rowOf true f75_ok] []
theorem h99_E_okE : EnvOk Tryd.prog h99_E := envOf_ok _ _ _ mixed
@[reducible] noncomputable def h99_p0_sh : Shape := ⟨[.hole (.list (.int .u8)), .fn (.func 75) [] [], .dead, .dead, .dead, .dead, .dead, .hole (.int .i64), .hole (.int .i64), .dead, .dead, .dead, .dead, .dead, .dead, .dead, .dead, .dead, .dead], [], []⟩
@[reducible] noncomputable def h99_p0_o0 : Shape := ⟨[.dead, .dead, .dead, .dead, .dead, .dead, .dead, .dead, .dead, .dead, .dead, .dead, .dead, .dead, .dead, .dead, .dead, .dead, .dead], [], []⟩
@[reducible] noncomputable def h99_p0_o1 : Shape := ⟨[.dead, .dead, .dead, .dead, .hole (.int .i64), .dead, .dead, .dead, .dead, .dead, .dead, .dead, .dead, .dead, .dead, .dead, .dead, .dead, .dead], [], []⟩
@[reducible] noncomputable def h99_p0_outs : List (Ex × Shape) := [(.exit 0, h99_p0_o0), (.ret, h99_p0_o1)]
@[reducible] noncomputable def h99_p0_a : Ann Tryd.prog 0 true (f99_c.cr.cl.cr.cb.cb) := (.leaf _)
noncomputable def h99_p0_st (rec : h99_p0_sh.den → Option (OutDen h99_p0_outs)) (y : h99_p0_sh.den) : Option (OutDen h99_p0_outs) := evA h99_E h99_p0_a (fill h99_p0_sh y) fun ex st => match ex with | .normal => (abs h99_p0_sh st).bind rec | e => packOut h99_p0_outs e st
theorem h99_p0_ok : PieceSound Tryd.prog 0 true (.loop (f99_c.cr.cl.cr.cb.cb)) h99_p0_sh h99_p0_outs (go h99_p0_st) := go_of (h99_E_okE) h99_p0_a rfl rfl fun _ _ => rfl
@[reducible] noncomputable def h99_I : Shape := ⟨[.hole (.list (.int .u8)), .fn (.func 75) [] []], [], []⟩
@[reducible] noncomputable def h99_O : Shape := ⟨[.hole (.int .i64)], [], []⟩
@[reducible] noncomputable def h99_a : Ann Tryd.prog 0 true f99_c := (.seq (.leaf _) (.seq (.seq (.leaf _) (.block (.piece _ _ _ h99_p0_ok))) (.leaf _)))
noncomputable def h99_F (y : h99_I.den) : Option h99_O.den := evFunH h99_E Tryd.f99 h99_a h99_I h99_O y
theorem h99_ok : SoundH Tryd.prog 99 ⟨h99_I, h99_O, h99_F⟩ := sound_ofH (I := h99_I) (O := h99_O) (c := f99_c) (h99_E_okE) (by kernel_rfl) (by kernel_rfl) (by kernel_rfl) h99_a rfl (fun _ => rfl)
@[reducible] noncomputable def f74_c : Code := codeOf Tryd.f74
@[reducible] noncomputable def h74_E : Env := envOf Tryd.prog 25 [] [⟨99, _, h99_ok⟩]
theorem h74_E_okE : EnvOk Tryd.prog h74_E := envOf_ok _ _ _ mixed
@[reducible] noncomputable def h74_I : Shape := ⟨[.hole (.list (.int .u8)), .fn (.func 75) [] []], [], []⟩
@[reducible] noncomputable def h74_O : Shape := ⟨[.hole .bool], [], []⟩
@[reducible] noncomputable def h74_a : Ann Tryd.prog 0 true f74_c := (.leaf _)
noncomputable def h74_F (y : h74_I.den) : Option h74_O.den := evFunH h74_E Tryd.f74 h74_a h74_I h74_O y
theorem h74_ok : SoundH Tryd.prog 74 ⟨h74_I, h74_O, h74_F⟩ := sound_ofH (I := h74_I) (O := h74_O) (c := f74_c) (h74_E_okE) (by kernel_rfl) (by kernel_rfl) (by kernel_rfl) h74_a rfl (fun _ => rfl)
@[reducible] noncomputable def f57_c : Code := codeOf Tryd.f57
@[reducible] noncomputable def f57_E : Env := envOf Tryd.prog 25 [] [⟨74, _, h74_ok⟩]
theorem f57_E_okE : EnvOk Tryd.prog f57_E := envOf_ok _ _ _ mixed
@[reducible] noncomputable def f57_ps : List KD := [.one .str]
@[reducible] noncomputable def f57_rs : List KD := [.one .bool]
@[reducible] noncomputable def f57_a : Ann Tryd.prog 0 true f57_c := (.leaf _)
noncomputable def f57_F (y : argsDen f57_ps) : Option (argsDen f57_rs) := evFunA f57_E Tryd.f57 f57_a (encArgs f57_ps y) (decRes f57_rs)
theorem f57_ok : Sound Tryd.prog 57 (pfun f57_F) := sound_of (c := f57_c) (f57_E_okE) (by kernel_rfl) (by kernel_rfl) (by kernel_rfl) f57_a (fun _ => rfl)
@[reducible] noncomputable def f58_c : Code := codeOf Tryd.f58
@[reducible] noncomputable def f58_E : Env := envOf Tryd.prog 25 [rowOf true f57_ok] []
theorem f58_E_okE : EnvOk Tryd.prog f58_E := envOf_ok _ _ _ mixed
@[reducible] noncomputable def f58_p0_sh : Shape := ⟨[.hole (.list .str), .dead, .dead, .hole (.int .i64), .hole .str, .hole (.list .str), .hole (.int .i64), .hole (.int .i64), .dead, .dead, .dead, .dead, .dead, .dead, .dead, .dead, .dead, .dead, .dead, .dead, .dead, .dead, .dead, .dead, .dead, .dead, .dead, .dead, .dead], [], []⟩
@[reducible] noncomputable def f58_p0_o0 : Shape := ⟨[.hole (.list .str), .dead, .dead, .dead, .dead, .hole (.list .str), .hole (.int .i64), .hole (.int .i64), .dead, .dead, .dead, .dead, .dead, .dead, .dead, .dead, .dead, .dead, .dead, .dead, .dead, .dead, .dead, .dead, .dead, .dead, .dead, .hole .bool, .dead], [], []⟩
@[reducible] noncomputable def f58_p0_outs : List (Ex × Shape) := [(.normal, f58_p0_o0)]
@[reducible] noncomputable def f58_p0_a : Ann Tryd.prog 0 true (f58_c.cr.cl.cr.cb.cb.cr.cr.cl.cb.cr.cl) := (.leaf _)
noncomputable def f58_p0_F (y : f58_p0_sh.den) : Option (OutDen f58_p0_outs) := evA f58_E f58_p0_a (fill f58_p0_sh y) (packOut f58_p0_outs)
theorem f58_p0_ok : PieceSound Tryd.prog 0 true (f58_c.cr.cl.cr.cb.cb.cr.cr.cl.cb.cr.cl) f58_p0_sh f58_p0_outs f58_p0_F := piece_of (f58_E_okE) f58_p0_a rfl rfl fun _ => rfl
@[reducible] noncomputable def f58_p1_sh : Shape := ⟨[.hole (.list .str), .dead, .dead, .dead, .dead, .hole (.list .str), .hole (.int .i64), .hole (.int .i64), .dead, .dead, .dead, .dead, .dead, .dead, .dead, .dead, .dead, .dead, .dead, .dead, .dead, .dead, .dead, .dead, .dead, .dead, .dead, .dead, .dead], [], []⟩
@[reducible] noncomputable def f58_p1_o0 : Shape := ⟨[.dead, .dead, .dead, .dead, .dead, .dead, .dead, .dead, .dead, .dead, .dead, .dead, .dead, .dead, .dead, .dead, .dead, .dead, .dead, .dead, .dead, .dead, .dead, .dead, .dead, .dead, .dead, .dead, .dead], [], []⟩
@[reducible] noncomputable def f58_p1_o1 : Shape := ⟨[.dead, .dead, .hole .bool, .dead, .dead, .dead, .dead, .dead, .dead, .dead, .dead, .dead, .dead, .dead, .dead, .dead, .dead, .dead, .dead, .dead, .dead, .dead, .dead, .dead, .dead, .dead, .dead, .dead, .dead], [], []⟩
@[reducible] noncomputable def f58_p1_outs : List (Ex × Shape) := [(.exit 0, f58_p1_o0), (.ret, f58_p1_o1)]
@[reducible] noncomputable def f58_p1_a : Ann Tryd.prog 0 true (f58_c.cr.cl.cr.cb.cb) := (.seq (.leaf _) (.seq (.leaf _) (.seq (.block (.seq (.leaf _) (.seq (.piece _ _ _ f58_p0_ok) (.leaf _)))) (.leaf _))))
noncomputable def f58_p1_st (rec : f58_p1_sh.den → Option (OutDen f58_p1_outs)) (y : f58_p1_sh.den) : Option (OutDen f58_p1_outs) := evA f58_E f58_p1_a (fill f58_p1_sh y) fun ex st => match ex with | .normal => (abs f58_p1_sh st).bind rec | e => packOut f58_p1_outs e st
theorem f58_p1_ok : PieceSound Tryd.prog 0 true (.loop (f58_c.cr.cl.cr.cb.cb)) f58_p1_sh f58_p1_outs (go f58_p1_st) := go_of (f58_E_okE) f58_p1_a rfl rfl fun _ _ => rfl
@[reducible] noncomputable def f58_ps : List KD := [.one (.list .str)]
@[reducible] noncomputable def f58_rs : List KD := [.one .bool]
@[reducible] noncomputable def f58_a : Ann Tryd.prog 0 true f58_c := (.seq (.leaf _) (.seq (.seq (.leaf _) (.block (.piece _ _ _ f58_p1_ok))) (.leaf _)))
noncomputable def f58_F (y : argsDen f58_ps) : Option (argsDen f58_rs) := evFunA f58_E Tryd.f58 f58_a (encArgs f58_ps y) (decRes f58_rs)
theorem f58_ok : Sound Tryd.prog 58 (pfun f58_F) := sound_of (c := f58_c) (f58_E_okE) (by kernel_rfl) (by kernel_rfl) (by kernel_rfl) f58_a (fun _ => rfl)
@[reducible] noncomputable def f37_c : Code := codeOf Tryd.f37
@[reducible] noncomputable def f37_E : Env := envOf Tryd.prog 25 [rowOf true f57_ok, rowOf true f58_ok] []
theorem f37_E_okE : EnvOk Tryd.prog f37_E := envOf_ok _ _ _ mixed
@[reducible] noncomputable def f37_p0_sh : Shape := ⟨[.dead, .ptr 0 0, .dead, .dead, .dead, .dead, .dead, .dead, .dead, .dead, .dead, .dead, .dead, .dead, .dead, .dead, .dead, .dead, .dead, .dead, .dead, .dead, .dead, .dead, .dead, .dead, .dead, .dead, .dead, .dead, .dead, .dead, .dead, .dead, .dead, .dead, .dead, .dead, .dead, .dead, .dead, .dead, .dead, .dead, .dead, .dead, .dead, .dead, .dead, .dead, .dead, .dead, .dead, .dead, .dead, .dead, .dead, .dead, .dead, .dead, .dead, .dead, .dead, .hole .bool, .dead, .dead, .dead, .dead, .dead, .dead, .dead, .dead, .dead, .dead, .dead, .dead, .dead, .dead, .dead, .dead, .dead, .dead, .dead, .dead, .dead, .dead, .dead], [some [.hole (.int .i64), .hole (.int .i64), .hole .str, .hole (.list .value), .hole (.list .str)]], []⟩
@[reducible] noncomputable def f37_p0_o0 : Shape := ⟨[.dead, .dead, .hole .bool, .dead, .dead, .dead, .dead, .dead, .dead, .dead, .dead, .dead, .dead, .dead, .dead, .dead, .dead, .dead, .dead, .dead, .dead, .dead, .dead, .dead, .dead, .dead, .dead, .dead, .dead, .dead, .dead, .dead, .dead, .dead, .dead, .dead, .dead, .dead, .dead, .dead, .dead, .dead, .dead, .dead, .dead, .dead, .dead, .dead, .dead, .dead, .dead, .dead, .dead, .dead, .dead, .dead, .dead, .dead, .dead, .dead, .dead, .dead, .dead, .dead, .dead, .dead, .dead, .dead, .dead, .dead, .dead, .dead, .dead, .dead, .dead, .dead, .dead, .dead, .dead, .dead, .dead, .dead, .dead, .dead, .dead, .dead, .dead], [], []⟩
@[reducible] noncomputable def f37_p0_o1 : Shape := ⟨[.dead, .dead, .dead, .dead, .dead, .dead, .dead, .dead, .dead, .dead, .dead, .dead, .dead, .dead, .dead, .dead, .dead, .dead, .dead, .dead, .dead, .dead, .dead, .dead, .dead, .dead, .dead, .dead, .dead, .dead, .dead, .dead, .dead, .dead, .dead, .dead, .dead, .dead, .dead, .dead, .dead, .dead, .dead, .dead, .dead, .dead, .dead, .dead, .dead, .dead, .dead, .dead, .dead, .dead, .dead, .dead, .dead, .dead, .dead, .dead, .dead, .dead, .dead, .dead, .dead, .dead, .dead, .dead, .dead, .dead, .dead, .dead, .dead, .dead, .dead, .dead, .dead, .dead, .dead, .dead, .dead, .dead, .dead, .dead, .dead, .dead, .dead], [], []⟩
@[reducible] noncomputable def f37_p0_outs : List (Ex × Shape) := [(.ret, f37_p0_o0), (.normal, f37_p0_o1)]
@[reducible] noncomputable def f37_p0_a : Ann Tryd.prog 0 true (f37_c.cr.cr.cl.cr.cb.cr.ce.cr.ce.cr.ce.cr) := (.leaf _)
noncomputable def f37_p0_F (y : f37_p0_sh.den) : Option (OutDen f37_p0_outs) := evA f37_E f37_p0_a (fill f37_p0_sh y) (packOut f37_p0_outs)
theorem f37_p0_ok : PieceSound Tryd.prog 0 true (f37_c.cr.cr.cl.cr.cb.cr.ce.cr.ce.cr.ce.cr) f37_p0_sh f37_p0_outs f37_p0_F := piece_of (f37_E_okE) f37_p0_a rfl rfl fun _ => rfl
@[reducible] noncomputable def f37_p1_sh : Shape := ⟨[.dead, .ptr 0 0, .dead, .dead, .dead, .dead, .dead, .dead, .dead, .dead, .dead, .dead, .dead, .dead, .dead, .dead, .dead, .dead, .dead, .dead, .dead, .dead, .dead, .dead, .dead, .dead, .dead, .dead, .dead, .dead, .dead, .dead, .dead, .dead, .dead, .dead, .dead, .dead, .dead, .dead, .dead, .dead, .dead, .dead, .dead, .dead, .dead, .dead, .dead, .dead, .dead, .dead, .dead, .dead, .dead, .dead, .dead, .dead, .dead, .dead, .dead, .dead, .dead, .dead, .dead, .dead, .dead, .dead, .dead, .dead, .dead, .dead, .dead, .dead, .dead, .dead, .dead, .dead, .dead, .dead, .dead, .dead, .dead, .dead, .dead, .dead, .dead], [some [.hole (.int .i64), .hole (.int .i64), .hole .str, .hole (.list .value), .hole (.list .str)]], []⟩
@[reducible] noncomputable def f37_p1_o0 : Shape := ⟨[.dead, .ptr 0 0, .dead, .hole .bool, .dead, .dead, .dead, .dead, .dead, .dead, .dead, .dead, .dead, .dead, .dead, .dead, .dead, .dead, .dead, .dead, .dead, .dead, .dead, .dead, .dead, .dead, .dead, .dead, .dead, .dead, .dead, .dead, .dead, .dead, .dead, .dead, .dead, .dead, .dead, .dead, .dead, .dead, .dead, .dead, .dead, .dead, .dead, .dead, .dead, .dead, .dead, .dead, .dead, .dead, .dead, .dead, .dead, .dead, .dead, .dead, .dead, .dead, .dead, .dead, .dead, .dead, .dead, .dead, .dead, .dead, .dead, .dead, .dead, .dead, .dead, .dead, .dead, .dead, .dead, .dead, .dead, .dead, .dead, .dead, .dead, .dead, .dead], [some [.hole (.int .i64), .hole (.int .i64), .hole .str, .hole (.list .value), .hole (.list .str)]], []⟩
@[reducible] noncomputable def f37_p1_outs : List (Ex × Shape) := [(.normal, f37_p1_o0)]
@[reducible] noncomputable def f37_p1_a : Ann Tryd.prog 0 true (f37_c.cr.cl) := (.leaf _)
noncomputable def f37_p1_F (y : f37_p1_sh.den) : Option (OutDen f37_p1_outs) := evA f37_E f37_p1_a (fill f37_p1_sh y) (packOut f37_p1_outs)
theorem f37_p1_ok : PieceSound Tryd.prog 0 true (f37_c.cr.cl) f37_p1_sh f37_p1_outs f37_p1_F := piece_of (f37_E_okE) f37_p1_a rfl rfl fun _ => rfl
@[reducible] noncomputable def f37_ps : List KD := [.agg [(.int .i64), (.int .i64), .str, (.list .value), (.list .str)]]
@[reducible] noncomputable def f37_rs : List KD := [.one .bool]
@[reducible] noncomputable def f37_a : Ann Tryd.prog 0 true f37_c := (.seq (.leaf _) (.seq (.piece _ _ _ f37_p1_ok) (.seq (.seq (.leaf _) (.block (.seq (.leaf _) (.cond (.leaf _) (.seq (.leaf _) (.cond (.leaf _) (.seq (.leaf _) (.cond (.leaf _) (.seq (.leaf _) (.piece _ _ _ f37_p0_ok)))))))))) (.leaf _))))
noncomputable def f37_F (y : argsDen f37_ps) : Option (argsDen f37_rs) := evFunA f37_E Tryd.f37 f37_a (encArgs f37_ps y) (decRes f37_rs)
theorem f37_ok : Sound Tryd.prog 37 (pfun f37_F) := sound_of (c := f37_c) (f37_E_okE) (by kernel_rfl) (by kernel_rfl) (by kernel_rfl) f37_a (fun _ => rfl)
@[reducible] noncomputable def h36_I : Shape := ⟨[.agg [.hole (.int .i64), .hole (.int .i64), .hole .str, .hole (.list .value), .hole (.list .str)], .fn (.func 37) [] []], [], []⟩
@[reducible] noncomputable def h36_O : Shape := ⟨[.hole .bool], [], []⟩
@[reducible] noncomputable def f56_c : Code := codeOf Tryd.f56
@[reducible] noncomputable def h56_E (G : h36_I.den → Option h36_O.den) (hG : SoundH Tryd.prog 36 ⟨h36_I, h36_O, G⟩) : Env := envOf Tryd.prog 25 [] [⟨36, _, hG⟩]
theorem h56_E_okE (G : h36_I.den → Option h36_O.den) (hG : SoundH Tryd.prog 36 ⟨h36_I, h36_O, G⟩) : EnvOk Tryd.prog (h56_E G hG) := envOf_ok _ _ _ mixed
@[reducible] noncomputable def h56_I : Shape := ⟨[.agg [.hole (.int .i64), .hole (.int .i64), .hole .str, .hole (.list .value), .hole (.list .str)], .ptr 0 0], [some [.fn (.func 37) [] []]], []⟩
@[reducible] noncomputable def h56_O : Shape := ⟨[.hole .bool], [some [.fn (.func 37) [] []]], []⟩
@[reducible] noncomputable def h56_a (G : h36_I.den → Option h36_O.den) (hG : SoundH Tryd.prog 36 ⟨h36_I, h36_O, G⟩) : Ann Tryd.prog 1 true f56_c := (.leaf _)
noncomputable def h56_F (G : h36_I.den → Option h36_O.den) (hG : SoundH Tryd.prog 36 ⟨h36_I, h36_O, G⟩) (y : h56_I.den) : Option h56_O.den := evFunH (h56_E G hG) Tryd.f56 (h56_a G hG) h56_I h56_O y
theorem h56_ok (G : h36_I.den → Option h36_O.den) (hG : SoundH Tryd.prog 36 ⟨h36_I, h36_O, G⟩) : SoundH Tryd.prog 56 ⟨h56_I, h56_O, (h56_F G hG)⟩ := sound_ofH (I := h56_I) (O := h56_O) (c := f56_c) (h56_E_okE G hG) (by kernel_rfl) (by kernel_rfl) (by kernel_rfl) (h56_a G hG) rfl (fun _ => rfl)
@[reducible] noncomputable def f73_c : Code := codeOf Tryd.f73
@[reducible] noncomputable def h73_E (G : h36_I.den → Option h36_O.den) (hG : SoundH Tryd.prog 36 ⟨h36_I, h36_O, G⟩) : Env := envOf Tryd.prog 25 [] [⟨56, _, (h56_ok G hG)⟩]
theorem h73_E_okE (G : h36_I.den → Option h36_O.den) (hG : SoundH Tryd.prog 36 ⟨h36_I, h36_O, G⟩) : EnvOk Tryd.prog (h73_E G hG) := envOf_ok _ _ _ mixed
@[reducible] noncomputable def h73_p0_sh : Shape := ⟨[.hole (.list .value), .fn (.func 56) [] [.ptr 0 0], .dead, .dead, .dead, .dead, .dead, .hole (.int .i64), .hole (.int .i64), .dead, .dead, .dead, .dead, .dead, .dead, .dead, .dead, .dead, .dead], [some [.fn (.func 37) [] []]], []⟩
@[reducible] noncomputable def h73_p0_o0 : Shape := ⟨[.dead, .dead, .dead, .dead, .dead, .dead, .dead, .dead, .dead, .dead, .dead, .dead, .dead, .dead, .dead, .dead, .dead, .dead, .dead], [some [.fn (.func 37) [] []]], []⟩
@[reducible] noncomputable def h73_p0_o1 : Shape := ⟨[.dead, .dead, .dead, .dead, .hole (.int .i64), .dead, .dead, .dead, .dead, .dead, .dead, .dead, .dead, .dead, .dead, .dead, .dead, .dead, .dead], [some [.fn (.func 37) [] []]], []⟩
@[reducible] noncomputable def h73_p0_outs : List (Ex × Shape) := [(.exit 0, h73_p0_o0), (.ret, h73_p0_o1)]
@[reducible] noncomputable def h73_p0_a (G : h36_I.den → Option h36_O.den) (hG : SoundH Tryd.prog 36 ⟨h36_I, h36_O, G⟩) : Ann Tryd.prog 1 true (f73_c.cr.cl.cr.cb.cb) := (.leaf _)
noncomputable def h73_p0_st (G : h36_I.den → Option h36_O.den) (hG : SoundH Tryd.prog 36 ⟨h36_I, h36_O, G⟩) (rec : h73_p0_sh.den → Option (OutDen h73_p0_outs)) (y : h73_p0_sh.den) : Option (OutDen h73_p0_outs) := evA (h73_E G hG) (h73_p0_a G hG) (fill h73_p0_sh y) fun ex st => match ex with | .normal => (abs h73_p0_sh st).bind rec | e => packOut h73_p0_outs e st
theorem h73_p0_ok (G : h36_I.den → Option h36_O.den) (hG : SoundH Tryd.prog 36 ⟨h36_I, h36_O, G⟩) : PieceSound Tryd.prog 1 true (.loop (f73_c.cr.cl.cr.cb.cb)) h73_p0_sh h73_p0_outs (go (h73_p0_st G hG)) := go_of (h73_E_okE G hG) (h73_p0_a G hG) rfl rfl fun _ _ => rfl
@[reducible] noncomputable def h73_I : Shape := ⟨[.hole (.list .value), .fn (.func 56) [] [.ptr 0 0]], [some [.fn (.func 37) [] []]], []⟩
@[reducible] noncomputable def h73_O : Shape := ⟨[.hole (.int .i64)], [some [.fn (.func 37) [] []]], []⟩
@[reducible] noncomputable def h73_a (G : h36_I.den → Option h36_O.den) (hG : SoundH Tryd.prog 36 ⟨h36_I, h36_O, G⟩) : Ann Tryd.prog 1 true f73_c := (.seq (.leaf _) (.seq (.seq (.leaf _) (.block (.piece _ _ _ (h73_p0_ok G hG)))) (.leaf _)))
noncomputable def h73_F (G : h36_I.den → Option h36_O.den) (hG : SoundH Tryd.prog 36 ⟨h36_I, h36_O, G⟩) (y : h73_I.den) : Option h73_O.den := evFunH (h73_E G hG) Tryd.f73 (h73_a G hG) h73_I h73_O y
theorem h73_ok (G : h36_I.den → Option h36_O.den) (hG : SoundH Tryd.prog 36 ⟨h36_I, h36_O, G⟩) : SoundH Tryd.prog 73 ⟨h73_I, h73_O, (h73_F G hG)⟩ := sound_ofH (I := h73_I) (O := h73_O) (c := f73_c) (h73_E_okE G hG) (by kernel_rfl) (by kernel_rfl) (by kernel_rfl) (h73_a G hG) rfl (fun _ => rfl)
@[reducible] noncomputable def f55_c : Code := codeOf Tryd.f55
@[reducible] noncomputable def h55_E (G : h36_I.den → Option h36_O.den) (hG : SoundH Tryd.prog 36 ⟨h36_I, h36_O, G⟩) : Env := envOf Tryd.prog 25 [] [⟨73, _, (h73_ok G hG)⟩]
theorem h55_E_okE (G : h36_I.den → Option h36_O.den) (hG : SoundH Tryd.prog 36 ⟨h36_I, h36_O, G⟩) : EnvOk Tryd.prog (h55_E G hG) := envOf_ok _ _ _ mixed
@[reducible] noncomputable def h55_I : Shape := ⟨[.hole (.list .value), .fn (.func 56) [] [.ptr 0 0]], [some [.fn (.func 37) [] []]], []⟩
@[reducible] noncomputable def h55_O : Shape := ⟨[.hole .bool], [some [.fn (.func 37) [] []]], []⟩
@[reducible] noncomputable def h55_a (G : h36_I.den → Option h36_O.den) (hG : SoundH Tryd.prog 36 ⟨h36_I, h36_O, G⟩) : Ann Tryd.prog 1 true f55_c := (.leaf _)
noncomputable def h55_F (G : h36_I.den → Option h36_O.den) (hG : SoundH Tryd.prog 36 ⟨h36_I, h36_O, G⟩) (y : h55_I.den) : Option h55_O.den := evFunH (h55_E G hG) Tryd.f55 (h55_a G hG) h55_I h55_O y
theorem h55_ok (G : h36_I.den → Option h36_O.den) (hG : SoundH Tryd.prog 36 ⟨h36_I, h36_O, G⟩) : SoundH Tryd.prog 55 ⟨h55_I, h55_O, (h55_F G hG)⟩ := sound_ofH (I := h55_I) (O := h55_O) (c := f55_c) (h55_E_okE G hG) (by kernel_rfl) (by kernel_rfl) (by kernel_rfl) (h55_a G hG) rfl (fun _ => rfl)
@[reducible] noncomputable def f36_c : Code := codeOf Tryd.f36
@[reducible] noncomputable def h36_E (G : h36_I.den → Option h36_O.den) (hG : SoundH Tryd.prog 36 ⟨h36_I, h36_O, G⟩) : Env := envOf Tryd.prog 25 [rowOf true f37_ok] [⟨55, _, (h55_ok G hG)⟩]
theorem h36_E_okE (G : h36_I.den → Option h36_O.den) (hG : SoundH Tryd.prog 36 ⟨h36_I, h36_O, G⟩) : EnvOk Tryd.prog (h36_E G hG) := envOf_ok _ _ _ mixed
@[reducible] noncomputable def h36_a (G : h36_I.den → Option h36_O.den) (hG : SoundH Tryd.prog 36 ⟨h36_I, h36_O, G⟩) : Ann Tryd.prog 0 true f36_c := (.leaf _)
noncomputable def h36_b (G : h36_I.den → Option h36_O.den) (hG : SoundH Tryd.prog 36 ⟨h36_I, h36_O, G⟩) (y : h36_I.den) : Option h36_O.den := evFunH (h36_E G hG) Tryd.f36 (h36_a G hG) h36_I h36_O y
theorem h36_bok (G : h36_I.den → Option h36_O.den) (hG : SoundH Tryd.prog 36 ⟨h36_I, h36_O, G⟩) : SoundH Tryd.prog 36 ⟨h36_I, h36_O, (h36_b G hG)⟩ := sound_ofH (I := h36_I) (O := h36_O) (c := f36_c) (h36_E_okE G hG) (by kernel_rfl) (by kernel_rfl) (by kernel_rfl) (h36_a G hG) rfl (fun _ => rfl)
theorem h36_has : ∃ fn, Tryd.prog.funcs[36]? = some fn ∧ (fn.name == "runtime.NumGoroutine") = false ∧ fn.body.isSome = true := ⟨Tryd.f36, by kernel_rfl, by kernel_rfl, by kernel_rfl⟩
noncomputable def h36_S : (n : Nat) → {F : h36_I.den → Option h36_O.den // SoundH Tryd.prog 36 ⟨h36_I, h36_O, F⟩} := recH h36_has fun F h => ⟨h36_b F h, h36_bok F h⟩
noncomputable def h36_F : h36_I.den → Option h36_O.den := (h36_S recN).1
theorem h36_ok : SoundH Tryd.prog 36 ⟨h36_I, h36_O, h36_F⟩ := (h36_S recN).2
@[reducible] noncomputable def f19_c : Code := codeOf Tryd.f19
@[reducible] noncomputable def f19_E : Env := envOf Tryd.prog 25 [rowOf true f17_ok, rowOf true f15_ok] [⟨36, _, h36_ok⟩]
theorem f19_E_okE : EnvOk Tryd.prog f19_E := envOf_ok _ _ _ mixed
@[reducible] noncomputable def f19_ps : List KD := [.agg [(.int .i64), (.int .i64), .str, (.list .value), (.list .str)]]
@[reducible] noncomputable def f19_rs : List KD := [.one .bool]
@[reducible] noncomputable def f19_a : Ann Tryd.prog 0 true f19_c := (.leaf _)
noncomputable def f19_F (y : argsDen f19_ps) : Option (argsDen f19_rs) := evFunA f19_E Tryd.f19 f19_a (encArgs f19_ps y) (decRes f19_rs)
theorem f19_ok : Sound Tryd.prog 19 (pfun f19_F) := sound_of (c := f19_c) (f19_E_okE) (by kernel_rfl) (by kernel_rfl) (by kernel_rfl) f19_a (fun _ => rfl)
@[reducible] noncomputable def f53_c : Code := codeOf Tryd.f53
@[reducible] noncomputable def h53_E : Env := envOf Tryd.prog 25 [] [⟨71, _, copy_ok⟩]
theorem h53_E_okE : EnvOk Tryd.prog h53_E := envOf_ok _ _ _ mixed
@[reducible] noncomputable def h53_I : Shape := ⟨[.ptr 0 0, .hole .str], [some [.bld 0, .nilS]], []⟩
@[reducible] noncomputable def h53_O : Shape := ⟨[.hole (.int .i64), .dead], [some [.bld 0, .whole 0]], [some (.int .u8)]⟩
@[reducible] noncomputable def h53_a : Ann Tryd.prog 1 true f53_c := (.leaf _)
noncomputable def h53_F (y : h53_I.den) : Option h53_O.den := evFunH h53_E Tryd.f53 h53_a h53_I h53_O y
theorem h53_ok : SoundH Tryd.prog 53 ⟨h53_I, h53_O, h53_F⟩ := sound_ofH (I := h53_I) (O := h53_O) (c := f53_c) (h53_E_okE) (by kernel_rfl) (by kernel_rfl) (by kernel_rfl) h53_a rfl (fun _ => rfl)
@[reducible] noncomputable def f54_c : Code := codeOf Tryd.f54
@[reducible] noncomputable def f54_E : Env := envOf Tryd.prog 25 [rowOf true replace_ok] []
theorem f54_E_okE : EnvOk Tryd.prog f54_E := envOf_ok _ _ _ mixed
@[reducible] noncomputable def f54_ps : List KD := [.one .str]
@[reducible] noncomputable def f54_rs : List KD := [.one .str]
@[reducible] noncomputable def f54_a : Ann Tryd.prog 0 true f54_c := (.leaf _)
noncomputable def f54_F (y : argsDen f54_ps) : Option (argsDen f54_rs) := evFunA f54_E Tryd.f54 f54_a (encArgs f54_ps y) (decRes f54_rs)
theorem f54_ok : Sound Tryd.prog 54 (pfun f54_F) := sound_of (c := f54_c) (f54_E_okE) (by kernel_rfl) (by kernel_rfl) (by kernel_rfl) f54_a (fun _ => rfl)
@[reducible] noncomputable def h53a_E : Env := envOf Tryd.prog 25 [] [⟨71, _, copy_ok⟩]
theorem h53a_E_okE : EnvOk Tryd.prog h53a_E := envOf_ok _ _ _ mixed
@[reducible] noncomputable def h53a_I : Shape := ⟨[.ptr 0 0, .hole .str], [some [.bld 0, .whole 0]], [some (.int .u8)]⟩
@[reducible] noncomputable def h53a_O : Shape := ⟨[.hole (.int .i64), .dead], [some [.bld 0, .whole 0]], [some (.int .u8)]⟩
@[reducible] noncomputable def h53a_a : Ann Tryd.prog 1 true f53_c := (.leaf _)
noncomputable def h53a_F (y : h53a_I.den) : Option h53a_O.den := evFunH h53a_E Tryd.f53 h53a_a h53a_I h53a_O y
theorem h53a_ok : SoundH Tryd.prog 53 ⟨h53a_I, h53a_O, h53a_F⟩ := sound_ofH (I := h53a_I) (O := h53a_O) (c := f53_c) (h53a_E_okE) (by kernel_rfl) (by kernel_rfl) (by kernel_rfl) h53a_a rfl (fun _ => rfl)
@[reducible] noncomputable def h34a_I : Shape := ⟨[.ptr 0 0, .agg [.hole (.int .i64), .hole (.int .i64), .hole .str, .hole (.list .value), .hole (.list .str)]], [some [.bld 0, .whole 0]], [some (.int .u8)]⟩
@[reducible] noncomputable def h34a_O : Shape := ⟨[], [some [.bld 0, .whole 0]], [some (.int .u8)]⟩
@[reducible] noncomputable def f34_c : Code := codeOf Tryd.f34
@[reducible] noncomputable def h34a_E (G : h34a_I.den → Option h34a_O.den) (hG : SoundH Tryd.prog 34 ⟨h34a_I, h34a_O, G⟩) : Env := envOf Tryd.prog 25 [rowOf true format_ok, rowOf true f54_ok] [⟨53, _, h53a_ok⟩, ⟨34, _, hG⟩]
theorem h34a_E_okE (G : h34a_I.den → Option h34a_O.den) (hG : SoundH Tryd.prog 34 ⟨h34a_I, h34a_O, G⟩) : EnvOk Tryd.prog (h34a_E G hG) := envOf_ok _ _ _ mixed
@[reducible] noncomputable def h34a_p0_sh : Shape := ⟨[.ptr 0 0, .dead, .dead, .ptr 1 0, .hole .str, .hole (.int .i64), .ptr 2 0, .dead, .dead, .dead, .dead, .dead, .dead, .dead, .dead, .dead, .dead, .dead, .dead, .dead, .dead, .dead, .dead, .dead, .dead, .dead, .dead, .dead, .dead, .dead, .dead, .hole (.list .value), .hole (.int .i64), .hole (.int .i64), .dead, .dead, .dead, .dead, .dead, .dead, .dead, .dead, .dead, .dead, .dead, .dead, .dead, .dead, .dead, .dead, .dead, .dead, .dead, .dead, .dead, .dead, .dead, .dead, .dead, .dead, .dead, .dead, .dead], [some [.bld 0, .whole 0], some [.hole (.int .i64), .hole (.int .i64), .hole .str, .hole (.list .value), .hole (.list .str)], some [.hole (.int .i64), .hole (.int .i64), .hole .str, .hole (.list .value), .hole (.list .str)]], [some (.int .u8)]⟩
@[reducible] noncomputable def h34a_p0_o0 : Shape := ⟨[.ptr 0 0, .dead, .dead, .ptr 1 0, .hole .str, .dead, .ptr 2 0, .dead, .dead, .dead, .dead, .dead, .dead, .dead, .dead, .dead, .dead, .dead, .dead, .dead, .dead, .dead, .dead, .dead, .dead, .dead, .dead, .dead, .dead, .dead, .dead, .hole (.list .value), .hole (.int .i64), .hole (.int .i64), .dead, .dead, .dead, .dead, .dead, .dead, .dead, .dead, .dead, .dead, .dead, .dead, .dead, .dead, .dead, .dead, .dead, .dead, .dead, .dead, .dead, .dead, .dead, .dead, .dead, .dead, .dead, .dead, .dead], [some [.bld 0, .whole 0], some [.hole (.int .i64), .hole (.int .i64), .hole .str, .hole (.list .value), .hole (.list .str)], some [.hole (.int .i64), .hole (.int .i64), .hole .str, .hole (.list .value), .hole (.list .str)]], [some (.int .u8)]⟩
@[reducible] noncomputable def h34a_p0_outs : List (Ex × Shape) := [(.normal, h34a_p0_o0)]
@[reducible] noncomputable def h34a_p0_a (G : h34a_I.den → Option h34a_O.den) (hG : SoundH Tryd.prog 34 ⟨h34a_I, h34a_O, G⟩) : Ann Tryd.prog 1 true (f34_c.cr.cr.cr.cr.cr.cl.cr.cb.cb.cr.cr.cl.cb.cr.cr.cl) := (.leaf _)
noncomputable def h34a_p0_F (G : h34a_I.den → Option h34a_O.den) (hG : SoundH Tryd.prog 34 ⟨h34a_I, h34a_O, G⟩) (y : h34a_p0_sh.den) : Option (OutDen h34a_p0_outs) := evA (h34a_E G hG) (h34a_p0_a G hG) (fill h34a_p0_sh y) (packOut h34a_p0_outs)
theorem h34a_p0_ok (G : h34a_I.den → Option h34a_O.den) (hG : SoundH Tryd.prog 34 ⟨h34a_I, h34a_O, G⟩) : PieceSound Tryd.prog 1 true (f34_c.cr.cr.cr.cr.cr.cl.cr.cb.cb.cr.cr.cl.cb.cr.cr.cl) h34a_p0_sh h34a_p0_outs (h34a_p0_F G hG) := piece_of (h34a_E_okE G hG) (h34a_p0_a G hG) rfl rfl fun _ => rfl
@[reducible] noncomputable def h34a_p1_sh : Shape := ⟨[.ptr 0 0, .dead, .dead, .ptr 1 0, .hole .str, .hole (.int .i64), .ptr 2 0, .dead, .dead, .dead, .dead, .dead, .dead, .dead, .dead, .dead, .dead, .dead, .dead, .dead, .dead, .dead, .dead, .dead, .dead, .dead, .dead, .dead, .dead, .dead, .dead, .hole (.list .value), .hole (.int .i64), .hole (.int .i64), .dead, .dead, .dead, .dead, .dead, .dead, .dead, .dead, .dead, .dead, .dead, .dead, .dead, .dead, .dead, .dead, .dead, .dead, .dead, .dead, .dead, .dead, .dead, .dead, .dead, .dead, .dead, .dead, .dead], [some [.bld 0, .whole 0], some [.hole (.int .i64), .hole (.int .i64), .hole .str, .hole (.list .value), .hole (.list .str)], some [.hole (.int .i64), .hole (.int .i64), .hole .str, .hole (.list .value), .hole (.list .str)]], [some (.int .u8)]⟩
@[reducible] noncomputable def h34a_p1_o0 : Shape := ⟨[.ptr 0 0, .dead, .dead, .ptr 1 0, .hole .str, .hole (.int .i64), .ptr 2 0, .dead, .dead, .dead, .dead, .dead, .dead, .dead, .dead, .dead, .dead, .dead, .dead, .dead, .dead, .dead, .dead, .dead, .dead, .dead, .dead, .dead, .dead, .dead, .dead, .hole (.list .value), .hole (.int .i64), .hole (.int .i64), .dead, .dead, .dead, .dead, .dead, .dead, .dead, .dead, .dead, .dead, .dead, .dead, .dead, .dead, .dead, .dead, .dead, .dead, .dead, .dead, .dead, .dead, .dead, .dead, .dead, .dead, .dead, .dead, .dead], [some [.bld 0, .whole 0], some [.hole (.int .i64), .hole (.int .i64), .hole .str, .hole (.list .value), .hole (.list .str)], some [.hole (.int .i64), .hole (.int .i64), .hole .str, .hole (.list .value), .hole (.list .str)]], [some (.int .u8)]⟩
@[reducible] noncomputable def h34a_p1_outs : List (Ex × Shape) := [(.normal, h34a_p1_o0)]
@[reducible] noncomputable def h34a_p1_a (G : h34a_I.den → Option h34a_O.den) (hG : SoundH Tryd.prog 34 ⟨h34a_I, h34a_O, G⟩) : Ann Tryd.prog 1 true (f34_c.cr.cr.cr.cr.cr.cl.cr.cb.cb.cr.cr.cl.cb.cr.cl) := (.leaf _)
noncomputable def h34a_p1_F (G : h34a_I.den → Option h34a_O.den) (hG : SoundH Tryd.prog 34 ⟨h34a_I, h34a_O, G⟩) (y : h34a_p1_sh.den) : Option (OutDen h34a_p1_outs) := evA (h34a_E G hG) (h34a_p1_a G hG) (fill h34a_p1_sh y) (packOut h34a_p1_outs)
theorem h34a_p1_ok (G : h34a_I.den → Option h34a_O.den) (hG : SoundH Tryd.prog 34 ⟨h34a_I, h34a_O, G⟩) : PieceSound Tryd.prog 1 true (f34_c.cr.cr.cr.cr.cr.cl.cr.cb.cb.cr.cr.cl.cb.cr.cl) h34a_p1_sh h34a_p1_outs (h34a_p1_F G hG) := piece_of (h34a_E_okE G hG) (h34a_p1_a G hG) rfl rfl fun _ => rfl
@[reducible] noncomputable def h34a_p2_sh : Shape := ⟨[.ptr 0 0, .dead, .dead, .ptr 1 0, .hole .str, .dead, .dead, .dead, .dead, .dead, .dead, .dead, .dead, .dead, .dead, .dead, .dead, .dead, .dead, .dead, .dead, .dead, .dead, .dead, .dead, .dead, .dead, .dead, .dead, .dead, .dead, .hole (.list .value), .hole (.int .i64), .hole (.int .i64), .dead, .dead, .dead, .dead, .dead, .dead, .dead, .dead, .dead, .dead, .dead, .dead, .dead, .dead, .dead, .dead, .dead, .dead, .dead, .dead, .dead, .dead, .dead, .dead, .dead, .dead, .dead, .dead, .dead], [some [.bld 0, .whole 0], some [.hole (.int .i64), .hole (.int .i64), .hole .str, .hole (.list .value), .hole (.list .str)]], [some (.int .u8)]⟩
@[reducible] noncomputable def h34a_p2_o0 : Shape := ⟨[.ptr 0 0, .dead, .dead, .dead, .hole .str, .dead, .dead, .dead, .dead, .dead, .dead, .dead, .dead, .dead, .dead, .dead, .dead, .dead, .dead, .dead, .dead, .dead, .dead, .dead, .dead, .dead, .dead, .dead, .dead, .dead, .dead, .dead, .dead, .dead, .dead, .dead, .dead, .dead, .dead, .dead, .dead, .dead, .dead, .dead, .dead, .dead, .dead, .dead, .dead, .dead, .dead, .dead, .dead, .dead, .dead, .dead, .dead, .dead, .dead, .dead, .dead, .dead, .dead], [some [.bld 0, .whole 0]], [some (.int .u8)]⟩
@[reducible] noncomputable def h34a_p2_outs : List (Ex × Shape) := [(.exit 1, h34a_p2_o0)]
@[reducible] noncomputable def h34a_p2_a (G : h34a_I.den → Option h34a_O.den) (hG : SoundH Tryd.prog 34 ⟨h34a_I, h34a_O, G⟩) : Ann Tryd.prog 1 true (f34_c.cr.cr.cr.cr.cr.cl.cr.cb.cb) := (.seq (.leaf _) (.seq (.leaf _) (.seq (.block (.seq (.leaf _) (.seq (.piece _ _ _ (h34a_p1_ok G hG)) (.seq (.piece _ _ _ (h34a_p0_ok G hG)) (.leaf _))))) (.leaf _))))
noncomputable def h34a_p2_st (G : h34a_I.den → Option h34a_O.den) (hG : SoundH Tryd.prog 34 ⟨h34a_I, h34a_O, G⟩) (rec : h34a_p2_sh.den → Option (OutDen h34a_p2_outs)) (y : h34a_p2_sh.den) : Option (OutDen h34a_p2_outs) := evA (h34a_E G hG) (h34a_p2_a G hG) (fill h34a_p2_sh y) fun ex st => match ex with | .normal => (abs h34a_p2_sh st).bind rec | e => packOut h34a_p2_outs e st
theorem h34a_p2_ok (G : h34a_I.den → Option h34a_O.den) (hG : SoundH Tryd.prog 34 ⟨h34a_I, h34a_O, G⟩) : PieceSound Tryd.prog 1 true (.loop (f34_c.cr.cr.cr.cr.cr.cl.cr.cb.cb)) h34a_p2_sh h34a_p2_outs (go (h34a_p2_st G hG)) := go_of (h34a_E_okE G hG) (h34a_p2_a G hG) rfl rfl fun _ _ => rfl
@[reducible] noncomputable def h34a_a (G : h34a_I.den → Option h34a_O.den) (hG : SoundH Tryd.prog 34 ⟨h34a_I, h34a_O, G⟩) : Ann Tryd.prog 1 true f34_c := (.seq (.leaf _) (.seq (.leaf _) (.seq (.leaf _) (.seq (.leaf _) (.seq (.leaf _) (.seq (.seq (.leaf _) (.block (.piece _ _ _ (h34a_p2_ok G hG)))) (.leaf _)))))))
noncomputable def h34a_b (G : h34a_I.den → Option h34a_O.den) (hG : SoundH Tryd.prog 34 ⟨h34a_I, h34a_O, G⟩) (y : h34a_I.den) : Option h34a_O.den := evFunH (h34a_E G hG) Tryd.f34 (h34a_a G hG) h34a_I h34a_O y
theorem h34a_bok (G : h34a_I.den → Option h34a_O.den) (hG : SoundH Tryd.prog 34 ⟨h34a_I, h34a_O, G⟩) : SoundH Tryd.prog 34 ⟨h34a_I, h34a_O, (h34a_b G hG)⟩ := sound_ofH (I := h34a_I) (O := h34a_O) (c := f34_c) (h34a_E_okE G hG) (by kernel_rfl) (by kernel_rfl) (by kernel_rfl) (h34a_a G hG) rfl (fun _ => rfl)
theorem h34a_has : ∃ fn, Tryd.prog.funcs[34]? = some fn ∧ (fn.name == "runtime.NumGoroutine") = false ∧ fn.body.isSome = true := ⟨Tryd.f34, by kernel_rfl, by kernel_rfl, by kernel_rfl⟩
noncomputable def h34a_S : (n : Nat) → {F : h34a_I.den → Option h34a_O.den // SoundH Tryd.prog 34 ⟨h34a_I, h34a_O, F⟩} := recH h34a_has fun F h => ⟨h34a_b F h, h34a_bok F h⟩
noncomputable def h34a_F : h34a_I.den → Option h34a_O.den := (h34a_S recN).1
theorem h34a_ok : SoundH Tryd.prog 34 ⟨h34a_I, h34a_O, h34a_F⟩ := (h34a_S recN).2
@[reducible] noncomputable def h34_E : Env := envOf Tryd.prog 25 [rowOf true format_ok, rowOf true f54_ok] [⟨53, _, h53_ok⟩, ⟨53, _, h53a_ok⟩, ⟨34, _, h34a_ok⟩]
theorem h34_E_okE : EnvOk Tryd.prog h34_E := envOf_ok _ _ _ mixed
@[reducible] noncomputable def h34_p0_sh : Shape := ⟨[.ptr 0 0, .dead, .dead, .ptr 1 0, .hole .str, .hole (.int .i64), .ptr 2 0, .dead, .dead, .dead, .dead, .dead, .dead, .dead, .dead, .dead, .dead, .dead, .dead, .dead, .dead, .dead, .dead, .dead, .dead, .dead, .dead, .dead, .dead, .dead, .dead, .hole (.list .value), .hole (.int .i64), .hole (.int .i64), .dead, .dead, .dead, .dead, .dead, .dead, .dead, .dead, .dead, .dead, .dead, .dead, .dead, .dead, .dead, .dead, .dead, .dead, .dead, .dead, .dead, .dead, .dead, .dead, .dead, .dead, .dead, .dead, .dead], [some [.bld 0, .whole 0], some [.hole (.int .i64), .hole (.int .i64), .hole .str, .hole (.list .value), .hole (.list .str)], some [.hole (.int .i64), .hole (.int .i64), .hole .str, .hole (.list .value), .hole (.list .str)]], [some (.int .u8)]⟩
@[reducible] noncomputable def h34_p0_o0 : Shape := ⟨[.ptr 0 0, .dead, .dead, .ptr 1 0, .hole .str, .dead, .ptr 2 0, .dead, .dead, .dead, .dead, .dead, .dead, .dead, .dead, .dead, .dead, .dead, .dead, .dead, .dead, .dead, .dead, .dead, .dead, .dead, .dead, .dead, .dead, .dead, .dead, .hole (.list .value), .hole (.int .i64), .hole (.int .i64), .dead, .dead, .dead, .dead, .dead, .dead, .dead, .dead, .dead, .dead, .dead, .dead, .dead, .dead, .dead, .dead, .dead, .dead, .dead, .dead, .dead, .dead, .dead, .dead, .dead, .dead, .dead, .dead, .dead], [some [.bld 0, .whole 0], some [.hole (.int .i64), .hole (.int .i64), .hole .str, .hole (.list .value), .hole (.list .str)], some [.hole (.int .i64), .hole (.int .i64), .hole .str, .hole (.list .value), .hole (.list .str)]], [some (.int .u8)]⟩
@[reducible] noncomputable def h34_p0_outs : List (Ex × Shape) := [(.normal, h34_p0_o0)]
@[reducible] noncomputable def h34_p0_a : Ann Tryd.prog 1 true (f34_c.cr.cr.cr.cr.cr.cl.cr.cb.cb.cr.cr.cl.cb.cr.cr.cl) := (.leaf _)
noncomputable def h34_p0_F (y : h34_p0_sh.den) : Option (OutDen h34_p0_outs) := evA h34_E h34_p0_a (fill h34_p0_sh y) (packOut h34_p0_outs)
theorem h34_p0_ok : PieceSound Tryd.prog 1 true (f34_c.cr.cr.cr.cr.cr.cl.cr.cb.cb.cr.cr.cl.cb.cr.cr.cl) h34_p0_sh h34_p0_outs h34_p0_F := piece_of (h34_E_okE) h34_p0_a rfl rfl fun _ => rfl
@[reducible] noncomputable def h34_p1_sh : Shape := ⟨[.ptr 0 0, .dead, .dead, .ptr 1 0, .hole .str, .hole (.int .i64), .ptr 2 0, .dead, .dead, .dead, .dead, .dead, .dead, .dead, .dead, .dead, .dead, .dead, .dead, .dead, .dead, .dead, .dead, .dead, .dead, .dead, .dead, .dead, .dead, .dead, .dead, .hole (.list .value), .hole (.int .i64), .hole (.int .i64), .dead, .dead, .dead, .dead, .dead, .dead, .dead, .dead, .dead, .dead, .dead, .dead, .dead, .dead, .dead, .dead, .dead, .dead, .dead, .dead, .dead, .dead, .dead, .dead, .dead, .dead, .dead, .dead, .dead], [some [.bld 0, .whole 0], some [.hole (.int .i64), .hole (.int .i64), .hole .str, .hole (.list .value), .hole (.list .str)], some [.hole (.int .i64), .hole (.int .i64), .hole .str, .hole (.list .value), .hole (.list .str)]], [some (.int .u8)]⟩
@[reducible] noncomputable def h34_p1_o0 : Shape := ⟨[.ptr 0 0, .dead, .dead, .ptr 1 0, .hole .str, .hole (.int .i64), .ptr 2 0, .dead, .dead, .dead, .dead, .dead, .dead, .dead, .dead, .dead, .dead, .dead, .dead, .dead, .dead, .dead, .dead, .dead, .dead, .dead, .dead, .dead, .dead, .dead, .dead, .hole (.list .value), .hole (.int .i64), .hole (.int .i64), .dead, .dead, .dead, .dead, .dead, .dead, .dead, .dead, .dead, .dead, .dead, .dead, .dead, .dead, .dead, .dead, .dead, .dead, .dead, .dead, .dead, .dead, .dead, .dead, .dead, .dead, .dead, .dead, .dead], [some [.bld 0, .whole 0], some [.hole (.int .i64), .hole (.int .i64), .hole .str, .hole (.list .value), .hole (.list .str)], some [.hole (.int .i64), .hole (.int .i64), .hole .str, .hole (.list .value), .hole (.list .str)]], [some (.int .u8)]⟩
@[reducible] noncomputable def h34_p1_outs : List (Ex × Shape) := [(.normal, h34_p1_o0)]
@[reducible] noncomputable def h34_p1_a : Ann Tryd.prog 1 true (f34_c.cr.cr.cr.cr.cr.cl.cr.cb.cb.cr.cr.cl.cb.cr.cl) := (.leaf _)
noncomputable def h34_p1_F (y : h34_p1_sh.den) : Option (OutDen h34_p1_outs) := evA h34_E h34_p1_a (fill h34_p1_sh y) (packOut h34_p1_outs)
theorem h34_p1_ok : PieceSound Tryd.prog 1 true (f34_c.cr.cr.cr.cr.cr.cl.cr.cb.cb.cr.cr.cl.cb.cr.cl) h34_p1_sh h34_p1_outs h34_p1_F := piece_of (h34_E_okE) h34_p1_a rfl rfl fun _ => rfl
@[reducible] noncomputable def h34_p2_sh : Shape := ⟨[.ptr 0 0, .dead, .dead, .ptr 1 0, .hole .str, .dead, .dead, .dead, .dead, .dead, .dead, .dead, .dead, .dead, .dead, .dead, .dead, .dead, .dead, .dead, .dead, .dead, .dead, .dead, .dead, .dead, .dead, .dead, .dead, .dead, .dead, .hole (.list .value), .hole (.int .i64), .hole (.int .i64), .dead, .dead, .dead, .dead, .dead, .dead, .dead, .dead, .dead, .dead, .dead, .dead, .dead, .dead, .dead, .dead, .dead, .dead, .dead, .dead, .dead, .dead, .dead, .dead, .dead, .dead, .dead, .dead, .dead], [some [.bld 0, .whole 0], some [.hole (.int .i64), .hole (.int .i64), .hole .str, .hole (.list .value), .hole (.list .str)]], [some (.int .u8)]⟩
@[reducible] noncomputable def h34_p2_o0 : Shape := ⟨[.ptr 0 0, .dead, .dead, .dead, .hole .str, .dead, .dead, .dead, .dead, .dead, .dead, .dead, .dead, .dead, .dead, .dead, .dead, .dead, .dead, .dead, .dead, .dead, .dead, .dead, .dead, .dead, .dead, .dead, .dead, .dead, .dead, .dead, .dead, .dead, .dead, .dead, .dead, .dead, .dead, .dead, .dead, .dead, .dead, .dead, .dead, .dead, .dead, .dead, .dead, .dead, .dead, .dead, .dead, .dead, .dead, .dead, .dead, .dead, .dead, .dead, .dead, .dead, .dead], [some [.bld 0, .whole 0]], [some (.int .u8)]⟩
@[reducible] noncomputable def h34_p2_outs : List (Ex × Shape) := [(.exit 1, h34_p2_o0)]
@[reducible] noncomputable def h34_p2_a : Ann Tryd.prog 1 true (f34_c.cr.cr.cr.cr.cr.cl.cr.cb.cb) := (.seq (.leaf _) (.seq (.leaf _) (.seq (.block (.seq (.leaf _) (.seq (.piece _ _ _ h34_p1_ok) (.seq (.piece _ _ _ h34_p0_ok) (.leaf _))))) (.leaf _))))
noncomputable def h34_p2_st (rec : h34_p2_sh.den → Option (OutDen h34_p2_outs)) (y : h34_p2_sh.den) : Option (OutDen h34_p2_outs) := evA h34_E h34_p2_a (fill h34_p2_sh y) fun ex st => match ex with | .normal => (abs h34_p2_sh st).bind rec | e => packOut h34_p2_outs e st
theorem h34_p2_ok : PieceSound Tryd.prog 1 true (.loop (f34_c.cr.cr.cr.cr.cr.cl.cr.cb.cb)) h34_p2_sh h34_p2_outs (go h34_p2_st) := go_of (h34_E_okE) h34_p2_a rfl rfl fun _ _ => rfl
@[reducible] noncomputable def h34_I : Shape := ⟨[.ptr 0 0, .agg [.hole (.int .i64), .hole (.int .i64), .hole .str, .hole (.list .value), .hole (.list .str)]], [some [.bld 0, .nilS]], []⟩
@[reducible] noncomputable def h34_O : Shape := ⟨[], [some [.bld 0, .whole 0]], [some (.int .u8)]⟩
@[reducible] noncomputable def h34_a : Ann Tryd.prog 1 true f34_c := (.seq (.leaf _) (.seq (.leaf _) (.seq (.leaf _) (.seq (.leaf _) (.seq (.leaf _) (.seq (.seq (.leaf _) (.block (.piece _ _ _ h34_p2_ok))) (.leaf _)))))))
noncomputable def h34_F (y : h34_I.den) : Option h34_O.den := evFunH h34_E Tryd.f34 h34_a h34_I h34_O y
theorem h34_ok : SoundH Tryd.prog 34 ⟨h34_I, h34_O, h34_F⟩ := sound_ofH (I := h34_I) (O := h34_O) (c := f34_c) (h34_E_okE) (by kernel_rfl) (by kernel_rfl) (by kernel_rfl) h34_a rfl (fun _ => rfl)
@[reducible] noncomputable def f14_c : Code := codeOf Tryd.f14
@[reducible] noncomputable def f14_E : Env := envOf Tryd.prog 25 [rowOf true f19_ok] [⟨34, _, h34_ok⟩, ⟨35, _, str_ok⟩]
theorem f14_E_okE : EnvOk Tryd.prog f14_E := envOf_ok _ _ _ mixed
@[reducible] noncomputable def f14_ps : List KD := [.agg [(.int .i64), (.int .i64), .str, (.list .value), (.list .str)]]
@[reducible] noncomputable def f14_rs : List KD := [.one .str, .one (.int .i64)]
@[reducible] noncomputable def f14_a : Ann Tryd.prog 0 true f14_c := (.leaf _)
noncomputable def f14_F (y : argsDen f14_ps) : Option (argsDen f14_rs) := evFunA f14_E Tryd.f14 f14_a (encArgs f14_ps y) (decRes f14_rs)
theorem f14_ok : Sound Tryd.prog 14 (pfun f14_F) := sound_of (c := f14_c) (f14_E_okE) (by kernel_rfl) (by kernel_rfl) (by kernel_rfl) f14_a (fun _ => rfl)
@[reducible] noncomputable def f13_c : Code := codeOf Tryd.f13
@[reducible] noncomputable def f13_E : Env := envOf Tryd.prog 25 [rowOf false f23_ok, rowOf false f22_ok, rowOf false f28_ok, rowOf true f14_ok] []
theorem f13_E_okE : EnvOk Tryd.prog f13_E := envOf_ok _ _ _ mixed
@[reducible] noncomputable def f13_ps : List KD := []
@[reducible] noncomputable def f13_rs : List KD := [.one .bool]
@[reducible] noncomputable def f13_a : Ann Tryd.prog 0 true f13_c := (.leaf _)
noncomputable def f13_F0 (y : argsDen f13_ps) : Option (argsDen f13_rs) := evFunA f13_E Tryd.f13 f13_a (encArgs f13_ps y) (decRes f13_rs)
noncomputable def f13_F : argsDen f13_ps → Option (argsDen f13_rs) := Classical.choose (⟨f13_F0, rfl⟩ : ∃ f : argsDen f13_ps → Option (argsDen f13_rs), f = f13_F0)
theorem f13_Fe : f13_F = f13_F0 := Classical.choose_spec (⟨f13_F0, rfl⟩ : ∃ f : argsDen f13_ps → Option (argsDen f13_rs), f = f13_F0)
theorem f13_ok0 : Sound Tryd.prog 13 (pfun f13_F0) := sound_of (c := f13_c) (f13_E_okE) (by kernel_rfl) (by kernel_rfl) (by kernel_rfl) f13_a (fun _ => rfl)
theorem f13_ok : Sound Tryd.prog 13 (pfun f13_F) := by rw [f13_Fe]; exact f13_ok0
@[reducible] noncomputable def f24_ps : List KD := [.agg [(.int .i64), (.int .i64), .str, (.list .value), (.list .str)], .agg [(.int .i64), (.int .i64), .str, (.list .value), (.list .str)]]
@[reducible] noncomputable def f24_rs : List KD := [.one .bool]
@[reducible] noncomputable def f24_c : Code := codeOf Tryd.f24
@[reducible] noncomputable def f24_E (G : argsDen f24_ps → Option (argsDen f24_rs)) (hG : Sound Tryd.prog 24 (pfun G)) : Env := envOf Tryd.prog 25 [rowOf true hG] []
theorem f24_E_okE (G : argsDen f24_ps → Option (argsDen f24_rs)) (hG : Sound Tryd.prog 24 (pfun G)) : EnvOk Tryd.prog (f24_E G hG) := envOf_ok _ _ _ mixed
@[reducible] noncomputable def f24_p0_sh : Shape := ⟨[.dead, .dead, .ptr 0 0, .ptr 1 0, .dead, .dead, .dead, .dead, .dead, .dead, .dead, .dead, .dead, .dead, .dead, .dead, .dead, .dead, .dead, .dead, .dead, .dead, .dead, .dead, .dead, .dead, .dead, .dead, .dead, .dead, .dead, .dead, .dead, .dead, .dead, .dead, .dead, .dead, .dead, .dead, .dead, .dead, .dead, .dead, .dead, .dead, .dead, .dead, .dead, .dead, .dead, .dead, .dead, .dead, .dead, .dead, .dead, .dead, .dead, .dead, .dead, .dead, .dead, .dead, .hole (.int .i64), .hole (.int .i64), .dead, .dead, .dead, .dead, .dead, .dead, .dead, .dead, .dead, .dead, .dead, .dead, .dead, .dead, .dead], [some [.hole (.int .i64), .hole (.int .i64), .hole .str, .hole (.list .value), .hole (.list .str)], some [.hole (.int .i64), .hole (.int .i64), .hole .str, .hole (.list .value), .hole (.list .str)]], []⟩
@[reducible] noncomputable def f24_p0_o0 : Shape := ⟨[.dead, .dead, .dead, .dead, .dead, .dead, .dead, .dead, .dead, .dead, .dead, .dead, .dead, .dead, .dead, .dead, .dead, .dead, .dead, .dead, .dead, .dead, .dead, .dead, .dead, .dead, .dead, .dead, .dead, .dead, .dead, .dead, .dead, .dead, .dead, .dead, .dead, .dead, .dead, .dead, .dead, .dead, .dead, .dead, .dead, .dead, .dead, .dead, .dead, .dead, .dead, .dead, .dead, .dead, .dead, .dead, .dead, .dead, .dead, .dead, .dead, .dead, .dead, .dead, .dead, .dead, .dead, .dead, .dead, .dead, .dead, .dead, .dead, .dead, .dead, .dead, .dead, .dead, .dead, .dead, .dead], [], []⟩
@[reducible] noncomputable def f24_p0_o1 : Shape := ⟨[.dead, .dead, .dead, .dead, .hole .bool, .dead, .dead, .dead, .dead, .dead, .dead, .dead, .dead, .dead, .dead, .dead, .dead, .dead, .dead, .dead, .dead, .dead, .dead, .dead, .dead, .dead, .dead, .dead, .dead, .dead, .dead, .dead, .dead, .dead, .dead, .dead, .dead, .dead, .dead, .dead, .dead, .dead, .dead, .dead, .dead, .dead, .dead, .dead, .dead, .dead, .dead, .dead, .dead, .dead, .dead, .dead, .dead, .dead, .dead, .dead, .dead, .dead, .dead, .dead, .dead, .dead, .dead, .dead, .dead, .dead, .dead, .dead, .dead, .dead, .dead, .dead, .dead, .dead, .dead, .dead, .dead], [], []⟩
@[reducible] noncomputable def f24_p0_outs : List (Ex × Shape) := [(.exit 2, f24_p0_o0), (.ret, f24_p0_o1)]
@[reducible] noncomputable def f24_p0_a (G : argsDen f24_ps → Option (argsDen f24_rs)) (hG : Sound Tryd.prog 24 (pfun G)) : Ann Tryd.prog 0 true (f24_c.cr.cr.cr.cl.cr.cb.cb) := (.leaf _)
noncomputable def f24_p0_st (G : argsDen f24_ps → Option (argsDen f24_rs)) (hG : Sound Tryd.prog 24 (pfun G)) (rec : f24_p0_sh.den → Option (OutDen f24_p0_outs)) (y : f24_p0_sh.den) : Option (OutDen f24_p0_outs) := evA (f24_E G hG) (f24_p0_a G hG) (fill f24_p0_sh y) fun ex st => match ex with | .normal => (abs f24_p0_sh st).bind rec | e => packOut f24_p0_outs e st
theorem f24_p0_ok (G : argsDen f24_ps → Option (argsDen f24_rs)) (hG : Sound Tryd.prog 24 (pfun G)) : PieceSound Tryd.prog 0 true (.loop (f24_c.cr.cr.cr.cl.cr.cb.cb)) f24_p0_sh f24_p0_outs (go (f24_p0_st G hG)) := go_of (f24_E_okE G hG) (f24_p0_a G hG) rfl rfl fun _ _ => rfl
@[reducible] noncomputable def f24_p1_sh : Shape := ⟨[.dead, .dead, .ptr 0 0, .ptr 1 0, .dead, .dead, .dead, .dead, .dead, .dead, .dead, .dead, .dead, .dead, .dead, .dead, .dead, .dead, .dead, .dead, .dead, .dead, .dead, .dead, .dead, .dead, .dead, .dead, .dead, .dead, .dead, .dead, .dead, .dead, .dead, .dead, .dead, .dead, .dead, .dead, .dead, .dead, .dead, .dead, .dead, .dead, .hole (.int .i64), .hole (.int .i64), .dead, .dead, .dead, .dead, .dead, .dead, .dead, .dead, .dead, .dead, .dead, .dead, .dead, .dead, .dead, .dead, .dead, .dead, .dead, .dead, .dead, .dead, .dead, .dead, .dead, .dead, .dead, .dead, .dead, .dead, .dead, .dead, .dead], [some [.hole (.int .i64), .hole (.int .i64), .hole .str, .hole (.list .value), .hole (.list .str)], some [.hole (.int .i64), .hole (.int .i64), .hole .str, .hole (.list .value), .hole (.list .str)]], []⟩
@[reducible] noncomputable def f24_p1_o0 : Shape := ⟨[.dead, .dead, .ptr 0 0, .ptr 1 0, .dead, .dead, .dead, .dead, .dead, .dead, .dead, .dead, .dead, .dead, .dead, .dead, .dead, .dead, .dead, .dead, .dead, .dead, .dead, .dead, .dead, .dead, .dead, .dead, .dead, .dead, .dead, .dead, .dead, .dead, .dead, .dead, .dead, .dead, .dead, .dead, .dead, .dead, .dead, .dead, .dead, .dead, .dead, .dead, .dead, .dead, .dead, .dead, .dead, .dead, .dead, .dead, .dead, .dead, .dead, .dead, .dead, .dead, .dead, .dead, .dead, .dead, .dead, .dead, .dead, .dead, .dead, .dead, .dead, .dead, .dead, .dead, .dead, .dead, .dead, .dead, .dead], [some [.hole (.int .i64), .hole (.int .i64), .hole .str, .hole (.list .value), .hole (.list .str)], some [.hole (.int .i64), .hole (.int .i64), .hole .str, .hole (.list .value), .hole (.list .str)]], []⟩
@[reducible] noncomputable def f24_p1_o1 : Shape := ⟨[.dead, .dead, .dead, .dead, .hole .bool, .dead, .dead, .dead, .dead, .dead, .dead, .dead, .dead, .dead, .dead, .dead, .dead, .dead, .dead, .dead, .dead, .dead, .dead, .dead, .dead, .dead, .dead, .dead, .dead, .dead, .dead, .dead, .dead, .dead, .dead, .dead, .dead, .dead, .dead, .dead, .dead, .dead, .dead, .dead, .dead, .dead, .dead, .dead, .dead, .dead, .dead, .dead, .dead, .dead, .dead, .dead, .dead, .dead, .dead, .dead, .dead, .dead, .dead, .dead, .dead, .dead, .dead, .dead, .dead, .dead, .dead, .dead, .dead, .dead, .dead, .dead, .dead, .dead, .dead, .dead, .dead], [], []⟩
@[reducible] noncomputable def f24_p1_outs : List (Ex × Shape) := [(.exit 0, f24_p1_o0), (.ret, f24_p1_o1)]
@[reducible] noncomputable def f24_p1_a (G : argsDen f24_ps → Option (argsDen f24_rs)) (hG : Sound Tryd.prog 24 (pfun G)) : Ann Tryd.prog 0 true (f24_c.cr.cr.cl.cr.cb.cb) := (.leaf _)
noncomputable def f24_p1_st (G : argsDen f24_ps → Option (argsDen f24_rs)) (hG : Sound Tryd.prog 24 (pfun G)) (rec : f24_p1_sh.den → Option (OutDen f24_p1_outs)) (y : f24_p1_sh.den) : Option (OutDen f24_p1_outs) := evA (f24_E G hG) (f24_p1_a G hG) (fill f24_p1_sh y) fun ex st => match ex with | .normal => (abs f24_p1_sh st).bind rec | e => packOut f24_p1_outs e st
theorem f24_p1_ok (G : argsDen f24_ps → Option (argsDen f24_rs)) (hG : Sound Tryd.prog 24 (pfun G)) : PieceSound Tryd.prog 0 true (.loop (f24_c.cr.cr.cl.cr.cb.cb)) f24_p1_sh f24_p1_outs (go (f24_p1_st G hG)) := go_of (f24_E_okE G hG) (f24_p1_a G hG) rfl rfl fun _ _ => rfl
@[reducible] noncomputable def f24_p2_sh : Shape := ⟨[.dead, .dead, .ptr 0 0, .ptr 1 0, .dead, .dead, .dead, .dead, .dead, .dead, .dead, .dead, .dead, .dead, .dead, .dead, .dead, .dead, .dead, .dead, .dead, .dead, .dead, .dead, .dead, .dead, .dead, .dead, .dead, .dead, .dead, .dead, .dead, .dead, .dead, .dead, .dead, .dead, .dead, .dead, .dead, .dead, .dead, .dead, .dead, .dead, .dead, .dead, .dead, .dead, .dead, .dead, .dead, .dead, .dead, .dead, .dead, .dead, .dead, .dead, .dead, .dead, .dead, .dead, .dead, .dead, .dead, .dead, .dead, .dead, .dead, .dead, .dead, .dead, .dead, .dead, .dead, .dead, .dead, .dead, .dead], [some [.hole (.int .i64), .hole (.int .i64), .hole .str, .hole (.list .value), .hole (.list .str)], some [.hole (.int .i64), .hole (.int .i64), .hole .str, .hole (.list .value), .hole (.list .str)]], []⟩
@[reducible] noncomputable def f24_p2_o0 : Shape := ⟨[.dead, .dead, .ptr 0 0, .ptr 1 0, .dead, .dead, .dead, .dead, .dead, .dead, .dead, .dead, .dead, .dead, .dead, .dead, .dead, .dead, .dead, .dead, .dead, .dead, .dead, .dead, .dead, .dead, .dead, .dead, .dead, .dead, .dead, .dead, .dead, .dead, .dead, .dead, .dead, .dead, .dead, .dead, .dead, .dead, .dead, .hole .bool, .dead, .dead, .dead, .dead, .dead, .dead, .dead, .dead, .dead, .dead, .dead, .dead, .dead, .dead, .dead, .dead, .dead, .dead, .dead, .dead, .dead, .dead, .dead, .dead, .dead, .dead, .dead, .dead, .dead, .dead, .dead, .dead, .dead, .dead, .dead, .dead, .dead], [some [.hole (.int .i64), .hole (.int .i64), .hole .str, .hole (.list .value), .hole (.list .str)], some [.hole (.int .i64), .hole (.int .i64), .hole .str, .hole (.list .value), .hole (.list .str)]], []⟩
@[reducible] noncomputable def f24_p2_outs : List (Ex × Shape) := [(.normal, f24_p2_o0)]
@[reducible] noncomputable def f24_p2_a (G : argsDen f24_ps → Option (argsDen f24_rs)) (hG : Sound Tryd.prog 24 (pfun G)) : Ann Tryd.prog 0 true (f24_c.cr.cl.cl) := (.leaf _)
noncomputable def f24_p2_F (G : argsDen f24_ps → Option (argsDen f24_rs)) (hG : Sound Tryd.prog 24 (pfun G)) (y : f24_p2_sh.den) : Option (OutDen f24_p2_outs) := evA (f24_E G hG) (f24_p2_a G hG) (fill f24_p2_sh y) (packOut f24_p2_outs)
theorem f24_p2_ok (G : argsDen f24_ps → Option (argsDen f24_rs)) (hG : Sound Tryd.prog 24 (pfun G)) : PieceSound Tryd.prog 0 true (f24_c.cr.cl.cl) f24_p2_sh f24_p2_outs (f24_p2_F G hG) := piece_of (f24_E_okE G hG) (f24_p2_a G hG) rfl rfl fun _ => rfl
@[reducible] noncomputable def f24_a (G : argsDen f24_ps → Option (argsDen f24_rs)) (hG : Sound Tryd.prog 24 (pfun G)) : Ann Tryd.prog 0 true f24_c := (.seq (.leaf _) (.seq (.seq (.piece _ _ _ (f24_p2_ok G hG)) (.leaf _)) (.seq (.seq (.leaf _) (.block (.piece _ _ _ (f24_p1_ok G hG)))) (.seq (.seq (.leaf _) (.block (.piece _ _ _ (f24_p0_ok G hG)))) (.leaf _)))))
noncomputable def f24_b (G : argsDen f24_ps → Option (argsDen f24_rs)) (hG : Sound Tryd.prog 24 (pfun G)) (y : argsDen f24_ps) : Option (argsDen f24_rs) := evFunA (f24_E G hG) Tryd.f24 (f24_a G hG) (encArgs f24_ps y) (decRes f24_rs)
theorem f24_bok (G : argsDen f24_ps → Option (argsDen f24_rs)) (hG : Sound Tryd.prog 24 (pfun G)) : Sound Tryd.prog 24 (pfun (f24_b G hG)) := sound_of (c := f24_c) (f24_E_okE G hG) (by kernel_rfl) (by kernel_rfl) (by kernel_rfl) (f24_a G hG) (fun _ => rfl)
theorem f24_has : ∃ fn, Tryd.prog.funcs[24]? = some fn ∧ (fn.name == "runtime.NumGoroutine") = false ∧ fn.body.isSome = true := ⟨Tryd.f24, by kernel_rfl, by kernel_rfl, by kernel_rfl⟩
noncomputable def f24_S : (n : Nat) → {F : argsDen f24_ps → Option (argsDen f24_rs) // Sound Tryd.prog 24 (pfun F)} := recF f24_has fun F h => ⟨f24_b F h, f24_bok F h⟩
noncomputable def f24_F : argsDen f24_ps → Option (argsDen f24_rs) := (f24_S recN).1
theorem f24_ok : Sound Tryd.prog 24 (pfun f24_F) := (f24_S recN).2
end
end Go.Pe.Tryd
end
