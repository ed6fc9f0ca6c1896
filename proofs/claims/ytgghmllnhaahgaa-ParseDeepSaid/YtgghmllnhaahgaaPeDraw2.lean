/- A region that draws its order comes to what the evaluator tells. -/
import Derived.Test.YtgghmllnhaahgaaPeDraw
namespace Go.Pe
open Go.RowKit
set_option linter.unusedSectionVars false
variable [GI]
set_option linter.unusedSimpArgs false
set_option linter.unusedVariables false

def want (ops : Array Oper) (o : Oper) (st : St) : Option Bool :=
  match o.guard with
  | none => some true
  | some (j, w) => match (ops[j]?).bind (·.dst) with
    | none => none
    | some d => match st.slots[d]? with
      | some (.d .bool b) => some (b == w)
      | some (.tup []) => some false
      | _ => none

/-- What is told of an operation besides. -/
def It.Ok2 (it : It) (st : St) (o : Oper) : Prop :=
  (it.mf = true → it.kind = 0 ∧ (memfree o.op = true ∨ closedOps st o.op.operands.toList = true)) ∧ (it.hm = true → it.kind = 0 ∧ homOp o.op = true ∧ hmOps st o.op.operands.toList = true) ∧ (4 ≤ it.kind → it.n = tgtOf st o)
theorem tgt_agree {o : Oper} {st st' : St} (h : ∀ x ∈ o.op.operands, st'.ev x = st.ev x) : tgtOf st' o = tgtOf st o := by
  unfold tgtOf
  cases hop : o.op <;> rw [hop] at h <;> try rfl
  case store t a x => dsimp only; rw [h a (by simp [Op.operands])]
  case call c =>
    dsimp only
    cases hc : c.args.toList with
    | nil => rfl
    | cons y l =>
      dsimp only
      have hy : y ∈ c.args := by rw [← Array.mem_toList_iff, hc]; simp
      rw [h y (by simp [Op.operands, Call.operands, hy])]
def Step1 (ε : Env) (ops : Array Oper) (it : It) (st st' : St) : Prop := ∃ o, ops[it.idx]? = some o ∧
  ((want ops o st = some true ∧ it.kind = kindOf ε st o ∧ it.touch = touchOf st o ∧ (it.kind = 1 → it.n = st.recs.length) ∧ (it.kind = 2 → it.n = st.lsts.length) ∧
      ∃ av st1, evOp ε st o two = some (av, st1) ∧ st' = st1.put o.dst av ∧ (it.cl = true → it.kind = 0 ∧ closedOps st o.op.operands.toList = true ∧ av.closed = true) ∧ it.Ok2 st o) ∨
   (want ops o st = some false ∧ it.kind = 0 ∧ it.touch = [] ∧ st' = st.put o.dst (.tup [])))

def Tr (ε : Env) (ops : Array Oper) : List It → St → St → Prop
  | [], st, st' => st = st'
  | it :: r, st, st' => ∃ st1, Step1 ε ops it st st1 ∧ Tr ε ops r st1 st'

def Fine (ops : Array Oper) : List It → Prop
  | [] => True
  | x :: done => Fine ops done ∧ pairsOk ops x done = true ∧ ∃ o, ops[x.idx]? = some o ∧ ancOf done x.idx o.after.toList = some x.anc

section
variable {ε : Env} {ops : Array Oper} (hu : ∀ f G sc, ε.fn f = some (G, sc) → PFun.Uni @G)

theorem want_agree {o : Oper} {st st' : St} (h : ∀ t ∈ o.looksAt ops, st'.slots[t]? = st.slots[t]?) : want ops o st' = want ops o st := by
  unfold want
  cases hg : o.guard with
  | none => rfl
  | some q =>
    obtain ⟨j, w⟩ := q
    dsimp only
    cases hj : (ops[j]?).bind (·.dst) with
    | none => rfl
    | some d => dsimp only; rw [h d (by simp [Oper.looksAt, hg, hj])]
theorem ev_agree {o : Oper} {st st' : St} (h : ∀ t ∈ o.looksAt ops, st'.slots[t]? = st.slots[t]?) : ∀ x ∈ o.op.operands, st'.ev x = st.ev x := by
  intro x hx
  cases x with
  | tmp t =>
    simp only [St.ev, List.getD_eq_getElem?_getD]
    rw [h t (List.mem_append_left _ (List.mem_filterMap.2 ⟨.tmp t, by simpa using hx, rfl⟩))]
  | const v => rfl
  | global g => rfl
  | func f => rfl

theorem closedOps_agree {st st' : St} : ∀ {l : List Operand}, (∀ x ∈ l, st'.ev x = st.ev x) → closedOps st' l = closedOps st l
  | [], _ => rfl
  | x :: l, h => by simp only [closedOps]; rw [h x (by simp), closedOps_agree fun y hy => h y (by simp [hy])]
theorem hmOps_agree {st st' : St} : ∀ {l : List Operand}, (∀ x ∈ l, st'.ev x = st.ev x) → hmOps st' l = hmOps st l
  | [], _ => rfl
  | x :: l, h => by simp only [hmOps]; rw [h x (by simp), hmOps_agree fun y hy => h y (by simp [hy])]
theorem hmOps_mem {st : St} : ∀ {l : List Operand}, hmOps st l = true → ∀ x ∈ l, (st.ev x).hmok = true
  | y :: l, h, x, hx => by
    simp only [hmOps, Bool.and_eq_true] at h
    rcases List.mem_cons.1 hx with rfl | hx
    · exact h.1
    · exact hmOps_mem h.2 x hx
theorem It.Ok2.move {it : It} {o : Oper} {st st' : St} (h : it.Ok2 st o) (hev : ∀ x ∈ o.op.operands, st'.ev x = st.ev x) : it.Ok2 st' o :=
  ⟨fun hm => by
    obtain ⟨c1, c2⟩ := h.1 hm
    exact ⟨c1, c2.imp id fun c => by rw [closedOps_agree fun x hx => hev x (by simpa using hx)]; exact c⟩, fun hm => by
    obtain ⟨c1, c2, c3⟩ := h.2.1 hm
    exact ⟨c1, c2, by rw [hmOps_agree fun x hx => hev x (by simpa using hx)]; exact c3⟩, fun hk => by rw [tgt_agree hev]; exact h.2.2 hk⟩
theorem closedOps_mem {st : St} : ∀ {l : List Operand}, closedOps st l = true → ∀ x ∈ l, (st.ev x).closed = true
  | y :: l, h, x, hx => by
    simp only [closedOps, Bool.and_eq_true] at h
    rcases List.mem_cons.1 hx with rfl | hx
    · exact h.1
    · exact closedOps_mem h.2 x hx
theorem closedOps_touch {st : St} {o : Oper} (h : closedOps st o.op.operands.toList = true) : touchOf st o = [] := by
  unfold touchOf
  rw [List.flatMap_eq_nil_iff]
  exact fun x hx => AV.closed_locs (closedOps_mem h x hx)
/-- The slot of the guard. -/
def gslot (ops : Array Oper) (o : Oper) : Option Nat := match o.guard with | none => none | some (j, _) => (ops[j]?).bind (·.dst)
theorem gslot_looks {o : Oper} {d : Nat} (h : gslot ops o = some d) : d ∈ o.looksAt ops := by
  unfold gslot at h
  split at h
  · cases h
  · rename_i j w hg; simp [Oper.looksAt, hg, h]
theorem want_kill {o : Oper} {st st' : St} {t : Nat} (h : ∀ d, gslot ops o = some d → st'.slots[d]? = (st.slots[d]?).map (AV.kill t)) {b : Bool} : want ops o st' = some b ↔ want ops o st = some b := by
  unfold want
  cases hg : o.guard with
  | none => rfl
  | some q =>
    obtain ⟨j, w⟩ := q
    dsimp only
    cases hj : (ops[j]?).bind (·.dst) with
    | none => rfl
    | some d =>
      dsimp only
      rw [h d (by simp [gslot, hg, hj])]
      cases hd : st.slots[d]? with
      | none => rfl
      | some v =>
        simp only [Option.map_some]
        cases v <;> simp only [AV.kill]
        case whole k => by_cases e : k = t <;> simp [e]
        case eptr k i o => by_cases e : k = t <;> simp [e]
        case tup l => cases l <;> simp only [killL]
include hu in
/-- One that looks at closed values alone. -/
theorem step_cl {it : It} {st st1 : St} (hc : it.cl = true) (h : Step1 ε ops it st st1) : ∃ (o : Oper) (av : AV), ops[it.idx]? = some o ∧ st1 = st.put o.dst av ∧ av.closed = true ∧ (want ops o st = some true → ∀ x ∈ o.op.operands, (st.ev x).closed = true) ∧
    ∀ st', (∀ b, want ops o st = some b → want ops o st' = some b) → (want ops o st = some true → ∀ x ∈ o.op.operands, st'.ev x = st.ev x) → Step1 ε ops it st' (st'.put o.dst av) := by
  obtain ⟨o, ho, h⟩ := h
  rcases h with ⟨hw, e1, e2, e3, e4, av, st2, hev, rfl, hcl, hmf⟩ | ⟨hw, e1, e2, rfl⟩
  · obtain ⟨c1, c2, c3⟩ := hcl hc
    obtain ⟨d, rfl, hd, hs⟩ := evOp_shift hu (by rw [← e1, c1]; decide) hev
    have hd0 : d = .no := by
      rw [← e1, c1] at hd
      cases d <;> simp [Del.kind] at hd; rfl
    subst hd0
    refine ⟨o, av, ho, rfl, c3, fun _ x hx => closedOps_mem c2 x (by simpa using hx), fun st' h1 h2 => ?_⟩
    have h2 := h2 hw
    obtain ⟨g1, g2, g3⟩ := hs st' ⟨h2, fun l hl => by rw [closedOps_touch c2] at hl; cases hl⟩
    exact ⟨o, ho, .inl ⟨h1 _ hw, by rw [g1]; exact e1, by rw [g2]; exact e2, fun h => by omega, fun h => by omega, av, _, g3 (fun h => by simp [Del.kind] at h) (fun h => by simp [Del.kind] at h), rfl,
      (fun _ => ⟨c1, by rw [closedOps_agree fun x hx => h2 x (by simpa using hx)]; exact c2, c3⟩), hmf.move h2⟩⟩
  · refine ⟨o, .tup [], ho, rfl, rfl, fun h => (by rw [hw] at h; cases h), fun st' h1 h2 => ⟨o, ho, .inr ⟨h1 _ hw, e1, e2, rfl⟩⟩⟩
/-- One that appends to a list of the call's own. -/
theorem step_app {it : It} {st st1 : St} (hk : it.kind = 4) (h : Step1 ε ops it st st1) : ∃ (o : Oper) (av : AV) (t : Nat) (l : LObj), ops[it.idx]? = some o ∧ it.n = t ∧ (getL st.lsts t).isSome = true ∧ st1 = (killSet t l st).put o.dst av ∧
    ∀ st', (∀ i ∈ o.looksAt ops, st'.slots[i]? = st.slots[i]?) → (∀ l, Look st st' l) → Step1 ε ops it st' ((killSet t l st').put o.dst av) := by
  obtain ⟨o, ho, h⟩ := h
  rcases h with ⟨hw, e1, e2, e3, e4, av, st2, hev, rfl, hcl, hmf⟩ | ⟨hw, e1, e2, rfl⟩
  · obtain ⟨t, l, htg, hlv, rfl, hs⟩ := evOp_shift4 (by rw [← e1]; exact hk) hev
    refine ⟨o, av, t, l, ho, by rw [hmf.2.2 (by omega)]; exact htg, hlv, rfl, fun st' h1 h2 => ?_⟩
    obtain ⟨g1, g2, g3⟩ := hs st' ⟨ev_agree h1, fun l _ => h2 l⟩
    exact ⟨o, ho, .inl ⟨by rw [want_agree h1]; exact hw, by rw [g1]; exact hk, by rw [g2]; exact e2, fun h => by omega, fun h => by omega, av, _, g3, rfl, fun h => by have := (hcl h).1; omega, hmf.move (ev_agree h1)⟩⟩
  · omega

include hu in
theorem step_shift {it : It} {st st1 : St} (hk : it.kind < 3) (h : Step1 ε ops it st st1) : ∃ (o : Oper) (av : AV) (d : Del), ops[it.idx]? = some o ∧ st1 = (d.app st).put o.dst av ∧ d.kind = it.kind ∧
    (it.kind = 1 → it.n = st.recs.length) ∧ (it.kind = 2 → it.n = st.lsts.length) ∧
    ∀ st', (∀ t ∈ o.looksAt ops, st'.slots[t]? = st.slots[t]?) → (∀ l ∈ it.touch, Look st st' l) → (it.kind = 1 → st'.recs.length = st.recs.length) → (it.kind = 2 → st'.lsts.length = st.lsts.length) →
      Step1 ε ops it st' ((d.app st').put o.dst av) := by
  obtain ⟨o, ho, h⟩ := h
  rcases h with ⟨hw, e1, e2, e3, e4, av, st2, hev, rfl, hcl, hmf⟩ | ⟨hw, e1, e2, rfl⟩
  · obtain ⟨d, rfl, hd, hs⟩ := evOp_shift hu (by rw [← e1]; exact hk) hev
    refine ⟨o, av, d, ho, rfl, by rw [hd, e1], e3, e4, fun st' h1 h2 h3 h4 => ?_⟩
    have hcl' : it.cl = true → it.kind = 0 ∧ closedOps st' o.op.operands.toList = true ∧ av.closed = true := fun h => by
      obtain ⟨c1, c2, c3⟩ := hcl h
      exact ⟨c1, by rw [closedOps_agree fun x hx => ev_agree h1 x (by simpa using hx)]; exact c2, c3⟩
    have hmf' := hmf.move (ev_agree h1)
    obtain ⟨g1, g2, g3⟩ := hs st' ⟨ev_agree h1, fun l hl => h2 l (by rw [e2]; exact hl)⟩
    refine ⟨o, ho, .inl ⟨by rw [want_agree h1]; exact hw, by rw [g1]; exact e1, by rw [g2]; exact e2, fun h => by rw [h3 h]; exact e3 h, fun h => by rw [h4 h]; exact e4 h, av, _, g3 (fun h => h3 ?_) (fun h => h4 ?_), rfl, hcl', hmf'⟩⟩
    · rw [e1, ← hd]; exact h
    · rw [e1, ← hd]; exact h
  · refine ⟨o, .tup [], .no, ho, rfl, e1.symm, fun h => by omega, fun h => by omega, fun st' h1 _ _ _ => ⟨o, ho, .inr ⟨by rw [want_agree h1]; exact hw, e1, e2, rfl⟩⟩⟩

theorem put_recs (st : St) (dst : Option Nat) (v : AV) : (st.put dst v).recs = st.recs := by cases dst <;> rfl
theorem put_lsts (st : St) (dst : Option Nat) (v : AV) : (st.put dst v).lsts = st.lsts := by cases dst <;> rfl
theorem put_slot (st : St) (dst : Option Nat) (v : AV) (t : Nat) (h : ∀ d, dst = some d → d ≠ t) : (st.put dst v).slots[t]? = st.slots[t]? := by
  cases dst with
  | none => rfl
  | some d => simp only [St.put]; rw [List.getElem?_set_ne (h d rfl)]
theorem app_slots (d : Del) (st : St) : (d.app st).slots = st.slots := by cases d <;> rfl
theorem app_recs {d : Del} {st : St} (h : d.kind ≠ 1) : (d.app st).recs = st.recs := by cases d <;> simp_all [Del.app, Del.kind]
theorem app_lsts {d : Del} {st : St} (h : d.kind ≠ 2) : (d.app st).lsts = st.lsts := by cases d <;> simp_all [Del.app, Del.kind]
theorem hasR_mem {n : Nat} : ∀ {l : List Loc}, hasR n l = false → .r n ∉ l
  | [], _ => by simp
  | .r m :: l, h => by
    simp only [hasR, Bool.or_eq_false_iff] at h
    intro hm
    rcases List.mem_cons.1 hm with e | e
    · cases e; exact absurd h.1 (by simp)
    · exact hasR_mem h.2 e
  | .l m :: l, h | .n m :: l, h => by
    simp only [hasR] at h
    intro hm
    rcases List.mem_cons.1 hm with e | e
    · cases e
    · exact hasR_mem h e
theorem hasL_mem {n : Nat} : ∀ {l : List Loc}, hasL n l = false → .l n ∉ l
  | [], _ => by simp
  | .l m :: l, h => by
    simp only [hasL, Bool.or_eq_false_iff] at h
    intro hm
    rcases List.mem_cons.1 hm with e | e
    · cases e; exact absurd h.1 (by simp)
    · exact hasL_mem h.2 e
  | .r m :: l, h | .n m :: l, h => by
    simp only [hasL] at h
    intro hm
    rcases List.mem_cons.1 hm with e | e
    · cases e
    · exact hasL_mem h e
theorem getL_app_ne {α : Type} {l : List (Option α)} {y : Option α} {i : Nat} (h : i ≠ l.length) : getL (l ++ [y]) i = getL l i := by
  rcases Nat.lt_or_ge i l.length with h' | h'
  · exact getL_app h'
  · unfold getL
    rw [List.getElem?_eq_none h', List.getElem?_eq_none (by simp; omega)]
/-- What was added is not looked at. -/
theorem look_app {d : Del} {st : St} {dst : Option Nat} {v : AV} {l : Loc} (h1 : d.kind = 1 → l ≠ .r st.recs.length) (h2 : d.kind = 2 → l ≠ .l st.lsts.length) : Look st ((d.app st).put dst v) l := by
  cases l with
  | r r =>
    simp only [Look, put_recs]
    cases d with
    | no => rfl
    | new c => exact getL_app_ne fun e => h1 rfl (by rw [e])
    | lst l => rfl
  | l t =>
    simp only [Look, put_lsts]
    cases d with
    | no => rfl
    | new c => rfl
    | lst l => exact getL_app_ne fun e => h2 rfl (by rw [e])
  | n k => trivial
theorem Look.symm {st st' : St} {l : Loc} (h : Look st st' l) : Look st' st l := by cases l <;> first | exact Eq.symm h | trivial

theorem app_comm {dx dy : Del} {st : St} {vx vy : AV} {x y : Option Nat} (h1 : ¬ (dy.kind = 1 ∧ dx.kind = 1)) (h2 : ¬ (dy.kind = 2 ∧ dx.kind = 2)) (hne : ∀ d, y = some d → x ≠ some d) :
    (dy.app ((dx.app st).put x vx)).put y vy = (dx.app ((dy.app st).put y vy)).put x vx := by
  have hs : ∀ l : List AV, ∀ d e, y = some d → x = some e → (l.set e vx).set d vy = (l.set d vy).set e vx := fun l d e hd he => List.set_comm _ _ fun h => hne d hd (by rw [he, h])
  obtain ⟨sl, rc, ls⟩ := st
  cases dy <;> cases dx <;> first | exact absurd ⟨rfl, rfl⟩ h1 | exact absurd ⟨rfl, rfl⟩ h2 | skip
  all_goals
    cases y <;> cases x <;> simp only [Del.app, St.put]
    rw [hs _ _ _ rfl rfl]
include hu in
theorem swap1 {y x : It} {st st1 st2 : St} (hap : (match ops[y.idx]?, ops[x.idx]? with | some p, some q => p.apart ops q | _, _ => false) = true) (hp : (Nat.blt y.kind 3 && Nat.blt x.kind 3 && !(Nat.beq y.kind 1 && Nat.beq x.kind 1) && !(Nat.beq y.kind 2 && Nat.beq x.kind 2) &&
  !(Nat.beq y.kind 1 && hasR y.n x.touch) && !(Nat.beq y.kind 2 && hasL y.n x.touch) && !(Nat.beq x.kind 1 && hasR x.n y.touch) && !(Nat.beq x.kind 2 && hasL x.n y.touch)) = true) (hy : Step1 ε ops y st st1) (hx : Step1 ε ops x st1 st2) : ∃ st', Step1 ε ops x st st' ∧ Step1 ε ops y st' st2 := by
  simp only [Bool.and_eq_true, Bool.not_eq_true', Bool.and_eq_false_iff] at hp
  obtain ⟨⟨⟨⟨⟨⟨⟨hk1, hk2⟩, h11⟩, h22⟩, p1⟩, p2⟩, p3⟩, p4⟩ := hp
  have hk1 : y.kind < 3 := by simpa using hk1
  have hk2 : x.kind < 3 := by simpa using hk2
  obtain ⟨oy, vy, dy, hoy, rfl, ky, ny, ny2, sy⟩ := step_shift hu hk1 hy
  obtain ⟨ox, vx, dx, hox, rfl, kx, nx, nx2, sx⟩ := step_shift hu hk2 hx
  rw [hoy, hox] at hap
  obtain ⟨a1, a2, a3⟩ := Oper.apart_spec (show oy.apart ops ox = true from hap)
  have n11 : ¬ (y.kind = 1 ∧ x.kind = 1) := fun h => by rw [h.1, h.2] at h11; simp at h11
  have n22 : ¬ (y.kind = 2 ∧ x.kind = 2) := fun h => by rw [h.1, h.2] at h22; simp at h22
  have q1 : y.kind = 1 → .r y.n ∉ x.touch := fun h => hasR_mem (p1.resolve_left (by rw [h]; simp))
  have q2 : y.kind = 2 → .l y.n ∉ x.touch := fun h => hasL_mem (p2.resolve_left (by rw [h]; simp))
  have q3 : x.kind = 1 → .r x.n ∉ y.touch := fun h => hasR_mem (p3.resolve_left (by rw [h]; simp))
  have q4 : x.kind = 2 → .l x.n ∉ y.touch := fun h => hasL_mem (p4.resolve_left (by rw [h]; simp))
  have r1 : x.kind = 1 → ((dy.app st).put oy.dst vy).recs.length = st.recs.length := fun h => by
    rw [put_recs, app_recs]; intro e; exact n11 ⟨ky ▸ e, h⟩
  have r2 : x.kind = 2 → ((dy.app st).put oy.dst vy).lsts.length = st.lsts.length := fun h => by
    rw [put_lsts, app_lsts]; intro e; exact n22 ⟨ky ▸ e, h⟩
  have hx' := sx st (fun t ht => by rw [put_slot _ _ _ _ fun d hd e => a1 d hd (e ▸ ht), app_slots]) (fun l hl => (look_app (fun e el => ?_) (fun e el => ?_)).symm) (fun h => (r1 h).symm) (fun h => (r2 h).symm)
  · have hy' := sy ((dx.app st).put ox.dst vx) (fun t ht => by rw [put_slot _ _ _ _ fun d hd e => a3 d hd (e ▸ ht), app_slots]) (fun l hl => look_app (fun e el => ?_) (fun e el => ?_)) (fun h => ?_) (fun h => ?_)
    · refine ⟨_, hx', ?_⟩
      have fin := app_comm (st := st) (dx := dx) (dy := dy) (vx := vx) (vy := vy) (x := ox.dst) (y := oy.dst) (fun h => n11 ⟨ky ▸ h.1, kx ▸ h.2⟩) (fun h => n22 ⟨ky ▸ h.1, kx ▸ h.2⟩) (fun d h h' => a2 d h h')
      rw [← fin]; exact hy'
    · subst el; have hk := kx ▸ e; rw [← r1 hk, ← nx hk] at hl; exact q3 hk hl
    · subst el; have hk := kx ▸ e; rw [← r2 hk, ← nx2 hk] at hl; exact q4 hk hl
    · rw [put_recs, app_recs]; intro e; exact n11 ⟨h, kx ▸ e⟩
    · rw [put_lsts, app_lsts]; intro e; exact n22 ⟨h, kx ▸ e⟩
  · subst el; have hk := ky ▸ e; rw [← ny hk] at hl; exact q1 hk hl
  · subst el; have hk := ky ▸ e; rw [← ny2 hk] at hl; exact q2 hk hl

theorem killSet_slot (t : Nat) (l : LObj) (st : St) (i : Nat) : (killSet t l st).slots[i]? = (st.slots[i]?).map (AV.kill t) := by simp [killSet, St.mapAV]
theorem killSet_put (t : Nat) (l : LObj) (st : St) (x y : Option Nat) (vx vy : AV) (hc : vx.closed = true) (hne : ∀ d, y = some d → x ≠ some d) : (killSet t l (st.put x vx)).put y vy = ((killSet t l st).put y vy).put x vx := by
  obtain ⟨sl, rc, ls⟩ := st
  cases x <;> cases y <;> simp only [killSet, St.put, St.mapAV]
  · rw [List.map_set, AV.closed_kill t hc]
  · rename_i e d
    rw [List.map_set, AV.closed_kill t hc, List.set_comm _ _ fun h => hne d rfl (by rw [h])]
theorem put_look (st : St) (x : Option Nat) (v : AV) (l : Loc) : Look st (st.put x v) l := by cases l <;> simp only [Look, put_recs, put_lsts]
theorem ev_kill {st st' : St} {t : Nat} {x : Operand} (h : ∀ d, x = .tmp d → st'.slots[d]? = (st.slots[d]?).map (AV.kill t)) : st'.ev x = (st.ev x).kill t ∨ st'.ev x = st.ev x := by
  cases x with
  | tmp d =>
    refine .inl ?_
    simp only [St.ev, List.getD_eq_getElem?_getD]
    rw [h d rfl]
    cases st.slots[d]? <;> simp [AV.kill]
  | const v => exact .inr rfl
  | global g => exact .inr rfl
  | func f => exact .inr rfl
theorem opnd_looks {o : Oper} {x : Operand} (hx : x ∈ o.op.operands) {d : Nat} (e : x = .tmp d) : d ∈ o.looksAt ops :=
  List.mem_append_left _ (List.mem_filterMap.2 ⟨.tmp d, by subst e; simpa using hx, rfl⟩)
include hu in
theorem swap2 {y x : It} {st st1 st2 : St} (hap : (match ops[y.idx]?, ops[x.idx]? with | some p, some q => p.apart ops q | _, _ => false) = true) (hk : y.kind = 4) (hc : x.cl = true) (hy : Step1 ε ops y st st1) (hx : Step1 ε ops x st1 st2) : ∃ st', Step1 ε ops x st st' ∧ Step1 ε ops y st' st2 := by
  obtain ⟨oy, vy, t, l, hoy, _, _, rfl, sy⟩ := step_app hk hy
  obtain ⟨ox, vx, hox, rfl, hvx, hcl, sx⟩ := step_cl hu hc hx
  rw [hoy, hox] at hap
  obtain ⟨a1, a2, a3⟩ := Oper.apart_spec (show oy.apart ops ox = true from hap)
  have sl : ∀ d ∈ ox.looksAt ops, ((killSet t l st).put oy.dst vy).slots[d]? = (st.slots[d]?).map (AV.kill t) := fun d hd => by
    rw [put_slot _ _ _ _ fun e he h => a1 e he (h ▸ hd), killSet_slot]
  refine ⟨st.put ox.dst vx, sx st (fun b hb => (want_kill fun d hd => sl d (gslot_looks hd)).1 hb) (fun hw x hx => ?_), ?_⟩
  · rcases ev_kill (t := t) (x := x) (st := st) (fun d e => sl d (opnd_looks hx e)) with h | h
    · have := hcl hw x hx
      rw [h] at this ⊢
      exact (AV.kill_closed t this).symm
    · exact h.symm
  · have := sy (st.put ox.dst vx) (fun i hi => put_slot _ _ _ _ fun e he h => a3 e he (h ▸ hi)) (fun l => put_look _ _ _ _)
    rwa [killSet_put t l st ox.dst oy.dst vx vy hvx a2] at this
include hu in
theorem swap3 {y x : It} {st st1 st2 : St} (hap : (match ops[y.idx]?, ops[x.idx]? with | some p, some q => p.apart ops q | _, _ => false) = true) (hc : y.cl = true) (hk : x.kind = 4) (hy : Step1 ε ops y st st1) (hx : Step1 ε ops x st1 st2) : ∃ st', Step1 ε ops x st st' ∧ Step1 ε ops y st' st2 := by
  obtain ⟨oy, vy, hoy, rfl, hvy, hcl, sy⟩ := step_cl hu hc hy
  obtain ⟨ox, vx, t, l, hox, _, _, rfl, sx⟩ := step_app hk hx
  rw [hoy, hox] at hap
  obtain ⟨a1, a2, a3⟩ := Oper.apart_spec (show oy.apart ops ox = true from hap)
  refine ⟨(killSet t l st).put ox.dst vx, sx st (fun i hi => (put_slot _ _ _ _ fun e he h => a1 e he (h ▸ hi)).symm) (fun l => (put_look _ _ _ _).symm), ?_⟩
  have sl : ∀ d ∈ oy.looksAt ops, ((killSet t l st).put ox.dst vx).slots[d]? = (st.slots[d]?).map (AV.kill t) := fun d hd => by
    rw [put_slot _ _ _ _ fun e he h => a3 e he (h ▸ hd), killSet_slot]
  have := sy ((killSet t l st).put ox.dst vx) (fun b hb => (want_kill fun d hd => sl d (gslot_looks hd)).2 hb) (fun hw x hx => by
    rcases ev_kill (t := t) (x := x) (st := st) (fun d e => sl d (opnd_looks hx e)) with h | h
    · rw [h]; exact AV.closed_kill t (hcl hw x hx)
    · exact h)
  rwa [killSet_put t l st oy.dst ox.dst vy vx hvy fun d hd h => a2 d h hd]
/-- One that writes into a record of the call's own. -/
theorem step_sto {it : It} {st st1 : St} (hk : it.kind = 5) (h : Step1 ε ops it st st1) : ∃ (o : Oper) (av : AV) (r : Nat) (c : List AV), ops[it.idx]? = some o ∧ it.n = r ∧ (getL st.recs r).isSome = true ∧ st1 = (storeSet r c st).put o.dst av ∧
    ∀ st', (∀ i ∈ o.looksAt ops, st'.slots[i]? = st.slots[i]?) → getL st'.recs r = getL st.recs r → Step1 ε ops it st' ((storeSet r c st').put o.dst av) := by
  obtain ⟨o, ho, h⟩ := h
  rcases h with ⟨hw, e1, e2, e3, e4, av, st2, hev, rfl, hcl, hmf⟩ | ⟨hw, e1, e2, rfl⟩
  · obtain ⟨r, c, htg, hr, rfl, hs⟩ := evOp_shift5 (by rw [← e1]; exact hk) hev
    refine ⟨o, av, r, c, ho, by rw [hmf.2.2 (by omega)]; exact htg, hr, rfl, fun st' h1 h2 => ?_⟩
    obtain ⟨g1, g2, g3⟩ := hs st' (ev_agree h1) h2
    exact ⟨o, ho, .inl ⟨by rw [want_agree h1]; exact hw, by rw [g1]; exact hk, by rw [g2]; exact e2, fun h => by omega, fun h => by omega, av, _, g3, rfl, fun h => by have := (hcl h).1; omega, hmf.move (ev_agree h1)⟩⟩
  · omega
/-- One that writes into a list of the call's own. -/
theorem step_sto6 {it : It} {st st1 : St} (hk : it.kind = 6) (h : Step1 ε ops it st st1) : ∃ (o : Oper) (av : AV) (q : Nat) (c : LObj), ops[it.idx]? = some o ∧ it.n = q ∧ (getL st.lsts q).isSome = true ∧ st1 = (lstSet q c st).put o.dst av ∧
    ∀ st', (∀ i ∈ o.looksAt ops, st'.slots[i]? = st.slots[i]?) → getL st'.lsts q = getL st.lsts q → Step1 ε ops it st' ((lstSet q c st').put o.dst av) := by
  obtain ⟨o, ho, h⟩ := h
  rcases h with ⟨hw, e1, e2, e3, e4, av, st2, hev, rfl, hcl, hmf⟩ | ⟨hw, e1, e2, rfl⟩
  · obtain ⟨r, c, htg, hr, rfl, hs⟩ := evOp_shift6 (by rw [← e1]; exact hk) hev
    refine ⟨o, av, r, c, ho, by rw [hmf.2.2 (by omega)]; exact htg, hr, rfl, fun st' h1 h2 => ?_⟩
    obtain ⟨g1, g2, g3⟩ := hs st' (ev_agree h1) h2
    exact ⟨o, ho, .inl ⟨by rw [want_agree h1]; exact hw, by rw [g1]; exact hk, by rw [g2]; exact e2, fun h => by omega, fun h => by omega, av, _, g3, rfl, fun h => by have := (hcl h).1; omega, hmf.move (ev_agree h1)⟩⟩
  · omega
include hu in
/-- One that looks at no record's cells. -/
theorem step_mf {it : It} {st st1 : St} (hc : it.mf = true) (h : Step1 ε ops it st st1) : ∃ (o : Oper) (av : AV), ops[it.idx]? = some o ∧ st1 = st.put o.dst av ∧
    ∀ st', (∀ t ∈ o.looksAt ops, st'.slots[t]? = st.slots[t]?) → (∀ r, (getL st'.recs r).isSome = (getL st.recs r).isSome) → st'.recs.length = st.recs.length → st'.lsts = st.lsts → Step1 ε ops it st' (st'.put o.dst av) := by
  obtain ⟨o, ho, h⟩ := h
  rcases h with ⟨hw, e1, e2, e3, e4, av, st2, hev, rfl, hcl, hmf⟩ | ⟨hw, e1, e2, rfl⟩
  · obtain ⟨c1, c2⟩ := hmf.1 hc
    obtain ⟨d, hd1, hd, hs⟩ := evOp_shift hu (by rw [← e1, c1]; decide) hev
    have hd0 : d = .no := by
      rw [← e1, c1] at hd
      cases d <;> simp [Del.kind] at hd; rfl
    subst hd0
    have e0 : st2 = st := hd1
    subst e0
    refine ⟨o, av, ho, rfl, fun st' h1 h2 h3 h4 => ?_⟩
    have hev' := ev_agree (ops := ops) h1
    have hk' : kindOf ε st' o = kindOf ε st2 o ∧ touchOf st' o = touchOf st2 o ∧ evOp ε st' o two = some (av, st') := by
      rcases c2 with c2 | c2
      · refine ⟨?_, touch_agree (ts := []) ⟨hev', fun l hl => by cases hl⟩, (evOp_mf c2 hev).2 st' hev' h2 h4⟩
        cases hop : o.op <;> rw [hop] at c2 <;> simp only [memfree] at c2 <;> first | (cases c2; done) | simp only [kindOf, hop]
      · obtain ⟨g1, g2, g3⟩ := hs st' ⟨hev', fun l hl => by rw [closedOps_touch c2] at hl; cases hl⟩
        exact ⟨g1, g2, g3 (fun h => by simp [Del.kind] at h) (fun h => by simp [Del.kind] at h)⟩
    obtain ⟨g1, g2, g3⟩ := hk'
    refine ⟨o, ho, .inl ⟨by rw [want_agree h1]; exact hw, by rw [g1]; exact e1, by rw [g2]; exact e2, fun h => by omega, fun h => by omega, av, _, g3, rfl, fun h => ?_, hmf.move hev'⟩⟩
    obtain ⟨c1, c2, c3⟩ := hcl h
    exact ⟨c1, by rw [closedOps_agree fun x hx => hev' x (by simpa using hx)]; exact c2, c3⟩
  · exact ⟨o, .tup [], ho, rfl, fun st' h1 _ _ _ => ⟨o, ho, .inr ⟨by rw [want_agree h1]; exact hw, e1, e2, rfl⟩⟩⟩
theorem storeSet_slot (r : Nat) (c : List AV) (st : St) (i : Nat) : (storeSet r c st).slots[i]? = st.slots[i]? := rfl
theorem storeSet_live {r : Nat} {c : List AV} {st : St} (hr : (getL st.recs r).isSome = true) (q : Nat) : (getL (storeSet r c st).recs q).isSome = (getL st.recs q).isSome := by
  obtain ⟨x, hx⟩ := Option.isSome_iff_exists.1 hr
  simp only [storeSet]
  rw [getL_set (getL_lt hx)]
  split
  · rename_i e; rw [e, hr]; rfl
  · rfl
theorem storeSet_put (r : Nat) (c : List AV) (st : St) (x y : Option Nat) (vx vy : AV) (hne : ∀ d, y = some d → x ≠ some d) : (storeSet r c (st.put x vx)).put y vy = ((storeSet r c st).put y vy).put x vx := by
  obtain ⟨sl, rc, ls⟩ := st
  cases x <;> cases y <;> simp only [storeSet, St.put]
  rename_i e d
  rw [List.set_comm _ _ fun h => hne d rfl (by rw [h])]
include hu in
theorem swap4 {y x : It} {st st1 st2 : St} (hap : (match ops[y.idx]?, ops[x.idx]? with | some p, some q => p.apart ops q | _, _ => false) = true) (hk : y.kind = 5) (hc : x.mf = true) (hy : Step1 ε ops y st st1) (hx : Step1 ε ops x st1 st2) : ∃ st', Step1 ε ops x st st' ∧ Step1 ε ops y st' st2 := by
  obtain ⟨oy, vy, r, c, hoy, _, hr, rfl, sy⟩ := step_sto hk hy
  obtain ⟨ox, vx, hox, rfl, sx⟩ := step_mf hu hc hx
  rw [hoy, hox] at hap
  obtain ⟨a1, a2, a3⟩ := Oper.apart_spec (show oy.apart ops ox = true from hap)
  refine ⟨st.put ox.dst vx, sx st (fun d hd => ?_) (fun q => ?_) ?_ ?_, ?_⟩
  · rw [put_slot _ _ _ _ fun e he h => a1 e he (h ▸ hd), storeSet_slot]
  · rw [put_recs, storeSet_live hr]
  · rw [put_recs]; simp [storeSet]
  · rw [put_lsts]; rfl
  · have := sy (st.put ox.dst vx) (fun i hi => put_slot _ _ _ _ fun e he h => a3 e he (h ▸ hi)) (by rw [put_recs])
    rwa [storeSet_put r c st ox.dst oy.dst vx vy a2] at this
include hu in
theorem swap5 {y x : It} {st st1 st2 : St} (hap : (match ops[y.idx]?, ops[x.idx]? with | some p, some q => p.apart ops q | _, _ => false) = true) (hc : y.mf = true) (hk : x.kind = 5) (hy : Step1 ε ops y st st1) (hx : Step1 ε ops x st1 st2) : ∃ st', Step1 ε ops x st st' ∧ Step1 ε ops y st' st2 := by
  obtain ⟨oy, vy, hoy, rfl, sy⟩ := step_mf hu hc hy
  obtain ⟨ox, vx, r, c, hox, _, hr, rfl, sx⟩ := step_sto hk hx
  rw [hoy, hox] at hap
  obtain ⟨a1, a2, a3⟩ := Oper.apart_spec (show oy.apart ops ox = true from hap)
  rw [put_recs] at hr
  refine ⟨(storeSet r c st).put ox.dst vx, sx st (fun i hi => (put_slot _ _ _ _ fun e he h => a1 e he (h ▸ hi)).symm) (by rw [put_recs]), ?_⟩
  have := sy ((storeSet r c st).put ox.dst vx) (fun d hd => by rw [put_slot _ _ _ _ fun e he h => a3 e he (h ▸ hd), storeSet_slot]) (fun q => by rw [put_recs, storeSet_live hr]) (by rw [put_recs]; simp [storeSet]) (by rw [put_lsts]; rfl)
  rwa [storeSet_put r c st oy.dst ox.dst vy vx fun d hd h => a2 d h hd]

/-! #### Writing, and what does not look there -/
inductive Wr | mkR (r : Nat) (c : List AV) | mkL (q : Nat) (o : LObj)
def Wr.app : Wr → St → St | .mkR r c => storeSet r c | .mkL q o => lstSet q o
def Wr.loc : Wr → Loc | .mkR r _ => .r r | .mkL q _ => .l q
def Wr.live (W : Wr) (st : St) : Prop := match W with | .mkR r _ => (getL st.recs r).isSome = true | .mkL q _ => (getL st.lsts q).isSome = true
def It.at_ (it : It) (W : Wr) : Prop := match W with | .mkR r _ => it.kind = 5 ∧ it.n = r | .mkL q _ => it.kind = 6 ∧ it.n = q
theorem step_wr {it : It} {st st1 : St} (hk : it.kind = 5 ∨ it.kind = 6) (h : Step1 ε ops it st st1) : ∃ (o : Oper) (av : AV) (W : Wr), ops[it.idx]? = some o ∧ it.at_ W ∧ W.live st ∧ st1 = (W.app st).put o.dst av ∧
    ∀ st', (∀ i ∈ o.looksAt ops, st'.slots[i]? = st.slots[i]?) → Look st st' W.loc → Step1 ε ops it st' ((W.app st').put o.dst av) := by
  rcases hk with hk | hk
  · obtain ⟨o, av, r, c, h1, h2, h3, h4, h5⟩ := step_sto hk h
    exact ⟨o, av, .mkR r c, h1, ⟨hk, h2⟩, h3, h4, fun st' g1 g2 => h5 st' g1 g2⟩
  · obtain ⟨o, av, q, c, h1, h2, h3, h4, h5⟩ := step_sto6 hk h
    exact ⟨o, av, .mkL q c, h1, ⟨hk, h2⟩, h3, h4, fun st' g1 g2 => h5 st' g1 g2⟩
theorem Wr.slots (W : Wr) (st : St) : (W.app st).slots = st.slots := by cases W <;> rfl
theorem Wr.look {W : Wr} {st : St} (hl : W.live st) {l : Loc} (h : l ≠ W.loc) : Look st (W.app st) l := by
  cases W with
  | mkR r c =>
    obtain ⟨x, hx⟩ := Option.isSome_iff_exists.1 hl
    cases l with
    | r q =>
      simp only [Look, Wr.app, storeSet]
      rw [getL_set (getL_lt hx), if_neg (by intro e; exact h (by rw [e]; rfl))]
    | l t => rfl
    | n k => trivial
  | mkL t o =>
    obtain ⟨x, hx⟩ := Option.isSome_iff_exists.1 hl
    cases l with
    | l q =>
      simp only [Look, Wr.app, lstSet]
      rw [getL_set (getL_lt hx), if_neg (by intro e; exact h (by rw [e]; rfl))]
    | r t => rfl
    | n k => trivial
theorem Wr.lens (W : Wr) (st : St) : (W.app st).recs.length = st.recs.length ∧ (W.app st).lsts.length = st.lsts.length := by cases W <;> simp [Wr.app, storeSet, lstSet]
theorem Wr.put (W : Wr) (st : St) (x : Option Nat) (v : AV) : W.app (st.put x v) = (W.app st).put x v := by
  cases W <;> cases x <;> rfl
theorem put_comm (st : St) (x y : Option Nat) (vx vy : AV) (hne : ∀ d, y = some d → x ≠ some d) : (st.put x vx).put y vy = (st.put y vy).put x vx := by
  cases x <;> cases y <;> simp only [St.put]
  rename_i e d
  rw [List.set_comm _ _ fun h => hne d rfl (by rw [h])]
theorem Wr.del {W : Wr} {st : St} (hl : W.live st) (d : Del) : W.app (d.app st) = d.app (W.app st) ∧ W.live (d.app st) := by
  cases W with
  | mkR r c =>
    obtain ⟨x, hx⟩ := Option.isSome_iff_exists.1 hl
    cases d with
    | no => exact ⟨rfl, hl⟩
    | lst l => exact ⟨rfl, hl⟩
    | new c' => exact ⟨by simp only [Wr.app, storeSet, Del.app]; rw [List.set_append_left _ _ (getL_lt hx)], by simp only [Wr.live, Del.app]; rw [getL_app (getL_lt hx)]; exact hl⟩
  | mkL t o =>
    obtain ⟨x, hx⟩ := Option.isSome_iff_exists.1 hl
    cases d with
    | no => exact ⟨rfl, hl⟩
    | new l => exact ⟨rfl, hl⟩
    | lst c' => exact ⟨by simp only [Wr.app, lstSet, Del.app]; rw [List.set_append_left _ _ (getL_lt hx)], by simp only [Wr.live, Del.app]; rw [getL_app (getL_lt hx)]; exact hl⟩
theorem look_trans {a b c : St} {l : Loc} (h1 : Look a b l) (h2 : Look b c l) : Look a c l := by cases l <;> first | exact Eq.trans h2 h1 | trivial
theorem look_put (st : St) (x : Option Nat) (v : AV) (l : Loc) : Look st (st.put x v) l := by cases l <;> first | (simp only [Look, put_recs, put_lsts]; done) | trivial
theorem look_del {d : Del} {st : St} {W : Wr} (hl : W.live st) : Look st (d.app st) W.loc := by
  cases W with
  | mkR r c => obtain ⟨x, hx⟩ := Option.isSome_iff_exists.1 hl; cases d <;> first | rfl | exact getL_app (getL_lt hx)
  | mkL t o => obtain ⟨x, hx⟩ := Option.isSome_iff_exists.1 hl; cases d <;> first | rfl | exact getL_app (getL_lt hx)
/-- What another one makes is not that place. -/
def Apart (x : It) (W : Wr) : Prop := match W with | .mkR r _ => ¬ (x.kind = 1 ∧ x.n = r) | .mkL q _ => ¬ (x.kind = 2 ∧ x.n = q)
theorem wrOk_of {y x : It} {W : Wr} (hW : y.at_ W) (h : wrOk y x = true) : x.kind < 3 ∧ W.loc ∉ x.touch ∧ Apart x W := by
  unfold wrOk at h
  cases W with
  | mkR r c =>
    obtain ⟨h1, h2⟩ := hW
    rw [h1, h2] at h
    simp only [Bool.or_eq_true, Bool.and_eq_true, Bool.not_eq_true', Bool.and_eq_false_iff] at h
    rcases h with ⟨⟨⟨_, h3⟩, h4⟩, h5⟩ | ⟨⟨⟨h3, _⟩, _⟩, _⟩
    · refine ⟨by simpa using h3, hasR_mem h4, fun h6 => ?_⟩
      rw [h6.1, h6.2] at h5; simp at h5
    · simp at h3
  | mkL q o =>
    obtain ⟨h1, h2⟩ := hW
    rw [h1, h2] at h
    simp only [Bool.or_eq_true, Bool.and_eq_true, Bool.not_eq_true', Bool.and_eq_false_iff] at h
    rcases h with ⟨⟨⟨h3, _⟩, _⟩, _⟩ | ⟨⟨⟨_, h3⟩, h4⟩, h5⟩
    · simp at h3
    · refine ⟨by simpa using h3, hasL_mem h4, fun h6 => ?_⟩
      rw [h6.1, h6.2] at h5; simp at h5
theorem wrOk_kind {y x : It} (h : wrOk y x = true) : y.kind = 5 ∨ y.kind = 6 := by
  unfold wrOk at h
  simp only [Bool.or_eq_true, Bool.and_eq_true] at h
  rcases h with ⟨⟨⟨h, _⟩, _⟩, _⟩ | ⟨⟨⟨h, _⟩, _⟩, _⟩
  · exact .inl (by simpa using h)
  · exact .inr (by simpa using h)
include hu in
theorem swap6 {y x : It} {st st1 st2 : St} (hap : (match ops[y.idx]?, ops[x.idx]? with | some p, some q => p.apart ops q | _, _ => false) = true) (hp : wrOk y x = true) (hy : Step1 ε ops y st st1) (hx : Step1 ε ops x st1 st2) : ∃ st', Step1 ε ops x st st' ∧ Step1 ε ops y st' st2 := by
  obtain ⟨oy, vy, W, hoy, hW, hl, rfl, sy⟩ := step_wr (wrOk_kind hp) hy
  obtain ⟨hk, ht, _⟩ := wrOk_of hW hp
  obtain ⟨ox, vx, d, hox, rfl, kx, nx, nx2, sx⟩ := step_shift hu hk hx
  rw [hoy, hox] at hap
  obtain ⟨a1, a2, a3⟩ := Oper.apart_spec (show oy.apart ops ox = true from hap)
  refine ⟨(d.app st).put ox.dst vx, sx st (fun i hi => ?_) (fun l hl' => ?_) (fun _ => ?_) (fun _ => ?_), ?_⟩
  · rw [put_slot _ _ _ _ fun e he h => a1 e he (h ▸ hi), W.slots]
  · exact (look_trans (W.look hl fun e => ht (e ▸ hl')) (look_put _ _ _ _)).symm
  · rw [put_recs, (W.lens st).1]
  · rw [put_lsts, (W.lens st).2]
  · have := sy ((d.app st).put ox.dst vx) (fun i hi => by rw [put_slot _ _ _ _ fun e he h => a3 e he (h ▸ hi), app_slots]) (look_trans (look_del hl) (look_put _ _ _ _))
    rw [W.put, (W.del hl d).1, put_comm _ _ _ _ _ a2] at this
    have e : (d.app ((W.app st).put oy.dst vy)).put ox.dst vx = ((d.app (W.app st)).put oy.dst vy).put ox.dst vx := by congr 1; cases d <;> cases oy.dst <;> rfl
    rw [e]; exact this
theorem del_put (d : Del) (st : St) (x : Option Nat) (v : AV) : d.app (st.put x v) = (d.app st).put x v := by cases d <;> cases x <;> rfl
include hu in
theorem swap7 {y x : It} {st st1 st2 : St} (hap : (match ops[y.idx]?, ops[x.idx]? with | some p, some q => p.apart ops q | _, _ => false) = true) (hp : wrOk x y = true) (hy : Step1 ε ops y st st1) (hx : Step1 ε ops x st1 st2) : ∃ st', Step1 ε ops x st st' ∧ Step1 ε ops y st' st2 := by
  have hk : y.kind < 3 := by
    obtain ⟨_, _, W, _, hW, _⟩ := step_wr (wrOk_kind hp) hx
    exact (wrOk_of hW hp).1
  obtain ⟨oy, vy, d, hoy, rfl, ky, ny, ny2, sy⟩ := step_shift hu hk hy
  obtain ⟨ox, vx, W, hox, hW, hl, rfl, sx⟩ := step_wr (wrOk_kind hp) hx
  obtain ⟨_, ht, hapt⟩ := wrOk_of hW hp
  rw [hoy, hox] at hap
  obtain ⟨a1, a2, a3⟩ := Oper.apart_spec (show oy.apart ops ox = true from hap)
  have hl0 : W.live st := by
    cases W with
    | mkR r c =>
      have hl' : (getL (d.app st).recs r).isSome = true := by simpa only [Wr.live, put_recs] using hl
      cases d with
      | no => exact hl'
      | lst l => exact hl'
      | new c' =>
        by_cases e : r = st.recs.length
        · have h1 : y.kind = 1 := ky.symm
          exact absurd ⟨h1, by rw [ny h1, e]⟩ hapt
        · simp only [Del.app] at hl'; rw [getL_app_ne e] at hl'; exact hl'
    | mkL q o =>
      have hl' : (getL (d.app st).lsts q).isSome = true := by simpa only [Wr.live, put_lsts] using hl
      cases d with
      | no => exact hl'
      | new l => exact hl'
      | lst c' =>
        by_cases e : q = st.lsts.length
        · have h1 : y.kind = 2 := ky.symm
          exact absurd ⟨h1, by rw [ny2 h1, e]⟩ hapt
        · simp only [Del.app] at hl'; rw [getL_app_ne e] at hl'; exact hl'
  refine ⟨(W.app st).put ox.dst vx, sx st (fun i hi => ?_) (look_trans (look_del (d := d) hl0) (look_put _ _ _ _)).symm, ?_⟩
  · rw [put_slot _ _ _ _ fun e he h => a1 e he (h ▸ hi), app_slots]
  · have := sy ((W.app st).put ox.dst vx) (fun i hi => by rw [put_slot _ _ _ _ fun e he h => a3 e he (h ▸ hi), W.slots]) (fun l hl' => look_trans (W.look hl0 fun e => ht (e ▸ hl')) (look_put _ _ _ _)) (fun _ => by rw [put_recs, (W.lens st).1]) (fun _ => by rw [put_lsts, (W.lens st).2])
    rw [del_put, ← (W.del hl0 d).1] at this
    rw [W.put, put_comm _ _ _ _ _ fun e he h => a2 e h he]
    exact this
theorem wr2_kind {y x : It} (h : wr2Ok y x = true) : (y.kind = 5 ∨ y.kind = 6) ∧ (x.kind = 5 ∨ x.kind = 6) := by
  unfold wr2Ok at h
  simp only [Bool.or_eq_true, Bool.and_eq_true] at h
  rcases h with ((⟨h1, h2⟩ | ⟨h1, h2⟩) | ⟨⟨h1, h2⟩, _⟩) | ⟨⟨h1, h2⟩, _⟩
  · exact ⟨.inl (by simpa using h1), .inr (by simpa using h2)⟩
  · exact ⟨.inr (by simpa using h1), .inl (by simpa using h2)⟩
  · exact ⟨.inl (by simpa using h1), .inl (by simpa using h2)⟩
  · exact ⟨.inr (by simpa using h1), .inr (by simpa using h2)⟩
theorem wr2_ne {y x : It} {Wy Wx : Wr} (h : wr2Ok y x = true) (hy : y.at_ Wy) (hx : x.at_ Wx) : Wy.loc ≠ Wx.loc := by
  intro e
  unfold wr2Ok at h
  cases Wy <;> cases Wx <;> simp only [Wr.loc] at e <;> cases e
  · obtain ⟨a1, a2⟩ := hy; obtain ⟨b1, b2⟩ := hx
    rw [a1, a2, b1, b2] at h; simp at h
  · obtain ⟨a1, a2⟩ := hy; obtain ⟨b1, b2⟩ := hx
    rw [a1, a2, b1, b2] at h; simp at h
theorem Wr.comm {Wy Wx : Wr} {st : St} (h : Wy.loc ≠ Wx.loc) : Wy.app (Wx.app st) = Wx.app (Wy.app st) := by
  cases Wy <;> cases Wx <;> simp only [Wr.loc] at h <;> simp only [Wr.app, storeSet, lstSet]
  · rw [List.set_comm _ _ fun e => h (by rw [e])]
  · rw [List.set_comm _ _ fun e => h (by rw [e])]
theorem Wr.live_app {Wy Wx : Wr} {st : St} (h : Wy.loc ≠ Wx.loc) (hl : Wx.live st) : Wy.live (Wx.app st) ↔ Wy.live st := by
  have := Wx.look hl (l := Wy.loc) h
  cases Wy <;> simp only [Look, Wr.loc, Wr.live] at this ⊢ <;> rw [this]
theorem swap8 {y x : It} {st st1 st2 : St} (hap : (match ops[y.idx]?, ops[x.idx]? with | some p, some q => p.apart ops q | _, _ => false) = true) (hp : wr2Ok y x = true) (hy : Step1 ε ops y st st1) (hx : Step1 ε ops x st1 st2) : ∃ st', Step1 ε ops x st st' ∧ Step1 ε ops y st' st2 := by
  obtain ⟨hky, hkx⟩ := wr2_kind hp
  obtain ⟨oy, vy, Wy, hoy, hWy, hly, rfl, sy⟩ := step_wr hky hy
  obtain ⟨ox, vx, Wx, hox, hWx, hlx, rfl, sx⟩ := step_wr hkx hx
  have hne := wr2_ne hp hWy hWx
  rw [hoy, hox] at hap
  obtain ⟨a1, a2, a3⟩ := Oper.apart_spec (show oy.apart ops ox = true from hap)
  have hlx0 : Wx.live st := by
    have : Wx.live (Wy.app st) := by cases Wx <;> simpa only [Wr.live, put_recs, put_lsts] using hlx
    exact (Wr.live_app (Ne.symm hne) hly).1 this
  refine ⟨(Wx.app st).put ox.dst vx, sx st (fun i hi => ?_) (look_trans (Wy.look hly (Ne.symm hne)) (look_put _ _ _ _)).symm, ?_⟩
  · rw [put_slot _ _ _ _ fun e he h => a1 e he (h ▸ hi), Wy.slots]
  · have := sy ((Wx.app st).put ox.dst vx) (fun i hi => by rw [put_slot _ _ _ _ fun e he h => a3 e he (h ▸ hi), Wx.slots]) (look_trans (Wx.look hlx0 hne) (look_put _ _ _ _))
    rw [Wr.put, Wr.comm hne] at this
    rw [Wr.put, put_comm _ _ _ _ _ fun e he h => a2 e h he]
    exact this

/-! #### Appending, and what does not look there -/
theorem killed_of (t : Nat) (l : LObj) (st : St) (y : Option Nat) (v : AV) : Killed t st ((killSet t l st).put y v) := by
  refine ⟨fun r => ?_, fun q hq => ?_⟩
  · rw [put_recs]; simp only [killSet, St.mapAV]; rw [getL_map]
  · rw [put_lsts]; simp only [killSet, St.mapAV]
    unfold getL; rw [List.getElem?_set_ne (Ne.symm hq)]
theorem ev_kill' {st st' : St} {t : Nat} {x : Operand} (h : ∀ d, x = .tmp d → st'.slots[d]? = (st.slots[d]?).map (AV.kill t)) : st'.ev x = (st.ev x).kill t := by
  cases x with
  | tmp d =>
    simp only [St.ev, List.getD_eq_getElem?_getD]
    rw [h d rfl]
    cases st.slots[d]? <;> simp [AV.kill]
  | const v =>
    have h1 : ∀ v, (ofConst1 v).kill t = ofConst1 v := fun v => by unfold ofConst1; split <;> simp [AV.kill]
    have h2 : ∀ l : List Value, killL t (l.map ofConst1) = l.map ofConst1 := by
      intro l
      induction l with
      | nil => rfl
      | cons v l ih => simp only [List.map_cons, killL, h1, ih]
    simp only [St.ev]; unfold ofConst; split
    · simp only [AV.kill, h2]
    · exact (h1 _).symm
  | global g => simp [St.ev, AV.kill]
  | func f => simp [St.ev, AV.kill, killL]
theorem killSet_put' (t : Nat) (l : LObj) (st : St) (x y : Option Nat) (vx vy : AV) (hne : ∀ d, y = some d → x ≠ some d) : (killSet t l (st.put x vx)).put y vy = ((killSet t l st).put y vy).put x (vx.kill t) := by
  obtain ⟨sl, rc, ls⟩ := st
  cases x <;> cases y <;> simp only [killSet, St.put, St.mapAV]
  · rw [List.map_set]
  · rename_i e d
    rw [List.map_set, List.set_comm _ _ fun h => hne d rfl (by rw [h])]
theorem hom_kind {o : Oper} {st st' : St} (h : homOp o.op = true) : kindOf ε st' o = kindOf ε st o := by
  obtain ⟨dst, op, type, pos, after, guard⟩ := o
  cases op <;> simp only [homOp] at h <;> first | (cases h; done) | rfl
mutual
theorem AV.kill_locs (t : Nat) : ∀ {v : AV}, .l t ∉ v.locs → (v.kill t).locs = v.locs
  | .whole j, h => by simp only [AV.kill]; rw [if_neg (by intro e; exact h (by simp [AV.locs, e]))]
  | .eptr j i o, h => by simp only [AV.kill]; rw [if_neg (by intro e; exact h (by simp [AV.locs, e]))]
  | .pim l, h => by simp only [AV.kill, AV.locs]
  | .agg l, h => by simp only [AV.kill, AV.locs] at h ⊢; rw [kill_locsL t h]
  | .ifc q l, h => by simp only [AV.kill, AV.locs] at h ⊢; rw [kill_locsL t h]
  | .tup l, h => by simp only [AV.kill, AV.locs] at h ⊢; rw [kill_locsL t h]
  | .fn f a b, h => by
    simp only [AV.kill, AV.locs, List.mem_append, not_or] at h ⊢; rw [kill_locsL t h.1, kill_locsL t h.2]
  | .d _ _, _ | .full _ _, _ | .nilS, _ | .nilP, _ | .ptr _ _, _ | .bld _, _ | .sx _, _ | .dead, _ => by simp only [AV.kill]
theorem kill_locsL (t : Nat) : ∀ {l : List AV}, .l t ∉ locsL l → locsL (killL t l) = locsL l
  | [], _ => rfl
  | v :: l, h => by simp only [locsL, killL, List.mem_append, not_or] at h ⊢; rw [AV.kill_locs t h.1, kill_locsL t h.2]
end
mutual
/-- What is told of all is not told otherwise. -/
theorem AV.hmok_kill (t : Nat) : ∀ {v : AV}, (v.kill t).hmok = true → v.kill t = v
  | .whole j, h => by
    simp only [AV.kill] at h ⊢
    by_cases e : j = t
    · rw [if_pos e] at h; cases h
    · rw [if_neg e]
  | .eptr j i o, h => by
    simp only [AV.kill] at h ⊢
    by_cases e : j = t
    · rw [if_pos e] at h; cases h
    · rw [if_neg e]
  | .pim l, h => by simp only [AV.kill, AV.hmok] at h ⊢; rw [killL_closed t h]
  | .agg l, h => by simp only [AV.kill, AV.hmok] at h ⊢; rw [hmok_killL t h]
  | .ifc q l, h => by simp only [AV.kill, AV.hmok] at h ⊢; rw [hmok_killL t h]
  | .tup l, h => by simp only [AV.kill, AV.hmok] at h ⊢; rw [hmok_killL t h]
  | .fn f a b, h => by
    simp only [AV.kill, AV.hmok, Bool.and_eq_true] at h ⊢; rw [hmok_killL t h.1, hmok_killL t h.2]
  | .d _ _, _ | .full _ _, _ | .nilS, _ | .nilP, _ | .ptr _ _, _ | .bld _, _ | .sx _, _ | .dead, _ => by simp only [AV.kill]
theorem hmok_killL (t : Nat) : ∀ {l : List AV}, hmokL (killL t l) = true → killL t l = l
  | [], _ => rfl
  | v :: l, h => by simp only [killL, hmokL, Bool.and_eq_true] at h ⊢; rw [AV.hmok_kill t h.1, hmok_killL t h.2]
end
mutual
theorem AV.kill_hmok (t : Nat) : ∀ {v : AV}, v.hmok = true → .l t ∉ v.locs → v.kill t = v
  | .whole j, _, h => by simp only [AV.kill]; rw [if_neg (by intro e; exact h (by simp [AV.locs, e]))]
  | .eptr j i o, _, h => by simp only [AV.kill]; rw [if_neg (by intro e; exact h (by simp [AV.locs, e]))]
  | .pim l, g, h => by simp only [AV.kill, AV.hmok] at g ⊢; rw [closed_killL t g]
  | .agg l, g, h => by simp only [AV.kill, AV.locs, AV.hmok] at g h ⊢; rw [kill_hmokL t g h]
  | .ifc q l, g, h => by simp only [AV.kill, AV.locs, AV.hmok] at g h ⊢; rw [kill_hmokL t g h]
  | .tup l, g, h => by simp only [AV.kill, AV.locs, AV.hmok] at g h ⊢; rw [kill_hmokL t g h]
  | .fn f a b, g, h => by
    simp only [AV.kill, AV.locs, List.mem_append, not_or, AV.hmok, Bool.and_eq_true] at g h ⊢; rw [kill_hmokL t g.1 h.1, kill_hmokL t g.2 h.2]
  | .d _ _, _, _ | .full _ _, _, _ | .nilS, _, _ | .nilP, _, _ | .ptr _ _, _, _ | .bld _, _, _ | .sx _, _, _ | .dead, _, _ => by simp only [AV.kill]
theorem kill_hmokL (t : Nat) : ∀ {l : List AV}, hmokL l = true → .l t ∉ locsL l → killL t l = l
  | [], _, _ => rfl
  | v :: l, g, h => by simp only [locsL, killL, List.mem_append, not_or, hmokL, Bool.and_eq_true] at g h ⊢; rw [AV.kill_hmok t g.1 h.1, kill_hmokL t g.2 h.2]
end
theorem hmOk_of {y x : It} (h : hmOk y x = true) : y.kind = 4 ∧ x.hm = true ∧ .l y.n ∉ x.touch := by
  unfold hmOk at h
  simp only [Bool.and_eq_true, Bool.not_eq_true'] at h
  exact ⟨by simpa using h.1.1, h.1.2, hasL_mem h.2⟩
theorem want_kill' {o : Oper} {st st' : St} {t : Nat} (h : ∀ d ∈ o.looksAt ops, st'.slots[d]? = (st.slots[d]?).map (AV.kill t)) {b : Bool} : want ops o st' = some b ↔ want ops o st = some b := want_kill fun d hd => h d (gslot_looks hd)
theorem swap9 {y x : It} {st st1 st2 : St} (hap : (match ops[y.idx]?, ops[x.idx]? with | some p, some q => p.apart ops q | _, _ => false) = true) (hp : hmOk y x = true) (hy : Step1 ε ops y st st1) (hx : Step1 ε ops x st1 st2) : ∃ st', Step1 ε ops x st st' ∧ Step1 ε ops y st' st2 := by
  obtain ⟨hk, hm, ht⟩ := hmOk_of hp
  obtain ⟨oy, vy, t, l, hoy, hn, hl, rfl, sy⟩ := step_app hk hy
  rw [hn] at ht
  obtain ⟨ox, hox, hx⟩ := hx
  rw [hoy, hox] at hap
  obtain ⟨a1, a2, a3⟩ := Oper.apart_spec (show oy.apart ops ox = true from hap)
  have sl : ∀ d ∈ ox.looksAt ops, ((killSet t l st).put oy.dst vy).slots[d]? = (st.slots[d]?).map (AV.kill t) := fun d hd => by
    rw [put_slot _ _ _ _ fun e he h => a1 e he (h ▸ hd), killSet_slot]
  rcases hx with ⟨hw, e1, e2, e3, e4, av, st2', hev, rfl, hcl, hmf⟩ | ⟨hw, e1, e2, rfl⟩
  · obtain ⟨c1, c2, c3⟩ := hmf.2.1 hm
    have hev' : ∀ x ∈ ox.op.operands, ((killSet t l st).put oy.dst vy).ev x = (st.ev x).kill t := fun x hx => ev_kill' fun d e => sl d (opnd_looks hx e)
    have hid : ∀ x ∈ ox.op.operands, (st.ev x).kill t = st.ev x := fun x hx => AV.hmok_kill t (by rw [← hev' x hx]; exact hmOps_mem c3 x (by simpa using hx))
    have hsame : ∀ x ∈ ox.op.operands, st.ev x = ((killSet t l st).put oy.dst vy).ev x := fun x hx => by rw [hev' x hx, hid x hx]
    have htt : touchOf st ox = touchOf ((killSet t l st).put oy.dst vy) ox := touch_agree (ts := []) ⟨hsame, fun l hl => by cases hl⟩
    obtain ⟨av0, rfl, rfl, hev0⟩ := (evOp_hm c2 (killed_of t l st oy.dst vy) hev' (by rw [htt, ← e2]; exact ht)).2 _ _ hev
    refine ⟨st.put ox.dst av0, ⟨ox, hox, .inl ⟨(want_kill' sl).1 hw, by rw [hom_kind c2]; exact e1, by rw [htt]; exact e2, fun h => by omega, fun h => by omega, av0, st, hev0, rfl, fun h => ?_, hmf.move hsame⟩⟩, ?_⟩
    · obtain ⟨d1, d2, d3⟩ := hcl h
      exact ⟨d1, by rw [closedOps_agree fun x hx => hsame x (by simpa using hx)]; exact d2, by rw [AV.kill_closed t d3] at d3; exact d3⟩
    · have := sy (st.put ox.dst av0) (fun i hi => put_slot _ _ _ _ fun e he h => a3 e he (h ▸ hi)) (fun l => put_look _ _ _ _)
      rwa [killSet_put' t l st ox.dst oy.dst av0 vy a2] at this
  · refine ⟨st.put ox.dst (.tup []), ⟨ox, hox, .inr ⟨(want_kill' sl).1 hw, e1, e2, rfl⟩⟩, ?_⟩
    have := sy (st.put ox.dst (.tup [])) (fun i hi => put_slot _ _ _ _ fun e he h => a3 e he (h ▸ hi)) (fun l => put_look _ _ _ _)
    rwa [killSet_put' t l st ox.dst oy.dst (.tup []) vy a2] at this
theorem hom_st {o : Oper} {st st1 : St} {av : AV} (c2 : homOp o.op = true) (hev : evOp ε st o two = some (av, st1)) : st1 = st := by
  obtain ⟨dst, op, type, pos, after, guard⟩ := o
  cases op <;> simp only [homOp] at c2 <;> try (cases c2; done)
  all_goals simp only [evOp] at hev
  case move x => cases hev; rfl
  case assign x => cases hev; rfl
  case load => rw [evLoad_nat] at hev; obtain ⟨v, hv, e⟩ := Option.bind_eq_some_iff.1 hev; cases e; rfl
  case fieldAddr => rw [evFieldAddr_nat] at hev; obtain ⟨v, hv, e⟩ := Option.bind_eq_some_iff.1 hev; cases e; rfl
  case field => rw [evField_nat] at hev; obtain ⟨v, hv, e⟩ := Option.bind_eq_some_iff.1 hev; cases e; rfl
  case extract => (repeat' split at hev) <;> first | (cases hev; rfl) | cases hev
  case nilCheck => (repeat' split at hev) <;> first | (cases hev; rfl) | cases hev
theorem swap10 {y x : It} {st st1 st2 : St} (hap : (match ops[y.idx]?, ops[x.idx]? with | some p, some q => p.apart ops q | _, _ => false) = true) (hp : hmOk x y = true) (hy : Step1 ε ops y st st1) (hx : Step1 ε ops x st1 st2) : ∃ st', Step1 ε ops x st st' ∧ Step1 ε ops y st' st2 := by
  obtain ⟨hk, hm, ht⟩ := hmOk_of hp
  obtain ⟨oy, hoy, hy⟩ := hy
  have main : ∀ vy : AV, st1 = st.put oy.dst vy → (∀ (t : Nat) (l : LObj) (dst : Option Nat) (vx : AV), x.n = t → (∀ d ∈ oy.looksAt ops, ((killSet t l st).put dst vx).slots[d]? = (st.slots[d]?).map (AV.kill t)) → Step1 ε ops y ((killSet t l st).put dst vx) (((killSet t l st).put dst vx).put oy.dst (vy.kill t))) →
      ∃ st', Step1 ε ops x st st' ∧ Step1 ε ops y st' st2 := by
    intro vy hst hgo
    subst hst
    obtain ⟨ox, vx, t, l, hox, hn, hl, rfl, sx⟩ := step_app hk hx
    rw [hoy, hox] at hap
    obtain ⟨a1, a2, a3⟩ := Oper.apart_spec (show oy.apart ops ox = true from hap)
    have sl : ∀ d ∈ oy.looksAt ops, ((killSet t l st).put ox.dst vx).slots[d]? = (st.slots[d]?).map (AV.kill t) := fun d hd => by
      rw [put_slot _ _ _ _ fun e he h => a3 e he (h ▸ hd), killSet_slot]
    refine ⟨(killSet t l st).put ox.dst vx, sx st (fun i hi => (put_slot _ _ _ _ fun e he h => a1 e he (h ▸ hi)).symm) (fun l => (put_look _ _ _ _).symm), ?_⟩
    rw [killSet_put' t l st oy.dst ox.dst vy vx fun d hd h => a2 d h hd]
    exact hgo t l ox.dst vx hn sl
  rcases hy with ⟨hw, e1, e2, e3, e4, av, st2', hev, hst, hcl, hmf⟩ | ⟨hw, e1, e2, hst⟩
  · obtain ⟨c1, c2, c3⟩ := hmf.2.1 hm
    obtain rfl := hom_st c2 hev
    refine main av hst fun t l dst vx hn sl => ?_
    rw [hn] at ht
    have hev' : ∀ x ∈ oy.op.operands, ((killSet t l st2').put dst vx).ev x = (st2'.ev x).kill t := fun x hx => ev_kill' fun d e => sl d (opnd_looks hx e)
    have hid : ∀ x ∈ oy.op.operands, (st2'.ev x).kill t = st2'.ev x := fun x hx => AV.kill_hmok t (hmOps_mem c3 x (by simpa using hx)) fun hh => ht (by rw [e2]; unfold touchOf; exact List.mem_flatMap.2 ⟨x, by simpa using hx, hh⟩)
    have hsame : ∀ x ∈ oy.op.operands, ((killSet t l st2').put dst vx).ev x = st2'.ev x := fun x hx => by rw [hev' x hx, hid x hx]
    have htt : touchOf ((killSet t l st2').put dst vx) oy = touchOf st2' oy := touch_agree (ts := []) ⟨hsame, fun l hl => by cases hl⟩
    obtain ⟨_, hev0⟩ := (evOp_hm c2 (killed_of t l st2' dst vx) hev' (by rw [← e2]; exact ht)).1 _ _ hev
    refine ⟨oy, hoy, .inl ⟨(want_kill' sl).2 hw, by rw [hom_kind c2]; exact e1, by rw [htt]; exact e2, fun h => by omega, fun h => by omega, av.kill t, _, hev0, rfl, fun h => ?_, hmf.move hsame⟩⟩
    obtain ⟨d1, d2, d3⟩ := hcl h
    exact ⟨d1, by rw [closedOps_agree fun x hx => hsame x (by simpa using hx)]; exact d2, by rw [AV.closed_kill t d3]; exact d3⟩
  · exact main (.tup []) hst fun t l dst vx hn sl => ⟨oy, hoy, .inr ⟨(want_kill' sl).2 hw, e1, e2, rfl⟩⟩
include hu in
theorem swap {y x : It} {st st1 st2 : St} (hp : pairOk ops y x = true) (hy : Step1 ε ops y st st1) (hx : Step1 ε ops x st1 st2) : ∃ st', Step1 ε ops x st st' ∧ Step1 ε ops y st' st2 := by
  unfold pairOk at hp
  rw [Bool.and_eq_true, Bool.or_eq_true, Bool.or_eq_true, Bool.or_eq_true, Bool.or_eq_true, Bool.or_eq_true, Bool.or_eq_true, Bool.or_eq_true, Bool.or_eq_true, Bool.or_eq_true] at hp
  rcases hp with ⟨hap, ((((((((h | h) | h) | h) | h) | h) | h) | h) | h) | h⟩
  · exact swap1 hu hap h hy hx
  · rw [Bool.and_eq_true] at h; exact swap2 hu hap (by simpa using h.1) h.2 hy hx
  · rw [Bool.and_eq_true] at h; exact swap3 hu hap h.1 (by simpa using h.2) hy hx
  · rw [Bool.and_eq_true] at h; exact swap4 hu hap (by simpa using h.1) h.2 hy hx
  · rw [Bool.and_eq_true] at h; exact swap5 hu hap h.1 (by simpa using h.2) hy hx
  · exact swap6 hu hap h hy hx
  · exact swap7 hu hap h hy hx
  · exact swap8 hap h hy hx
  · exact swap9 hap h hy hx
  · exact swap10 hap h hy hx

include hu in
theorem bubble {x : It} {R2 : List It} {stn : St} : ∀ {R1 : List It} {st : St}, (∀ y ∈ R1, pairOk ops y x = true) → Tr ε ops (R1 ++ x :: R2) st stn → ∃ st', Step1 ε ops x st st' ∧ Tr ε ops (R1 ++ R2) st' stn
  | [], st, _, h => h
  | y :: R1, st, hp, h => by
    obtain ⟨st1, hy, h⟩ := h
    obtain ⟨st2, hx, h⟩ := bubble (fun z hz => hp z (by simp [hz])) h
    obtain ⟨st3, hx', hy'⟩ := swap hu (hp y (by simp)) hy hx
    exact ⟨st3, hx', st2, hy', h⟩

include hu in
theorem evD_trace {S : Type} {K : St → Option S} {r : S} : ∀ (l : List Nat) (done : List It) (st : St), Fine ops done → evD ε ops l (tabOf done) done st K = some r →
    ∃ its stn, its.map It.idx = l ∧ Tr ε ops its st stn ∧ K stn = some r ∧ Fine ops (its.reverse ++ done)
  | [], done, st, hf, h => ⟨[], st, rfl, rfl, h, hf⟩
  | i :: rest, done, st, hf, h => by
    simp only [evD, putN_eq, normIt_eq] at h
    split at h
    · cases h
    · rename_i o ho
      split at h
      · cases h
      · rename_i anc hanc
        rw [ancOfT_eq i] at hanc
        have go : ∀ st0, want ops o st0 = some true → (evOp ε st0 o fun v st' => match pairsOkT ops i anc (itOf ε st0 o i anc v) (tabOf done) done with | true => evD ε ops rest ((i, anc) :: tabOf done) (itOf ε st0 o i anc v :: done) (st'.put o.dst v) K | false => none) = some r →
            ∃ its stn, its.map It.idx = i :: rest ∧ Tr ε ops its st0 stn ∧ K stn = some r ∧ Fine ops (its.reverse ++ done) := by
          intro st0 hw h
          rw [evOp_nat hu] at h
          obtain ⟨⟨av, st1⟩, hev, h⟩ := Option.bind_eq_some_iff.1 h
          simp only [un2] at h
          split at h
          · rename_i hp
            replace hp := (pairsOkT_eq ops (itOf ε st0 o i anc av) done).symm.trans hp
            obtain ⟨its, stn, e1, e2, e3, e4⟩ := evD_trace rest (itOf ε st0 o i anc av :: done) _ ⟨hf, hp, o, ho, hanc⟩ h
            refine ⟨itOf ε st0 o i anc av :: its, stn, by simp [e1, itOf], ⟨_, ⟨o, ho, .inl ⟨hw, rfl, rfl, fun hk => ?_, fun hk => ?_, av, st1, hev, rfl, (fun hc => ?_), (fun hc => ?_), (fun hc => ?_), fun hc => ?_⟩⟩, e2⟩, e3, by simpa using e4⟩
            · simp only [itOf] at hk ⊢; simp only [hk]
            · simp only [itOf] at hk ⊢; simp only [hk]
            · simp only [itOf, Bool.and_eq_true] at hc ⊢; exact ⟨by simpa using hc.1.1, hc.1.2, hc.2⟩
            · simp only [itOf, Bool.and_eq_true, Bool.or_eq_true] at hc ⊢; exact ⟨by simpa using hc.1, hc.2⟩
            · simp only [itOf, Bool.and_eq_true] at hc ⊢; exact ⟨by simpa using hc.1.1, hc.1.2, hc.2⟩
            · simp only [itOf] at hc ⊢
              split
              · rename_i e; rw [e] at hc; omega
              · rename_i e; rw [e] at hc; omega
              · rfl
          · cases h
        have skip : ∀ st0, want ops o st0 = some false → (match pairsOkT ops i anc (itSkip i anc) (tabOf done) done with | true => evD ε ops rest ((i, anc) :: tabOf done) (itSkip i anc :: done) (st0.put o.dst (.tup [])) K | false => none) = some r →
            ∃ its stn, its.map It.idx = i :: rest ∧ Tr ε ops its st0 stn ∧ K stn = some r ∧ Fine ops (its.reverse ++ done) := by
          intro st0 hw h
          split at h
          · rename_i hp
            replace hp := (pairsOkT_eq ops (itSkip i anc) done).symm.trans hp
            obtain ⟨its, stn, e1, e2, e3, e4⟩ := evD_trace rest (itSkip i anc :: done) _ ⟨hf, hp, o, ho, hanc⟩ h
            exact ⟨itSkip i anc :: its, stn, by simp [e1, itSkip], ⟨_, ⟨o, ho, .inr ⟨hw, rfl, rfl, rfl⟩⟩, e2⟩, e3, by simpa using e4⟩
          · cases h
        split at h
        · rename_i hg
          exact go st (by simp [want, hg]) h
        · rename_i j w hg
          split at h
          · cases h
          · rename_i d hj
            split at h
            · rename_i hs
              exact skip st (by simp [want, hg, hj, hs]) h
            · rename_i b hb
              have hset : ∀ b', b = b' → ({ st with slots := st.slots.set d (.d .bool b') } : St) = st := by
                intro b' e; subst e
                have h1 : st.slots.set d (.d .bool b) = st.slots := by
                  apply List.ext_getElem?
                  intro k
                  by_cases e : k = d
                  · subst e; rw [List.getElem?_set_self (List.getElem?_eq_some_iff.1 hb).1, hb]
                  · rw [List.getElem?_set_ne (Ne.symm e)]
                rw [h1]
              cases b with
              | true =>
                simp only [cond_true] at h
                rw [hset true rfl] at h
                cases w with
                | true => exact go st (by simp [want, hg, hj, hb]) h
                | false => exact skip st (by simp [want, hg, hj, hb]) h
              | false =>
                simp only [cond_false] at h
                rw [hset false rfl] at h
                cases w with
                | true => exact skip st (by simp [want, hg, hj, hb]) h
                | false => exact go st (by simp [want, hg, hj, hb]) h
            · cases h
end
end Go.Pe
