/- An operation's effect, moved before another's; a region that draws its order. -/
import Derived.Test.YtgghmllnhaahgaaPeOps7
namespace Go.Pe
open Go.RowKit
set_option linter.unusedSectionVars false
variable [GI]
set_option linter.unusedSimpArgs false
set_option linter.unusedVariables false

/-- What an operation adds to memory. -/
inductive Del where
  | no | new (c : List AV) | lst (l : LObj)
def Del.app : Del → St → St
  | .no, st => st
  | .new c, st => { st with recs := st.recs ++ [some c] }
  | .lst l, st => { st with lsts := st.lsts ++ [some l] }
def Del.kind : Del → Nat
  | .no => 0 | .new _ => 1 | .lst _ => 2

def Look (st st' : St) : Loc → Prop
  | .r r => getL st'.recs r = getL st.recs r
  | .l t => getL st'.lsts t = getL st.lsts t
  | .n _ => True
structure Agree (ts : List Loc) (xs : Array Operand) (st st' : St) : Prop where
  ev : ∀ x ∈ xs, st'.ev x = st.ev x
  look : ∀ l ∈ ts, Look st st' l

section
variable {S : Type}
theorem asTy_agree {lsts lsts' : List (Option LObj)} {t : Ty} {x : AV} (h : ∀ j, .l j ∈ x.locs → getL lsts' j = getL lsts j) : asTy lsts' t x = asTy lsts t x := by
  cases x <;> simp only [asTy]
  case whole j => rw [h j (by simp [AV.locs])]
theorem list_agree {lsts lsts' : List (Option LObj)} {x : AV} (h : ∀ j, .l j ∈ x.locs → getL lsts' j = getL lsts j) : x.list lsts' = x.list lsts := by
  cases x <;> simp only [AV.list]
  case d t y => cases t <;> rfl
  case whole j => rw [h j (by simp [AV.locs])]
mutual
theorem close_agree {lsts lsts' : List (Option LObj)} : ∀ {x : AV} (h : ∀ j, .l j ∈ x.locs → getL lsts' j = getL lsts j), x.close lsts' = x.close lsts
  | .whole j, h => by simp only [AV.close]; rw [h j (by simp [AV.locs])]
  | .agg l, h => by simp only [AV.close]; rw [closeL_agree (l := l) (by simpa only [AV.locs] using h)]
  | .ifc q l, h => by simp only [AV.close]; rw [closeL_agree (l := l) (by simpa only [AV.locs] using h)]
  | .tup l, h => by simp only [AV.close]; rw [closeL_agree (l := l) (by simpa only [AV.locs] using h)]
  | .fn f a b, h => by
    simp only [AV.close]
    rw [closeL_agree (l := a) fun j hj => h j (by simp only [AV.locs, List.mem_append]; exact .inl hj), closeL_agree (l := b) fun j hj => h j (by simp only [AV.locs, List.mem_append]; exact .inr hj)]
  | .d _ _, _ | .full _ _, _ | .nilS, _ | .nilP, _ | .pim _, _ | .ptr _ _, _ | .bld _, _ | .eptr _ _ _, _ | .sx _, _ | .dead, _ => by simp only [AV.close]
theorem closeL_agree {lsts lsts' : List (Option LObj)} : ∀ {l : List AV} (h : ∀ j, .l j ∈ locsL l → getL lsts' j = getL lsts j), closeL lsts' l = closeL lsts l
  | [], _ => rfl
  | v :: l, h => by
    simp only [closeL]
    rw [close_agree (x := v) fun j hj => h j (by simp only [locsL, List.mem_append]; exact .inl hj), closeL_agree (l := l) fun j hj => h j (by simp only [locsL, List.mem_append]; exact .inr hj)]
end
theorem locsL_append : ∀ (a b : List AV), locsL (a ++ b) = locsL a ++ locsL b
  | [], _ => rfl
  | v :: a, b => by simp only [List.cons_append, locsL, locsL_append a b, List.append_assoc]
theorem locsL_mem : ∀ {l : List AV} {v : AV} {x : Loc}, v ∈ l → x ∈ v.locs → x ∈ locsL l
  | _ :: _, _, _, .head _, h => by simp only [locsL, List.mem_append]; exact .inl h
  | _ :: _, _, _, .tail _ hm, h => by simp only [locsL, List.mem_append]; exact .inr (locsL_mem hm h)
theorem locsL_of : ∀ {l : List AV} {x : Loc}, x ∈ locsL l → ∃ v ∈ l, x ∈ v.locs
  | v :: l, x, h => by
    simp only [locsL, List.mem_append] at h
    rcases h with h | h
    · exact ⟨v, .head _, h⟩
    · obtain ⟨u, hu, hx⟩ := locsL_of h; exact ⟨u, .tail _ hu, hx⟩

variable (ε : Env)
theorem evConv_agree {lsts lsts' : List (Option LObj)} {s d : Nat} {x : AV} {K : AV → Option S} (h : ∀ j, .l j ∈ x.locs → getL lsts' j = getL lsts j) : evConv ε lsts' s d x K = evConv ε lsts s d x K := by
  unfold evConv
  split
  · split <;> first | rfl | rw [asTy_agree h]
  · rfl
theorem evLen_agree {lsts lsts' : List (Option LObj)} {t : Nat} {x : AV} {K : AV → Option S} (h : ∀ j, .l j ∈ x.locs → getL lsts' j = getL lsts j) : evLen ε t lsts' x K = evLen ε t lsts x K := by
  unfold evLen
  split
  · rfl
  · rfl
  · rfl
  · rfl
  · rw [list_agree h]
theorem evIndexAddr_agree {lsts lsts' : List (Option LObj)} {t : Nat} {x i : AV} {K : AV → Option S} (h : ∀ j, .l j ∈ x.locs → getL lsts' j = getL lsts j) : evIndexAddr ε t lsts' x i K = evIndexAddr ε t lsts x i K := by
  unfold evIndexAddr
  split
  · rename_i q k n; rw [h q (by simp [AV.locs])]
  · rfl
  · rfl
  · rfl
  · rfl
theorem evFieldAddr_agree {st st' : St} {t f : Nat} {x : AV} {K : AV → Option S} (h : ∀ l ∈ x.locs, Look st st' l) : evFieldAddr ε st' t x f K = evFieldAddr ε st t x f K := by
  unfold evFieldAddr
  split
  · split
    · rfl
    · split
      · rename_i r o; have := h (.r r) (by simp [AV.locs]); simp only [Look] at this; rw [this]
      · rename_i r i o; have := h (.l r) (by simp [AV.locs]); simp only [Look] at this; rw [this]
      · rfl
      · rfl
      · rfl
  · rfl
theorem evLoad_agree {st st' : St} {t : Nat} {x : AV} {K : AV → Option S} (h : ∀ l ∈ x.locs, Look st st' l) : evLoad ε st' t x K = evLoad ε st t x K := by
  unfold evLoad
  split
  · rfl
  · split
    · rename_i r o; have := h (.r r) (by simp [AV.locs]); simp only [Look] at this; rw [this]
    · rfl
    · rename_i r i o; have := h (.l r) (by simp [AV.locs]); simp only [Look] at this; rw [this]
    · rename_i r o; have := h (.r r) (by simp [AV.locs]); simp only [Look] at this; unfold topCells; rw [this]
    · rfl
theorem appArg_agree {lsts lsts' : List (Option LObj)} {t : Nat} {e : Ty} {x : AV} (h : ∀ j, .l j ∈ x.locs → getL lsts' j = getL lsts j) : appArg ε lsts' t e x = appArg ε lsts t e x := by
  unfold appArg
  split
  · rfl
  · rw [asTy_agree h]
end

theorem evOp_nat {ε : Env} (hu : ∀ f G sc, ε.fn f = some (G, sc) → PFun.Uni @G) {S : Type} (st : St) (o : Oper) (K : AV → St → Option S) : evOp ε st o K = (evOp ε st o two).bind (un2 K) := by
  obtain ⟨dst, op, type, pos, after, guard⟩ := o
  cases op <;> simp only [evOp]
  case move x => rfl
  case assign x => rfl
  case pick c a b => split <;> first | rfl | (rename_i t _; cases t <;> rfl)
  case alloc t => split <;> rfl
  case box t x => split <;> first | rfl | (split <;> rfl)
  case build t parts => rw [evBuild_nat, evBuild_nat (K := fun v => two v st), Option.bind_assoc]; rfl
  case buildSlice t n parts => exact evBuildSlice_nat ..
  case load t x => rw [evLoad_nat, evLoad_nat (K := fun v => two v st), Option.bind_assoc]; rfl
  case store t x y => rw [evStore_nat, evStore_nat (K := fun st' => two .dead st'), Option.bind_assoc]; rfl
  case nilCheck x =>
    split
    · split <;> rfl
    · rfl
    · split <;> rfl
    · split <;> rfl
    · split <;> rfl
    · rfl
  case binOp op xT x y yT => rw [evBin_nat, evBin_nat (K := fun v => two v st), Option.bind_assoc]; rfl
  case unOp op xT x => rw [evUn_nat, evUn_nat (K := fun v => two v st), Option.bind_assoc]; rfl
  case convert src dst' x => rw [evConv_nat, evConv_nat (K := fun v => two v st), Option.bind_assoc]; rfl
  case makeFunc f x y => rfl
  case makeInterface t x =>
    split
    · split <;> rfl
    · rfl
  case makeSlice t l c => exact evMake_nat ..
  case slice t x lo hi mx => rw [evSlice_nat, evSlice_nat (K := fun v => two v st), Option.bind_assoc]; rfl
  case fieldAddr t x f => rw [evFieldAddr_nat, evFieldAddr_nat (K := fun v => two v st), Option.bind_assoc]; rfl
  case field t x f => rw [evField_nat, evField_nat (K := fun v => two v st), Option.bind_assoc]; rfl
  case indexAddr t x i => rw [evIndexAddr_nat, evIndexAddr_nat (K := fun v => two v st), Option.bind_assoc]; rfl
  case index t x i => rw [evIndex_nat, evIndex_nat (K := fun v => two v st), Option.bind_assoc]; rfl
  case extract x i => split <;> first | rfl | (split <;> rfl)
  case call c =>
    obtain ⟨callee, args, argTypes⟩ := c
    dsimp only
    split
    · split
      · rw [evLen_nat, evLen_nat (K := fun v => two v st), Option.bind_assoc]; rfl
      · rfl
    · split
      · exact evAppend_nat ..
      · rfl
    · split
      · rw [evMin_nat, evMin_nat (K := fun v => two v st), Option.bind_assoc]; rfl
      · rfl
    · split
      · rw [evMax_nat, evMax_nat (K := fun v => two v st), Option.bind_assoc]; rfl
      · rfl
    · split
      · split
        · exact evCall_nat ε hu ..
        · exact evHands_nat ..
      · rfl
    · rfl
  all_goals rfl

/-- What an operation comes to does not hang on more than it looks at. -/
def Shift (ε : Env) (o : Oper) (st : St) (av : AV) (d : Del) : Prop :=
  ∀ st', Agree (touchOf st o) o.op.operands st st' → kindOf ε st' o = kindOf ε st o ∧ touchOf st' o = touchOf st o ∧
    ((d.kind = 1 → st'.recs.length = st.recs.length) → (d.kind = 2 → st'.lsts.length = st.lsts.length) → evOp ε st' o two = some (av, d.app st'))

theorem touch_agree {ts} {st st' : St} {o : Oper} (h : Agree ts o.op.operands st st') : touchOf st' o = touchOf st o := by
  unfold touchOf
  have : ∀ l : List Operand, (∀ x ∈ l, x ∈ o.op.operands) → (l.flatMap fun x => (st'.ev x).locs) = l.flatMap fun x => (st.ev x).locs := by
    intro l
    induction l with
    | nil => intro _; rfl
    | cons x l ih => intro hl; rw [List.flatMap_cons, List.flatMap_cons, h.ev x (hl x (by simp)), ih fun y hy => hl y (by simp [hy])]
  exact this _ fun x hx => by simpa using hx
theorem map_ev {st st' : St} : ∀ {l : List Operand}, (∀ x ∈ l, st'.ev x = st.ev x) → l.map st'.ev = l.map st.ev := fun h => List.map_congr_left h
theorem wholes_locs : ∀ (l : List AV), True := fun _ => trivial
theorem flat_ev {st st' : St} {β : Type} {g : AV → List β} : ∀ {l : List Operand}, (∀ x ∈ l, st'.ev x = st.ev x) → (l.flatMap fun p => g (st'.ev p)) = l.flatMap fun p => g (st.ev p)
  | [], _ => rfl
  | x :: l, h => by rw [List.flatMap_cons, List.flatMap_cons, h x (by simp), flat_ev fun y hy => h y (by simp [hy])]
theorem flat_parts {st st' : St} {β : Type} {g : AV → List β} : ∀ {l : List (Nat × Operand)}, (∀ p ∈ l, st'.ev p.2 = st.ev p.2) → (l.flatMap fun p => g (st'.ev p.2)) = l.flatMap fun p => g (st.ev p.2)
  | [], _ => rfl
  | x :: l, h => by rw [List.flatMap_cons, List.flatMap_cons, h x (by simp), flat_parts fun y hy => h y (by simp [hy])]
theorem freeze_nil (st : St) : st.freeze [] = st := rfl

theorem evOp_shift {ε : Env} (hu : ∀ f G sc, ε.fn f = some (G, sc) → PFun.Uni @G) {st st1 : St} {o : Oper} {av : AV} (hk : kindOf ε st o < 3) (h : evOp ε st o two = some (av, st1)) :
    ∃ d : Del, st1 = d.app st ∧ d.kind = kindOf ε st o ∧ Shift ε o st av d := by
  obtain ⟨dst, op, type, pos, after, guard⟩ := o
  have tch : ∀ {st'} (ts), Agree ts op.operands st st' → touchOf st' ⟨dst, op, type, pos, after, guard⟩ = touchOf st ⟨dst, op, type, pos, after, guard⟩ := fun ts ha => touch_agree ha
  have lk : ∀ {st'} (x : Operand), x ∈ op.operands → Agree (touchOf st ⟨dst, op, type, pos, after, guard⟩) op.operands st st' → ∀ l ∈ (st.ev x).locs, Look st st' l := by
    intro st' x hx ha l hl
    refine ha.look l ?_
    unfold touchOf
    exact List.mem_flatMap.2 ⟨x, by simpa using hx, hl⟩
  have lkl : ∀ {st'} (x : Operand), x ∈ op.operands → Agree (touchOf st ⟨dst, op, type, pos, after, guard⟩) op.operands st st' → ∀ j, .l j ∈ (st.ev x).locs → getL st'.lsts j = getL st.lsts j := fun x hx ha j hj => lk x hx ha _ hj
  cases op <;> simp only [evOp] at h <;> try (cases h; done)
  case move x =>
    cases h
    exact ⟨.no, rfl, rfl, fun st' ha => ⟨rfl, tch _ ha, fun _ _ => by simp only [evOp]; rw [ha.ev x (by simp [Op.operands])]; rfl⟩⟩
  case assign x =>
    cases h
    exact ⟨.no, rfl, rfl, fun st' ha => ⟨rfl, tch _ ha, fun _ _ => by simp only [evOp]; rw [ha.ev x (by simp [Op.operands])]; rfl⟩⟩
  case pick c a b =>
    split at h
    · rename_i t hc
      refine ⟨.no, ?_, rfl, fun st' ha => ⟨rfl, tch _ ha, fun _ _ => ?_⟩⟩
      · cases t <;> (cases h; rfl)
      · simp only [evOp]
        rw [ha.ev c (by simp [Op.operands]), ha.ev a (by simp [Op.operands]), ha.ev b (by simp [Op.operands]), hc]
        cases t <;> (cases h; rfl)
    · cases h
  case alloc t =>
    split at h
    · rename_i i hi
      cases h
      refine ⟨.new (bldZero i.bld st.recs.length i.zero), rfl, rfl, fun st' ha => ⟨rfl, tch _ ha, fun h1 _ => ?_⟩⟩
      simp only [evOp, hi]
      rw [h1 rfl]; rfl
    · cases h
  case box t x =>
    split at h
    · rename_i i hi
      split at h
      · rename_i hc
        cases h
        refine ⟨.new (bldZero i.bld st.recs.length (st.ev x).cells), rfl, rfl, fun st' ha => ⟨rfl, tch _ ha, fun h1 _ => ?_⟩⟩
        simp only [evOp, hi]
        rw [ha.ev x (by simp [Op.operands]), if_pos hc, h1 rfl]; rfl
      · cases h
    · cases h
  case build t parts =>
    rw [evBuild_nat] at h
    obtain ⟨v, hv, e⟩ := Option.bind_eq_some_iff.1 h
    cases e
    refine ⟨.no, rfl, rfl, fun st' ha => ⟨rfl, tch _ ha, fun _ _ => ?_⟩⟩
    simp only [evOp]
    have : (parts.toList.map fun p => (p.1, st'.ev p.2)) = parts.toList.map fun p => (p.1, st.ev p.2) := List.map_congr_left fun p hp => by
      rw [ha.ev p.2 (by simp only [Op.operands, List.mem_toArray, List.mem_map]; exact ⟨p, hp, rfl⟩)]
    rw [this, evBuild_nat, hv]; rfl
  case buildSlice t n parts =>
    cases hp : parts.toList with
    | nil =>
      rw [hp] at h
      unfold evBuildSlice at h
      split at h
      · rename_i e he
        split at h
        · rename_i hc
          cases h
          refine ⟨.lst ⟨e, []⟩, rfl, by simp only [kindOf, hp, Del.kind], fun st' ha => ⟨by simp only [kindOf, hp], tch _ ha, fun _ h2 => ?_⟩⟩
          simp only [evOp, hp]; unfold evBuildSlice; simp only [he, if_pos hc, h2 rfl]; rfl
        · cases h
      · cases h
    | cons p0 l0 =>
      cases hown : ownLit ε dst with
      | true => simp only [kindOf, hp, hown] at hk; omega
      | false =>
      have hkd : ∀ s : St, kindOf ε s ⟨dst, .buildSlice t n parts, type, pos, after, guard⟩ = (match parts.toList.flatMap fun p => (s.ev p.2).wholes with | [] => 0 | _ => 3) := fun s => by simp only [kindOf, hp, hown]; generalize List.flatMap _ _ = z; cases z <;> rfl
      rw [hkd] at hk
      rw [hkd]
      split at hk
      · rename_i hw
        have hfr : ∀ {st'}, Agree (touchOf st ⟨dst, .buildSlice t n parts, type, pos, after, guard⟩) (Op.buildSlice t n parts).operands st st' → ∀ p ∈ parts.toList, st'.ev p.2 = st.ev p.2 := fun ha p hp =>
          ha.ev p.2 (by simp only [Op.operands, List.mem_toArray, List.mem_map]; exact ⟨p, hp, rfl⟩)
        have key : st1 = st ∧ ∀ st', (∀ p ∈ parts.toList, st'.ev p.2 = st.ev p.2) → evBuildSlice ε st' (ownLit ε dst) t n parts.toList two = some (av, st') := by
          unfold evBuildSlice at h ⊢
          split at h
          · rename_i e he
            split at h
            · rename_i hc
              simp only [he, if_pos hc]
              split at h
              · rename_i hp'; rw [hp] at hp'; cases hp'
              · rename_i l hne hl
                rw [hown] at h ⊢
                dsimp only at h ⊢
                rw [hw, freeze_nil] at h
                obtain ⟨v, hv, e⟩ := Option.bind_eq_some_iff.1 h
                cases e
                refine ⟨rfl, fun st' hev => ?_⟩
                rw [flat_parts (g := AV.wholes) hev, hw, freeze_nil]
                have : (parts.toList.map fun p => (p.1, st'.ev p.2)) = parts.toList.map fun p => (p.1, st.ev p.2) := List.map_congr_left fun p hp => by rw [hev p hp]
                rw [this, hv]; rfl
            · cases h
          · cases h
        obtain ⟨rfl, key⟩ := key
        refine ⟨.no, rfl, by first | rfl | (rw [hw]; rfl), fun st' ha => ⟨?_, tch _ ha, fun _ _ => key st' (hfr ha)⟩⟩
        rw [hkd]
        rw [flat_parts (g := AV.wholes) (hfr ha), hkd]
      · omega
  case load t x =>
    rw [evLoad_nat] at h
    obtain ⟨v, hv, e⟩ := Option.bind_eq_some_iff.1 h
    cases e
    refine ⟨.no, rfl, rfl, fun st' ha => ⟨rfl, tch _ ha, fun _ _ => ?_⟩⟩
    simp only [evOp]
    rw [ha.ev x (by simp [Op.operands]), evLoad_agree ε (lk x (by simp [Op.operands]) ha), evLoad_nat, hv]; rfl
  case store t x y => simp only [kindOf] at hk; split at hk <;> (try split at hk) <;> omega
  case nilCheck x =>
    have hx := fun {st'} (ha : Agree (touchOf st ⟨dst, .nilCheck x, type, pos, after, guard⟩) (Op.nilCheck x).operands st st') => lk x (by simp [Op.operands]) ha
    split at h
    · rename_i r off he
      split at h
      · rename_i hl
        cases h
        refine ⟨.no, rfl, rfl, fun st' ha => ⟨rfl, tch _ ha, fun _ _ => ?_⟩⟩
        simp only [evOp]
        have := hx ha (.r r) (by rw [he]; simp [AV.locs])
        simp only [Look] at this
        rw [ha.ev x (by simp [Op.operands]), he]; dsimp only; rw [this, if_pos hl]; rfl
      · cases h
    · rename_i l he
      cases h
      exact ⟨.no, rfl, rfl, fun st' ha => ⟨rfl, tch _ ha, fun _ _ => by simp only [evOp]; rw [ha.ev x (by simp [Op.operands]), he]; rfl⟩⟩
    · rename_i t i off he
      split at h
      · rename_i hl
        cases h
        refine ⟨.no, rfl, rfl, fun st' ha => ⟨rfl, tch _ ha, fun _ _ => ?_⟩⟩
        simp only [evOp]
        have := hx ha (.l t) (by rw [he]; simp [AV.locs])
        simp only [Look] at this
        rw [ha.ev x (by simp [Op.operands]), he]; dsimp only; rw [this, if_pos hl]; rfl
      · cases h
    · rename_i y he
      split at h
      · cases h
        exact ⟨.no, rfl, rfl, fun st' ha => ⟨rfl, tch _ ha, fun _ _ => by simp only [evOp]; rw [ha.ev x (by simp [Op.operands]), he]; rfl⟩⟩
      · cases h
    · rename_i f a1 a2 he
      split at h
      · cases h
        exact ⟨.no, rfl, rfl, fun st' ha => ⟨rfl, tch _ ha, fun _ _ => by simp only [evOp]; rw [ha.ev x (by simp [Op.operands]), he]; rfl⟩⟩
      · cases h
    · cases h
  case binOp op xT x y yT =>
    rw [evBin_nat] at h
    obtain ⟨v, hv, e⟩ := Option.bind_eq_some_iff.1 h
    cases e
    refine ⟨.no, rfl, rfl, fun st' ha => ⟨rfl, tch _ ha, fun _ _ => ?_⟩⟩
    simp only [evOp]
    rw [ha.ev x (by simp [Op.operands]), ha.ev y (by simp [Op.operands]), evBin_nat, hv]; rfl
  case unOp op xT x =>
    rw [evUn_nat] at h
    obtain ⟨v, hv, e⟩ := Option.bind_eq_some_iff.1 h
    cases e
    refine ⟨.no, rfl, rfl, fun st' ha => ⟨rfl, tch _ ha, fun _ _ => ?_⟩⟩
    simp only [evOp]
    rw [ha.ev x (by simp [Op.operands]), evUn_nat, hv]; rfl
  case convert src dst' x =>
    rw [evConv_nat] at h
    obtain ⟨v, hv, e⟩ := Option.bind_eq_some_iff.1 h
    cases e
    refine ⟨.no, rfl, rfl, fun st' ha => ⟨rfl, tch _ ha, fun _ _ => ?_⟩⟩
    simp only [evOp]
    rw [ha.ev x (by simp [Op.operands]), evConv_agree ε (lkl x (by simp [Op.operands]) ha), evConv_nat, hv]; rfl
  case makeFunc f x y =>
    cases h
    refine ⟨.no, rfl, rfl, fun st' ha => ⟨rfl, tch _ ha, fun _ _ => ?_⟩⟩
    simp only [evOp]
    rw [map_ev (l := x.toList) fun z hz => ha.ev z (by simp [Op.operands]; exact .inl (by simpa using hz)), map_ev (l := y.toList) fun z hz => ha.ev z (by simp [Op.operands]; exact .inr (by simpa using hz))]; rfl
  case makeInterface t x =>
    split at h
    · rename_i i hi
      have h2 : two (AV.ifc t [st.ev x]) st = some (av, st1) := by
        split at h <;> first | exact h | cases h
      have h3 := h2
      cases h3
      refine ⟨.no, rfl, rfl, fun st' ha => ⟨rfl, tch _ ha, fun _ _ => ?_⟩⟩
      simp only [evOp, hi]
      rw [ha.ev x (by simp [Op.operands])]
      split at h <;> first | rfl | cases h
    · cases h
  case makeSlice t l c =>
    have key : ∃ lo, st1 = (Del.lst lo).app st ∧ ∀ st', st'.ev l = st.ev l → st'.ev c = st.ev c → st'.lsts.length = st.lsts.length → evMake ε st' t (st'.ev l) (st'.ev c) two = some (av, (Del.lst lo).app st') := by
      unfold evMake at h ⊢
      split at h
      · cases h
      · rename_i et het
        try simp only [het]
        split at h
        · rename_i i _ n _ c' hi hl hc
          try simp only [hi]
          split at h
          · rename_i e he
            try simp only [he]
            split at h
            · rename_i z hz
              unfold makeOk at h ⊢
              split at h
              · rename_i hok
                cases h
                refine ⟨_, rfl, fun st' e1 e2 e3 => ?_⟩
                rw [e1, e2, hl, hc]; simp only [hi, he, hz, if_pos hok, e3]; rfl
              · cases h
            · cases h
          · cases h
        · cases h
    obtain ⟨lo, rfl, key⟩ := key
    exact ⟨.lst lo, rfl, rfl, fun st' ha => ⟨rfl, tch _ ha, fun _ h2 => by simp only [evOp]; exact key st' (ha.ev l (by simp [Op.operands])) (ha.ev c (by simp [Op.operands])) (h2 rfl)⟩⟩
  case slice t x lo hi mx =>
    rw [evSlice_nat] at h
    obtain ⟨v, hv, e⟩ := Option.bind_eq_some_iff.1 h
    cases e
    refine ⟨.no, rfl, rfl, fun st' ha => ⟨rfl, tch _ ha, fun _ _ => ?_⟩⟩
    simp only [evOp]
    have hopt : ∀ y : Option Operand, (∀ z ∈ y, z ∈ (Op.slice t x lo hi mx).operands) → opt st' y = opt st y := by
      intro y hy; cases y with
      | none => rfl
      | some z => simp only [opt, Option.map_some]; rw [ha.ev z (hy z rfl)]
    rw [ha.ev x (by simp [Op.operands]), hopt lo (fun z hz => by cases hz; simp [Op.operands]), hopt hi (fun z hz => by cases hz; simp [Op.operands]), hopt mx (fun z hz => by cases hz; simp [Op.operands]), evSlice_nat, hv]; rfl
  case fieldAddr t x f =>
    rw [evFieldAddr_nat] at h
    obtain ⟨v, hv, e⟩ := Option.bind_eq_some_iff.1 h
    cases e
    refine ⟨.no, rfl, rfl, fun st' ha => ⟨rfl, tch _ ha, fun _ _ => ?_⟩⟩
    simp only [evOp]
    rw [ha.ev x (by simp [Op.operands]), evFieldAddr_agree ε (lk x (by simp [Op.operands]) ha), evFieldAddr_nat, hv]; rfl
  case field t x f =>
    rw [evField_nat] at h
    obtain ⟨v, hv, e⟩ := Option.bind_eq_some_iff.1 h
    cases e
    refine ⟨.no, rfl, rfl, fun st' ha => ⟨rfl, tch _ ha, fun _ _ => ?_⟩⟩
    simp only [evOp]
    rw [ha.ev x (by simp [Op.operands]), evField_nat, hv]; rfl
  case indexAddr t x i =>
    rw [evIndexAddr_nat] at h
    obtain ⟨v, hv, e⟩ := Option.bind_eq_some_iff.1 h
    cases e
    refine ⟨.no, rfl, rfl, fun st' ha => ⟨rfl, tch _ ha, fun _ _ => ?_⟩⟩
    simp only [evOp]
    rw [ha.ev x (by simp [Op.operands]), ha.ev i (by simp [Op.operands]), evIndexAddr_agree ε (lkl x (by simp [Op.operands]) ha), evIndexAddr_nat, hv]; rfl
  case index t x i =>
    rw [evIndex_nat] at h
    obtain ⟨v, hv, e⟩ := Option.bind_eq_some_iff.1 h
    cases e
    refine ⟨.no, rfl, rfl, fun st' ha => ⟨rfl, tch _ ha, fun _ _ => ?_⟩⟩
    simp only [evOp]
    rw [ha.ev x (by simp [Op.operands]), ha.ev i (by simp [Op.operands]), evIndex_nat, hv]; rfl
  case extract x i =>
    split at h
    · rename_i l he
      split at h
      · rename_i v hv
        cases h
        refine ⟨.no, rfl, rfl, fun st' ha => ⟨rfl, tch _ ha, fun _ _ => ?_⟩⟩
        simp only [evOp]
        rw [ha.ev x (by simp [Op.operands]), he]; dsimp only; rw [hv]; rfl
      · cases h
    · cases h
  case call c =>
    obtain ⟨callee, args, argTypes⟩ := c
    have mem : ∀ x ∈ args, x ∈ (Op.call ⟨callee, args, argTypes⟩).operands := fun x hx => by simp [Op.operands, Call.operands, hx]
    simp only at h
    split at h
    · split at h
      · rename_i t x hts hxs
        have e1 : argTypes = #[t] := by apply Array.ext'; simpa using hts
        have e2 : args = #[x] := by apply Array.ext'; simpa using hxs
        subst e1; subst e2
        rw [evLen_nat] at h
        obtain ⟨v, hv, e⟩ := Option.bind_eq_some_iff.1 h
        cases e
        refine ⟨.no, rfl, rfl, fun st' ha => ⟨rfl, tch _ ha, fun _ _ => ?_⟩⟩
        simp only [evOp]
        rw [ha.ev x (mem x (by simp)), evLen_agree ε (lkl x (mem x (by simp)) ha), evLen_nat, hv]; rfl
      · cases h
    · split at h
      · rename_i t u s x hts hxs
        have e1 : argTypes = #[t, u] := by apply Array.ext'; simpa using hts
        have e2 : args = #[s, x] := by apply Array.ext'; simpa using hxs
        subst e1; subst e2
        unfold evAppend at h
        split at h
        · rename_i hs
          split at h
          · rename_i e he
            obtain ⟨ys, hys, e'⟩ := Option.bind_eq_some_iff.1 h
            unfold appOk at e'
            split at e'
            · rename_i hok
              cases e'
              refine ⟨.lst ⟨e, ys⟩, rfl, by simp only [kindOf, hs, Del.kind], fun st' ha => ⟨?_, tch _ ha, fun _ h2 => ?_⟩⟩
              · simp only [kindOf]; rw [ha.ev s (mem s (by simp))]
              · simp only [evOp]
                rw [ha.ev s (mem s (by simp)), ha.ev x (mem x (by simp)), hs]
                simp only [evAppend, he]
                rw [appArg_agree ε (lkl x (mem x (by simp)) ha), hys, h2 rfl]
                simp only [Option.bind_some, appOk, if_pos hok]; rfl
            · cases e'
          · cases h
        · rename_i e xs hs
          split at h
          · rename_i he
            obtain ⟨ys, hys, e'⟩ := Option.bind_eq_some_iff.1 h
            unfold appOk at e'
            split at e'
            · rename_i hok
              cases e'
              refine ⟨.no, rfl, by simp only [kindOf, hs, Del.kind], fun st' ha => ⟨?_, tch _ ha, fun _ h2 => ?_⟩⟩
              · simp only [kindOf]; rw [ha.ev s (mem s (by simp))]
              · simp only [evOp]
                rw [ha.ev s (mem s (by simp)), ha.ev x (mem x (by simp)), hs]
                simp only [evAppend, if_pos he]
                rw [appArg_agree ε (lkl x (mem x (by simp)) ha), hys]
                simp only [Option.bind_some, appOk, if_pos hok]; rfl
            · cases e'
          · cases h
        · rename_i q hs
          simp [kindOf, hs] at hk
        · rename_i fs hs
          simp [kindOf, hs] at hk
        · cases h
      · cases h
    · split at h
      · rename_i x y hxs
        have e2 : args = #[x, y] := by apply Array.ext'; simpa using hxs
        subst e2
        rw [evMin_nat] at h
        obtain ⟨v, hv, e⟩ := Option.bind_eq_some_iff.1 h
        cases e
        refine ⟨.no, rfl, rfl, fun st' ha => ⟨rfl, tch _ ha, fun _ _ => ?_⟩⟩
        simp only [evOp]
        rw [ha.ev x (mem x (by simp)), ha.ev y (mem y (by simp)), evMin_nat, hv]; rfl
      · cases h
    · split at h
      · rename_i x y hxs
        have e2 : args = #[x, y] := by apply Array.ext'; simpa using hxs
        subst e2
        rw [evMax_nat] at h
        obtain ⟨v, hv, e⟩ := Option.bind_eq_some_iff.1 h
        cases e
        refine ⟨.no, rfl, rfl, fun st' ha => ⟨rfl, tch _ ha, fun _ _ => ?_⟩⟩
        simp only [evOp]
        rw [ha.ev x (mem x (by simp)), ha.ev y (mem y (by simp)), evMax_nat, hv]; rfl
      · cases h
    · rename_i g
      split at h
      · rename_i f pre post hg
        have memg : g ∈ (Op.call ⟨.value g, args, argTypes⟩).operands := by simp [Op.operands, Call.operands]
        have hargs : ∀ {st'}, Agree (touchOf st ⟨dst, .call ⟨.value g, args, argTypes⟩, type, pos, after, guard⟩) (Op.call ⟨.value g, args, argTypes⟩).operands st st' → ∀ x ∈ args.toList, st'.ev x = st.ev x := fun ha x hx => ha.ev x (mem x (by simpa using hx))
        simp only [kindOf, hg] at hk
        split at h
        rotate_left
        · rename_i hsome
          cases hf : ε.fn f with
          | none => rw [hf] at hk; simp at hk
          | some y => rw [hf] at hsome; cases hsome
        unfold evCall at h
        split at h
        · cases h
        · rename_i G sc hf
          simp only [hf] at hk
          have hG := hu f G sc hf
          cases sc with
          | true =>
            simp only [if_true] at h
            obtain ⟨as, has, h⟩ := Option.bind_eq_some_iff.1 h
            replace h := (hG _ as _).symm.trans h
            obtain ⟨v, hv, h⟩ := Option.bind_eq_some_iff.1 h
            split at h
            · rename_i hsc
              cases h
              refine ⟨.no, rfl, by simp only [kindOf, hg, hf, Del.kind], fun st' ha => ⟨?_, tch _ ha, fun _ _ => ?_⟩⟩
              · simp only [kindOf, hg, hf]; rw [ha.ev g memg, hg]; dsimp only; rw [hf]
              · simp only [evOp]
                rw [ha.ev g memg, hg]
                simp only [evCall, hf, if_true, Option.isSome_some]
                rw [map_ev (hargs ha), closeL_agree (l := pre ++ args.toList.map st.ev ++ post) (lsts' := st'.lsts) (lsts := st.lsts), has, Option.bind_some]
                · refine (hG _ as _).trans ?_; rw [hv, Option.bind_some, if_pos hsc]; rfl
                · intro j hj
                  rw [locsL_append, locsL_append, List.mem_append, List.mem_append] at hj
                  have hgl := lkl g memg ha
                  rw [hg] at hgl
                  rcases hj with (hj | hj) | hj
                  · exact hgl j (by simp only [AV.locs, List.mem_append]; exact .inl hj)
                  · obtain ⟨v, hv, hx⟩ := locsL_of hj
                    obtain ⟨x, hx', rfl⟩ := List.mem_map.1 hv
                    exact lkl x (mem x (by simpa using hx')) ha j hx
                  · exact hgl j (by simp only [AV.locs, List.mem_append]; exact .inr hj)
            · cases h
          | false =>
            simp only [Bool.false_eq_true, if_false] at h
            simp only at hk
            split at hk
            · rename_i hw
              rw [hw, freeze_nil] at h
              split at h
              · rename_i hcl
                replace h := (hG _ _ _).symm.trans h
                obtain ⟨v, hv, h⟩ := Option.bind_eq_some_iff.1 h
                cases h
                refine ⟨.no, rfl, by simp only [kindOf, hg, hf, Del.kind, hw], fun st' ha => ⟨?_, tch _ ha, fun _ _ => ?_⟩⟩
                · simp only [kindOf, hg, hf]; rw [ha.ev g memg, hg]; dsimp only; rw [hf]; dsimp only; rw [flat_ev (g := AV.wholes) (hargs ha)]
                · simp only [evOp]
                  rw [ha.ev g memg, hg]
                  simp only [evCall, hf, Bool.false_eq_true, if_false, Option.isSome_some]
                  rw [flat_ev (g := AV.wholes) (hargs ha), hw, freeze_nil, map_ev (hargs ha), if_pos hcl]; refine (hG _ _ _).trans ?_; rw [hv]; rfl
              · cases h
            · omega
      · cases h
    · cases h

/-! ### Appending to a list of the call's own -/
mutual
theorem AV.kill_closed (t : Nat) : ∀ {v : AV}, (v.kill t).closed = true → v.kill t = v
  | .whole j, h => by
    simp only [AV.kill] at h ⊢
    split at h
    · cases h
    · cases h
  | .eptr j i o, h => by
    simp only [AV.kill] at h ⊢
    split at h
    · cases h
    · cases h
  | .pim l, h => by simp only [AV.kill, AV.closed] at h ⊢; rw [killL_closed t h]
  | .agg l, h => by simp only [AV.kill, AV.closed] at h ⊢; rw [killL_closed t h]
  | .ifc q l, h => by simp only [AV.kill, AV.closed] at h ⊢; rw [killL_closed t h]
  | .tup l, h => by simp only [AV.kill, AV.closed] at h ⊢; rw [killL_closed t h]
  | .fn f a b, h => by
    simp only [AV.kill, AV.closed, Bool.and_eq_true] at h ⊢; rw [killL_closed t h.1, killL_closed t h.2]
  | .d _ _, _ | .full _ _, _ | .nilS, _ | .nilP, _ | .ptr _ _, _ | .sx _, _ | .dead, _ => by simp only [AV.kill]
theorem killL_closed (t : Nat) : ∀ {l : List AV}, closedL (killL t l) = true → killL t l = l
  | [], _ => rfl
  | v :: l, h => by simp only [killL, closedL, Bool.and_eq_true] at h ⊢; rw [AV.kill_closed t h.1, killL_closed t h.2]
end
mutual
theorem AV.closed_kill (t : Nat) : ∀ {v : AV}, v.closed = true → v.kill t = v
  | .pim l, h => by simp only [AV.kill, AV.closed] at h ⊢; rw [closed_killL t h]
  | .agg l, h => by simp only [AV.kill, AV.closed] at h ⊢; rw [closed_killL t h]
  | .ifc q l, h => by simp only [AV.kill, AV.closed] at h ⊢; rw [closed_killL t h]
  | .tup l, h => by simp only [AV.kill, AV.closed] at h ⊢; rw [closed_killL t h]
  | .fn f a b, h => by
    simp only [AV.kill, AV.closed, Bool.and_eq_true] at h ⊢; rw [closed_killL t h.1, closed_killL t h.2]
  | .d _ _, _ | .full _ _, _ | .nilS, _ | .nilP, _ => by simp only [AV.kill]
  | .whole _, h | .eptr _ _ _, h | .ptr _ _, h | .bld _, h | .sx _, h | .dead, h => by simp [AV.closed] at h
theorem closed_killL (t : Nat) : ∀ {l : List AV}, closedL l = true → killL t l = l
  | [], _ => rfl
  | v :: l, h => by simp only [killL, closedL, Bool.and_eq_true] at h ⊢; rw [AV.closed_kill t h.1, closed_killL t h.2]
end
mutual
theorem AV.closed_locs : ∀ {v : AV}, v.closed = true → v.locs = []
  | .agg l, h => by simp only [AV.locs, AV.closed] at h ⊢; rw [closed_locsL h]
  | .ifc q l, h => by simp only [AV.locs, AV.closed] at h ⊢; rw [closed_locsL h]
  | .tup l, h => by simp only [AV.locs, AV.closed] at h ⊢; rw [closed_locsL h]
  | .fn f a b, h => by
    simp only [AV.locs, AV.closed, Bool.and_eq_true] at h ⊢; rw [closed_locsL h.1, closed_locsL h.2]; rfl
  | .d _ _, _ | .full _ _, _ | .nilS, _ | .nilP, _ | .pim _, _ => by simp only [AV.locs]
  | .whole _, h | .eptr _ _ _, h | .ptr _ _, h | .bld _, h | .sx _, h | .dead, h => by simp [AV.closed] at h
theorem closed_locsL : ∀ {l : List AV}, closedL l = true → locsL l = []
  | [], _ => rfl
  | v :: l, h => by simp only [locsL, closedL, Bool.and_eq_true] at h ⊢; rw [AV.closed_locs h.1, closed_locsL h.2]; rfl
end
def killSet (t : Nat) (l : LObj) (st : St) : St := { (st.mapAV (AV.kill t)) with lsts := st.lsts.set t (some l) }
theorem evOp_shift4 {ε : Env} {st st1 : St} {o : Oper} {av : AV} (hk : kindOf ε st o = 4) (h : evOp ε st o two = some (av, st1)) :
    ∃ t l, tgtOf st o = t ∧ (getL st.lsts t).isSome = true ∧ st1 = killSet t l st ∧ ∀ st', Agree (touchOf st o) o.op.operands st st' → kindOf ε st' o = 4 ∧ touchOf st' o = touchOf st o ∧ evOp ε st' o two = some (av, killSet t l st') := by
  obtain ⟨dst, op, type, pos, after, guard⟩ := o
  cases op <;> simp only [kindOf] at hk <;> try (cases hk; done)
  case buildSlice => split at hk <;> first | (cases hk; done) | (split at hk <;> first | (cases hk; done) | (split at hk <;> cases hk))
  case store => split at hk <;> (try split at hk) <;> cases hk
  case call c =>
    obtain ⟨callee, args, argTypes⟩ := c
    simp only at hk
    split at hk
    · split at hk
      · rename_i s rest hargs
        split at hk <;> try (cases hk; done)
        rename_i q hs
        simp only [evOp] at h
        split at h
        · rename_i t u s' x hts hxs
          have e1 : argTypes = #[t, u] := by apply Array.ext'; simpa using hts
          have e2 : args = #[s', x] := by apply Array.ext'; simpa using hxs
          subst e1; subst e2
          simp only [List.cons.injEq] at hargs
          obtain ⟨rfl, _⟩ := hargs
          rw [hs] at h
          simp only [evAppend] at h
          split at h
          · rename_i lo hlo
            split at h
            · rename_i he
              obtain ⟨ys, hys, e'⟩ := Option.bind_eq_some_iff.1 h
              unfold appOk at e'
              split at e'
              · rename_i hok
                cases e'
                refine ⟨q, _, by simp [tgtOf, hs], by rw [hlo]; rfl, rfl, fun st' ha => ?_⟩
                have ms : s' ∈ (Op.call ⟨.builtin .append, #[s', x], #[t, u]⟩).operands := by simp [Op.operands, Call.operands]
                have mx : x ∈ (Op.call ⟨.builtin .append, #[s', x], #[t, u]⟩).operands := by simp [Op.operands, Call.operands]
                have es := ha.ev s' ms
                have ex := ha.ev x mx
                have lk : ∀ (y : Operand), y ∈ (Op.call ⟨.builtin .append, #[s', x], #[t, u]⟩).operands → ∀ j, .l j ∈ (st.ev y).locs → getL st'.lsts j = getL st.lsts j := by
                  intro y hy j hj
                  exact ha.look (.l j) (by unfold touchOf; exact List.mem_flatMap.2 ⟨y, by simpa using hy, hj⟩)
                refine ⟨by simp only [kindOf]; rw [es, hs], touch_agree ha, ?_⟩
                simp only [evOp]
                rw [es, ex, hs]
                simp only [evAppend]
                rw [lk s' ms q (by rw [hs]; simp [AV.locs]), hlo]
                simp only [if_pos he]
                rw [appArg_agree ε (lk x mx), hys]
                simp only [Option.bind_some, appOk, if_pos hok]; rfl
              · cases e'
            · cases h
          · cases h
        · cases h
      · cases hk
    · split at hk
      · split at hk
        · split at hk
          · cases hk
          · split at hk <;> cases hk
        · cases hk
      · cases hk
    · cases hk
/-! ### Writing into a record of the call's own -/
def storeSet (r : Nat) (c : List AV) (st : St) : St := { st with recs := st.recs.set r (some c) }
theorem evOp_shift5 {ε : Env} {st st1 : St} {o : Oper} {av : AV} (hk : kindOf ε st o = 5) (h : evOp ε st o two = some (av, st1)) :
    ∃ r c, tgtOf st o = r ∧ (getL st.recs r).isSome = true ∧ st1 = storeSet r c st ∧ ∀ st', (∀ x ∈ o.op.operands, st'.ev x = st.ev x) → getL st'.recs r = getL st.recs r → kindOf ε st' o = 5 ∧ touchOf st' o = touchOf st o ∧ evOp ε st' o two = some (av, storeSet r c st') := by
  obtain ⟨dst, op, type, pos, after, guard⟩ := o
  cases op <;> simp only [kindOf] at hk <;> try (cases hk; done)
  case buildSlice => split at hk <;> first | (cases hk; done) | (split at hk <;> first | (cases hk; done) | (split at hk <;> cases hk))
  case call c =>
    obtain ⟨callee, args, argTypes⟩ := c
    simp only at hk
    split at hk
    · split at hk
      · split at hk <;> cases hk
      · cases hk
    · split at hk
      · split at hk
        · split at hk
          · cases hk
          · split at hk <;> cases hk
        · cases hk
      · cases hk
    · cases hk
  case store t a x =>
    split at hk
    · rename_i r off ha
      simp only [evOp] at h
      unfold evStore at h
      split at h
      · cases h
      · rename_i i hi
        rw [ha] at h
        simp only at h
        split at h
        · rename_i hc
          split at h
          · rename_i cells hcells
            split at h
            · rename_i hle
              cases h
              refine ⟨r, _, by simp [tgtOf, ha], by rw [hcells]; rfl, rfl, fun st' hev hrec => ⟨?_, touch_agree (ts := []) ⟨hev, fun l hl => by cases hl⟩, ?_⟩⟩
              · simp only [kindOf]; rw [hev a (by simp [Op.operands]), ha]
              · simp only [evOp]
                unfold evStore
                rw [hev a (by simp [Op.operands]), hev x (by simp [Op.operands]), hi, ha]
                simp only
                rw [if_pos hc, hrec, hcells]
                simp only
                rw [if_pos hle]
                simp only [storeSet]
                rfl
            · cases h
          · cases h
        · cases h
    · rename_i y ha
      split at hk
      · rename_i r off
        simp only [evOp] at h
        unfold evStore at h
        split at h
        · cases h
        · rename_i i hi
          rw [ha] at h
          simp only at h
          split at h
          · rename_i hc
            split at h
            · rename_i cells hcells
              split at h
              · rename_i hle
                cases h
                have hg := topCells_some hcells
                refine ⟨r, _, by simp [tgtOf, ha], by rw [hg]; rfl, rfl, fun st' hev hrec => ⟨?_, touch_agree (ts := []) ⟨hev, fun l hl => by cases hl⟩, ?_⟩⟩
                · simp only [kindOf]; rw [hev a (by simp [Op.operands]), ha]
                · simp only [evOp]
                  unfold evStore
                  rw [hev a (by simp [Op.operands]), hev x (by simp [Op.operands]), hi, ha]
                  simp only
                  have : topCells st'.recs r = some cells := by unfold topCells; rw [hrec, hg]
                  rw [if_pos hc, this]
                  simp only
                  rw [if_pos hle]
                  simp only [storeSet]
                  rfl
              · cases h
            · cases h
          · cases h
      · cases hk
    · split at hk <;> cases hk
    · cases hk
/-! ### Writing into a list of the call's own -/
def lstSet (q : Nat) (l : LObj) (st : St) : St := { st with lsts := st.lsts.set q (some l) }
theorem evOp_shift6 {ε : Env} {st st1 : St} {o : Oper} {av : AV} (hk : kindOf ε st o = 6) (h : evOp ε st o two = some (av, st1)) :
    ∃ q l, tgtOf st o = q ∧ (getL st.lsts q).isSome = true ∧ st1 = lstSet q l st ∧ ∀ st', (∀ x ∈ o.op.operands, st'.ev x = st.ev x) → getL st'.lsts q = getL st.lsts q → kindOf ε st' o = 6 ∧ touchOf st' o = touchOf st o ∧ evOp ε st' o two = some (av, lstSet q l st') := by
  obtain ⟨dst, op, type, pos, after, guard⟩ := o
  cases op <;> simp only [kindOf] at hk <;> try (cases hk; done)
  case buildSlice => split at hk <;> first | (cases hk; done) | (split at hk <;> first | (cases hk; done) | (split at hk <;> cases hk))
  case call c =>
    obtain ⟨callee, args, argTypes⟩ := c
    simp only at hk
    split at hk
    · split at hk
      · split at hk <;> cases hk
      · cases hk
    · split at hk
      · split at hk
        · split at hk
          · cases hk
          · split at hk <;> cases hk
        · cases hk
      · cases hk
    · cases hk
  case store t a x =>
    split at hk
    · cases hk
    · split at hk <;> cases hk
    · rename_i q0 n0 off0 ha
      split at hk
      · rename_i hw
        simp only [evOp] at h
        unfold evStore at h
        split at h
        · cases h
        · rename_i i hi
          rw [ha] at h
          simp only at h
          rw [hw, freeze_nil, ha] at h
          simp only at h
          split at h
          · rename_i hc
            split at h
            · rename_i o1 ho1
              simp only [Option.bind_eq_some_iff] at h
              obtain ⟨y, hy, h⟩ := h
              split at h
              · rename_i hle
                simp only [Option.bind_eq_some_iff] at h
                obtain ⟨z, hz, h⟩ := h
                split at h
                · rename_i hz2
                  cases h
                  refine ⟨q0, _, by simp [tgtOf, ha], by rw [ho1]; rfl, rfl, fun st' hev hls => ⟨?_, touch_agree (ts := []) ⟨hev, fun l hl => by cases hl⟩, ?_⟩⟩
                  · simp only [kindOf]; rw [hev a (by simp [Op.operands]), ha]; dsimp only; rw [hev x (by simp [Op.operands]), hw]
                  · simp only [evOp]
                    unfold evStore
                    rw [hev a (by simp [Op.operands]), hev x (by simp [Op.operands]), hi, ha]
                    simp only
                    rw [hw, freeze_nil, hev a (by simp [Op.operands]), hev x (by simp [Op.operands]), ha]
                    simp only
                    rw [if_pos hc, hls, ho1]
                    simp only
                    rw [hy, Option.bind_some, if_pos hle, hz, Option.bind_some, hz2]
                    rfl
                · cases h
              · cases h
            · cases h
          · cases h
      · cases hk
    · cases hk
theorem evOp_mf {ε : Env} {st st1 : St} {o : Oper} {av : AV} (hm : memfree o.op = true) (h : evOp ε st o two = some (av, st1)) :
    st1 = st ∧ ∀ st', (∀ x ∈ o.op.operands, st'.ev x = st.ev x) → (∀ r, (getL st'.recs r).isSome = (getL st.recs r).isSome) → st'.lsts = st.lsts → evOp ε st' o two = some (av, st') := by
  obtain ⟨dst, op, type, pos, after, guard⟩ := o
  cases op <;> simp only [memfree] at hm <;> try (cases hm; done)
  all_goals simp only [evOp] at h
  case move x => cases h; exact ⟨rfl, fun st' hev _ _ => by simp only [evOp]; rw [hev x (by simp [Op.operands])]; rfl⟩
  case assign x => cases h; exact ⟨rfl, fun st' hev _ _ => by simp only [evOp]; rw [hev x (by simp [Op.operands])]; rfl⟩
  case pick c a b =>
    split at h
    · rename_i t hc
      refine ⟨by cases t <;> (cases h; rfl), fun st' hev _ _ => ?_⟩
      simp only [evOp]
      rw [hev c (by simp [Op.operands]), hev a (by simp [Op.operands]), hev b (by simp [Op.operands]), hc]
      cases t <;> (cases h; rfl)
    · cases h
  case binOp op xT x y yT =>
    rw [evBin_nat] at h
    obtain ⟨v, hv, e⟩ := Option.bind_eq_some_iff.1 h
    cases e
    refine ⟨rfl, fun st' hev _ _ => ?_⟩
    simp only [evOp]
    rw [hev x (by simp [Op.operands]), hev y (by simp [Op.operands]), evBin_nat, hv]; rfl
  case unOp op xT x =>
    rw [evUn_nat] at h
    obtain ⟨v, hv, e⟩ := Option.bind_eq_some_iff.1 h
    cases e
    refine ⟨rfl, fun st' hev _ _ => ?_⟩
    simp only [evOp]
    rw [hev x (by simp [Op.operands]), evUn_nat, hv]; rfl
  case fieldAddr t x f =>
    rw [evFieldAddr_nat] at h
    obtain ⟨v, hv, e⟩ := Option.bind_eq_some_iff.1 h
    cases e
    refine ⟨rfl, fun st' hev hr hl => ?_⟩
    simp only [evOp]
    rw [hev x (by simp [Op.operands]), evFieldAddr_nat]
    have : evFieldAddr ε st' t (st.ev x) f some = evFieldAddr ε st t (st.ev x) f some := by
      unfold evFieldAddr
      split
      · split
        · rfl
        · split
          · rw [hr]
          · rw [hl]
          · rfl
          · rfl
          · rfl
      · rfl
    rw [this, hv]; rfl
  case field t x f =>
    rw [evField_nat] at h
    obtain ⟨v, hv, e⟩ := Option.bind_eq_some_iff.1 h
    cases e
    refine ⟨rfl, fun st' hev _ _ => ?_⟩
    simp only [evOp]
    rw [hev x (by simp [Op.operands]), evField_nat, hv]; rfl
  case extract x i =>
    split at h
    · rename_i l he
      split at h
      · rename_i v hv
        cases h
        refine ⟨rfl, fun st' hev _ _ => ?_⟩
        simp only [evOp]
        rw [hev x (by simp [Op.operands]), he]; dsimp only; rw [hv]; rfl
      · cases h
    · cases h
/-! ### What an operation yields, with a list of the call's own told no more -/
theorem killL_mapK (t : Nat) (l : List AV) : killL t l = l.map (AV.kill t) := killL_map t l
theorem partOf_kill (t : Nat) (cells : List AV) (off n : Nat) (ag : Bool) : partOf (cells.map (AV.kill t)) off n ag = (partOf cells off n ag).map (AV.kill t) := by
  unfold partOf
  cases ag with
  | true =>
    simp only [if_true, List.length_map]
    split
    · simp only [Option.map_some, AV.kill, killL_mapK, ← List.map_drop, ← List.map_take]
    · rfl
  | false =>
    simp only [Bool.false_eq_true, if_false, ← List.map_drop]
    cases cells.drop off <;> rfl
theorem unpack_closed : ∀ (t : Ty) (x : t.den), closedL (unpack t x) = true
  | .unit, _ => rfl
  | .prod a b, x => by
    have h : ∀ l m : List AV, closedL l = true → closedL m = true → closedL (l ++ m) = true := by
      intro l m h1 h2
      induction l with
      | nil => exact h2
      | cons v l ih => simp only [List.cons_append, closedL, Bool.and_eq_true] at h1 ⊢; exact ⟨h1.1, ih h1.2⟩
    exact h _ _ (unpack_closed a x.1) (unpack_closed b x.2)
  | .value, x => rfl
  | .bool, _ | .int _, _ | .str, _ | .list _, _ => rfl
/-- The state in which list t is told no more, as far as an operation can see. -/
structure Killed (t : Nat) (st st' : St) : Prop where
  r : ∀ r, getL st'.recs r = (getL st.recs r).map (List.map (AV.kill t))
  l : ∀ q, q ≠ t → getL st'.lsts q = getL st.lsts q
theorem hom_field {ε : Env} {st st' : St} {t ty f : Nat} {x : AV} (hk : Killed t st st') (hx : .l t ∉ x.locs) : evFieldAddr ε st' ty (x.kill t) f some = (evFieldAddr ε st ty x f some).map (AV.kill t) := by
  unfold evFieldAddr
  cases hf : fieldAt ε ty f with
  | none => rfl
  | some q =>
    obtain ⟨off, n, ag⟩ := q
    dsimp only
    split
    · rfl
    · cases x <;> simp only [AV.kill] <;> try rfl
      case ptr r o => rw [hk.r]; simp only [Option.isSome_map]; split <;> rfl
      case whole j => by_cases e : j = t <;> (first | rw [if_pos e] | rw [if_neg e]) <;> rfl
      case eptr q i o =>
        have hq : q ≠ t := fun e => hx (by simp [AV.locs, e])
        rw [if_neg hq]; dsimp only; rw [hk.l q hq]; split <;> simp only [Option.map_some, Option.map_none, AV.kill, if_neg hq]
      case pim l => simp only [killL_mapK, List.length_map]; split <;> simp only [Option.map_some, Option.map_none, AV.kill, killL_mapK, List.map_drop]
      case sx y => cases y <;> rfl
theorem topCells_kill {t r : Nat} {recs recs' : List (Option (List AV))} (h : getL recs' r = (getL recs r).map (List.map (AV.kill t))) : topCells recs' r = (topCells recs r).map (List.map (AV.kill t)) := by
  unfold topCells
  rw [h]
  cases getL recs r with
  | none => rfl
  | some c =>
    cases c with
    | nil => rfl
    | cons v l =>
      cases v <;> try rfl
      case whole j => simp only [Option.map_some, List.map_cons, AV.kill]; by_cases e : j = t <;> (first | rw [if_pos e] | rw [if_neg e]) <;> rfl
      case eptr j i o => simp only [Option.map_some, List.map_cons, AV.kill]; by_cases e : j = t <;> (first | rw [if_pos e] | rw [if_neg e]) <;> rfl
      case sx y => cases y <;> rfl
theorem hom_load {ε : Env} {st st' : St} {t ty : Nat} {x : AV} (hk : Killed t st st') (hx : .l t ∉ x.locs) : evLoad ε st' ty (x.kill t) some = (evLoad ε st ty x some).map (AV.kill t) := by
  unfold evLoad
  cases hi : ε.ti ty with
  | none => rfl
  | some i =>
    dsimp only
    have hb : ∀ (cells : List AV) (off : Nat), (partOf (cells.map (AV.kill t)) off i.size i.agg).bind some = ((partOf cells off i.size i.agg).bind some).map (AV.kill t) := fun cells off => by
      rw [partOf_kill]; cases partOf cells off i.size i.agg <;> rfl
    cases x <;> simp only [AV.kill] <;> try rfl
    case ptr r o => rw [hk.r]; cases getL st.recs r with | none => rfl | some c => exact hb c o
    case whole j => by_cases e : j = t <;> (first | rw [if_pos e] | rw [if_neg e]) <;> rfl
    case eptr q n o =>
      have hq : q ≠ t := fun e => hx (by simp [AV.locs, e])
      rw [if_neg hq]; dsimp only; rw [hk.l q hq]
      cases getL st.lsts q with
      | none => rfl
      | some o1 =>
        dsimp only
        cases o1.xs[n]? with
        | none => rfl
        | some y =>
          simp only [Option.bind_some]
          rw [← hb, ← killL_mapK, closed_killL t (unpack_closed _ _)]
    case pim l => rw [killL_mapK]; exact hb l 0
    case sx y =>
      cases y <;> try rfl
      rename_i r o
      dsimp only; rw [topCells_kill (hk.r r)]
      cases topCells st.recs r with
      | none => rfl
      | some c => exact hb c o
theorem hom_fieldV {ε : Env} {t ty f : Nat} {x : AV} : evField ε ty (x.kill t) f some = (evField ε ty x f some).map (AV.kill t) := by
  unfold evField
  cases fieldAt ε ty f with
  | none => rfl
  | some q =>
    obtain ⟨off, n, ag⟩ := q
    cases x <;> simp only [AV.kill] <;> try rfl
    case whole j => by_cases e : j = t <;> (first | rw [if_pos e] | rw [if_neg e]) <;> rfl
    case eptr j i o => by_cases e : j = t <;> (first | rw [if_pos e] | rw [if_neg e]) <;> rfl
    case agg l => rw [killL_mapK, partOf_kill]; cases partOf l off n ag <;> rfl
theorem evOp_hm {ε : Env} {st st' : St} {o : Oper} {t : Nat} (hm : homOp o.op = true) (hk : Killed t st st') (hev : ∀ x ∈ o.op.operands, st'.ev x = (st.ev x).kill t) (ht : .l t ∉ touchOf st o) :
    (∀ av st1, evOp ε st o two = some (av, st1) → st1 = st ∧ evOp ε st' o two = some (av.kill t, st')) ∧ (∀ av' st1, evOp ε st' o two = some (av', st1) → ∃ av, av' = av.kill t ∧ st1 = st' ∧ evOp ε st o two = some (av, st)) := by
  have key : (evOp ε st' o two) = (evOp ε st o two).map (fun q => (q.1.kill t, st')) ∧ ∀ q, evOp ε st o two = some q → q.2 = st := by
    have lk : ∀ x ∈ o.op.operands, .l t ∉ (st.ev x).locs := fun x hx h => ht (by unfold touchOf; exact List.mem_flatMap.2 ⟨x, by simpa using hx, h⟩)
    obtain ⟨dst, op, type, pos, after, guard⟩ := o
    have nat : ∀ {F F' : Option AV} (s : St), F' = F.map (AV.kill t) → (F'.bind fun v => two v st') = (F.bind fun v => two v st).map (fun q => (q.1.kill t, st')) ∧ ∀ q, (F.bind fun v => two v st) = some q → q.2 = st := by
      intro F F' s e
      subst e
      cases F with
      | none => exact ⟨rfl, fun q h => by cases h⟩
      | some v => exact ⟨rfl, fun q h => by cases h; rfl⟩
    cases op <;> simp only [homOp] at hm <;> try (cases hm; done)
    all_goals simp only [evOp]
    case move x => rw [hev x (by simp [Op.operands])]; exact nat (F := some (st.ev x)) st rfl
    case assign x => rw [hev x (by simp [Op.operands])]; exact nat (F := some (st.ev x)) st rfl
    case load ty x =>
      rw [hev x (by simp [Op.operands]), evLoad_nat, evLoad_nat (K := fun v => two v st)]
      exact nat st (hom_load hk (lk x (by simp [Op.operands])))
    case fieldAddr ty x f =>
      rw [hev x (by simp [Op.operands]), evFieldAddr_nat, evFieldAddr_nat (K := fun v => two v st)]
      exact nat st (hom_field hk (lk x (by simp [Op.operands])))
    case field ty x f =>
      rw [hev x (by simp [Op.operands]), evField_nat, evField_nat (K := fun v => two v st)]
      exact nat st hom_fieldV
    case extract x i =>
      rw [hev x (by simp [Op.operands])]
      cases st.ev x <;> simp only [AV.kill] <;> try exact nat (F := none) st rfl
      case whole j => by_cases e : j = t <;> (first | rw [if_pos e] | rw [if_neg e]) <;> exact nat (F := none) st rfl
      case eptr j i o => by_cases e : j = t <;> (first | rw [if_pos e] | rw [if_neg e]) <;> exact nat (F := none) st rfl
      case tup l =>
        rw [killL_mapK, List.getElem?_map]
        cases l[i]? with
        | none => exact nat (F := none) st rfl
        | some v => exact nat (F := some v) st rfl
    case nilCheck x =>
      rw [hev x (by simp [Op.operands])]
      have hx := lk x (by simp [Op.operands])
      cases hv : st.ev x <;> simp only [AV.kill] <;> try exact nat (F := none) st rfl
      case ptr r o =>
        rw [hk.r]; simp only [Option.isSome_map]
        split
        · exact nat (F := some (.ptr r o)) st rfl
        · exact nat (F := none) st rfl
      case whole j => by_cases e : j = t <;> (first | rw [if_pos e] | rw [if_neg e]) <;> exact nat (F := none) st rfl
      case eptr q i o =>
        rw [hv] at hx
        have hq : q ≠ t := fun e => hx (by simp [AV.locs, e])
        rw [if_neg hq]; dsimp only; rw [hk.l q hq]
        split
        · exact nat (F := some (.eptr q i o)) (F' := some (.eptr q i o)) st (by simp [AV.kill, hq])
        · exact nat (F := none) st rfl
      case pim l => exact nat (F := some (.pim l)) st rfl
      case fn f a b => cases f <;> first | exact nat (F := some (.fn _ a b)) st rfl | exact nat (F := none) st rfl
      case sx y => cases y <;> first | exact nat (F := none) st rfl | exact nat (F := some (.sx (.tp _ _))) st rfl
  obtain ⟨k1, k2⟩ := key
  refine ⟨fun av st1 h => ?_, fun av' st1 h => ?_⟩
  · have := k2 _ h; refine ⟨this, ?_⟩
    rw [k1, h]; rfl
  · rw [k1, Option.map_eq_some_iff] at h
    obtain ⟨q, h1, h2⟩ := h
    cases h2
    have := k2 _ h1
    exact ⟨q.1, rfl, rfl, by rw [h1]; cases q; simp only at this; rw [this]⟩
end Go.Pe
