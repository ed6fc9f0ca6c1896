/- Iterators of the library, that a range over a function asks. -/
import Derived.Test.YtgghmllnhaahgaaPeRange
namespace Go.Pe
open Go.RowKit
set_option linter.unusedSectionVars false
variable [GI]
set_option linter.unusedSimpArgs false
set_option linter.unusedVariables false

def core (o : Oper) : Option Nat × Op × Option (Nat × Bool) := (o.dst, o.op, o.guard)
section
variable {P : Program} {ops : Array Oper} {Q : Exit → Act → World → Prop} {l : List Nat} {i n : Nat} {ρ : Option Nat} {a : Act} {w w' : World} {v : Value} {d : Option Nat} {op : Op}
theorem op_of (hi : (ops.map core)[i]? = some (d, op, none)) : ∃ o, ops[i]? = some o ∧ o = ⟨d, op, o.type, o.pos, o.after, none⟩ := by
  rw [Array.getElem?_map] at hi
  cases h : ops[i]? with
  | none => rw [h] at hi; cases hi
  | some o =>
    rw [h] at hi
    simp only [Option.map_some, Option.some.injEq, core, Prod.mk.injEq] at hi
    obtain ⟨h1, h2, h3⟩ := hi
    refine ⟨o, rfl, ?_⟩
    cases o; simp only at h1 h2 h3; subst h1; subst h2; subst h3; rfl
theorem op_step (hi : (ops.map core)[i]? = some (d, op, none)) (hnd : ∀ c, op ≠ .defer c) (hr : ∀ ty pos aft, (execOp a.eval ⟨d, op, ty, pos, aft, none⟩).run P w = .ok (.value v) w')
    (hn : wpOpsIn (Fr ρ) n P ops Q l (a.put d v) w') : wpOpsIn (Fr ρ) n P ops Q (i :: l) a w := by
  obtain ⟨o, ho, e⟩ := op_of hi
  simp only [wpOpsIn, ho]
  have hw : Region.wanted o (yielded ops a.tmps) = true := by rw [e]; simp [Region.wanted]
  simp only [hw, if_true]
  refine ⟨fun f _ => trivial, ?_⟩
  rw [Oper.semAt_eq _ _ _ (by rw [e]; exact hnd), e, hr]
  exact hn
theorem RoundIn.fr {m : Nat} {L : Nat} {f : FuncId} {tmps : Array Value} {assign body : Code} {R : Ending → World → Prop} (h : RoundIn (Fr ρ) n P L f tmps assign body w R) : RoundIn (Fr ρ) m P L f tmps assign body w R :=
  ⟨h.1, fun c cs _ => h.2 c cs (fun d hd => by cases ρ <;> cases hd)⟩
theorem op_yield {g : Operand} {args : Array Operand} {tys : Array TypeId} {m L : Nat} {R : Ending → World → Prop} (hi : (ops.map core)[i]? = some (d, .call { callee := .value g, args := args, argTypes := tys }, none)) (hg : a.eval g = .func (.yield L) #[] #[])
    (hy : YieldAt (Fr ρ) m P L (args.map a.eval) w R) (hn : ∀ e w', R e w' → ∃ v, e = .returned v ∧ wpOpsIn (Fr ρ) n P ops Q l (a.put d v) w') : wpOpsIn (Fr ρ) n P ops Q (i :: l) a w := by
  obtain ⟨o, ho, e⟩ := op_of hi
  obtain ⟨fn, tmps, assign, body, hrun, hR⟩ := hy
  simp only [wpOpsIn, ho]
  have hw : Region.wanted o (yielded ops a.tmps) = true := by rw [e]; simp [Region.wanted]
  simp only [hw, if_true]
  refine ⟨fun f _ => by cases ρ <;> trivial, ?_⟩
  rw [Oper.semAt_eq _ _ _ (by rw [e]; intro c h; cases h), e]
  have hx : (execOp a.eval ⟨d, .call { callee := .value g, args := args, argTypes := tys }, o.type, o.pos, o.after, none⟩).run P w = .ok (.round L fn tmps assign body) w := by
    have hrun' : (Instr.yield L (args.map a.eval)).run P w = .ok (.round L fn tmps assign body) w := hrun
    simp [execOp, resolve, Deferred.ofValue, hg, invoke, Sem.run_bind, Result.andThen, hrun']
  rw [hx, Oper.uponIn_round]
  refine ⟨fun h => by cases ρ <;> simp [Fr, Fence.wide] at h, (RoundIn.fr hR).mono fun e w' he => ?_⟩
  obtain ⟨v, rfl, h⟩ := hn e w' he
  exact h
end

/-! ### What a list's elements read as, in any world that keeps them -/
section
variable {P : Program} {ε : Env} (hε : EnvOk P ε)
theorem unpack_length : ∀ (t : Ty) (x : t.den), (unpack t x).length = t.size
  | .unit, _ => rfl
  | .prod a b, x => by simp only [unpack, List.length_append, unpack_length a, unpack_length b, Ty.size]
  | .value, _ => rfl
  | .bool, _ => rfl
  | .int _, _ => rfl
  | .str, _ => rfl
  | .list _, _ => rfl
theorem load_val {t : Nat} {i : TI} (hi : TiOk P t i) {w : World} {us : List Value} {ad : Addr} {v : Value} (hc : CellsAt w ad us) (hl : us.length = i.size) (hsp : ad.spot = none)
    (hv : (i.agg = true ∧ v = .agg us.toArray) ∨ (i.agg = false ∧ us[0]? = some v)) : (loadVar t ad).run P w = .ok v w := by
  obtain ⟨b, off, sp⟩ := ad
  simp only at hsp; subst hsp
  rcases hv with ⟨hag, rfl⟩ | ⟨hag, hv⟩
  · have hcl : (loadCells ⟨b, off, none⟩ i.size).run P w = .ok us.toArray w := by
      have := run_loadCells_list (P := P) w ⟨b, off, none⟩ us (fun j v hv => by
        rw [add_addr rfl]
        have h3 := hc j (List.getElem?_eq_some_iff.1 hv).1
        rw [← hv, ← h3])
      rwa [hl] at this
    unfold loadVar
    simp only [Sem.run_bind, isAgg_run hi, Result.andThen_ok, hag, if_true, sizeOf_run hi, hcl]
    rfl
  · unfold loadVar
    have h3 := hc 0 (List.getElem?_eq_some_iff.1 hv).1
    simp only [Nat.add_zero] at h3
    simp only [Sem.run_bind, isAgg_run hi, Result.andThen_ok, hag, Bool.false_eq_true, if_false, run_load, h3, hv]
include hε
theorem slice_vals {tsl te : Nat} {e : Ty} {ie : TI} (hsl : szOk ε tsl e = true) (hie : ε.ti te = some ie) (hsz : ie.size = e.size) {K0 : Nat → Prop} {W1 : World} {xs : List e.den} {s : Value} (hs : RepAV (c0 K0 W1) (.d (.list e) xs) s)
    (el : e.den → AV) (hel : ∀ y, partOf (unpack e y) 0 ie.size ie.agg = some (el y)) :
    ∃ (a : Option Addr) (cap : Nat) (val : Nat → Value), s = .slice a xs.length cap ∧ ∀ j (h : j < xs.length), RepAV (c0 K0 W1) (el xs[j]) (val j) ∧
      ∃ ad, (∀ W, (Instr.indexAt tsl s (.int .i64 (j : Int))).run P W = .ok (.pointer (some ad)) W) ∧ ∀ W : World, (∀ b, K0 b → W.heap[b]? = W1.heap[b]?) → (Instr.loadAt te (.pointer (some ad))).run P W = .ok (val j) W := by
  simp only [RepAV, Rep] at hs
  obtain ⟨v, hvs, hs⟩ := hs
  simp only [List.cons.injEq, and_true] at hvs; subst hvs
  have hti := hε.ti te ie hie
  obtain ⟨et, inf, hu, hi', hsz'⟩ := szOk_ok hε hsl
  have key : ∀ j (h : j < xs.length), ∃ vj ad, RepAV (c0 K0 W1) (el xs[j]) vj ∧ (∀ W, (Instr.indexAt tsl s (.int .i64 (j : Int))).run P W = .ok (.pointer (some ad)) W) ∧ ∀ W : World, (∀ b, K0 b → W.heap[b]? = W1.heap[b]?) → (Instr.loadAt te (.pointer (some ad))).run P W = .ok vj W := by
    intro j h
    obtain ⟨ad, cap, rfl, hsp, h0, h1, hr⟩ := sliceRep_elem (c := c0 K0 W1) (n := (j : Int)) (y := xs[j]) hs (by simp [nth, h])
    simp only [RepAV] at hr
    obtain ⟨ad', us, e1, hsp', hA, hcs, hu'⟩ := hr
    simp only [Value.pointer.injEq, Option.some.injEq] at e1
    have hlen : us.length = ie.size := by
      have := hu'.length
      rw [this, hsz]
      exact unpack_length ..
    obtain ⟨vj, hv, hrep⟩ : ∃ vj, ((ie.agg = true ∧ vj = .agg us.toArray) ∨ (ie.agg = false ∧ us[0]? = some vj)) ∧ RepAV (c0 K0 W1) (el xs[j]) vj := by
      rcases part_rep hu' (hel xs[j]) with ⟨hag, _, hp⟩ | ⟨hag, v, hv, hp⟩
      · refine ⟨_, .inl ⟨hag, rfl⟩, ?_⟩
        rw [← hlen] at hp
        simpa using hp
      · exact ⟨v, .inr ⟨hag, hv⟩, hp⟩
    refine ⟨vj, ad', hrep, fun W => ?_, fun W hW => ?_⟩
    · rw [← e1]
      have hj : (0 : Int) ≤ (j : Int) := by omega
      have hjl : (j : Int) < (xs.length : Int) := by omega
      simp [Instr.indexAt, asIntOf, run_underlying hu, hj, hjl, sizeOf, typeInfo, hi', add_addr hsp, hsz']
      intro h2; omega
    · have hc2 : CellsAt W ad' us := hcs.mono (hW _ hA)
      have := load_val hti hc2 hlen hsp' hv
      simp [Instr.loadAt, Instr.sureAddr, this]
  classical
  obtain ⟨a, cap, rfl, _⟩ := hs
  refine ⟨a, cap, fun j => if h : j < xs.length then (key j h).choose else undef, rfl, fun j h => ?_⟩
  obtain ⟨ad, h1, h2, h3⟩ := (key j h).choose_spec
  exact ⟨by simp only [h, dif_pos]; exact h1, ad, h2, fun W hW => by simp only [h, dif_pos]; exact h3 W hW⟩
end

/-! ### slices.Backward -/
section
variable {P : Program} {ε : Env} (hε : EnvOk P ε)
theorem put_tmps (a : Act) {d e : Nat} (v : Value) (hd : d < a.tmps.size) : (a.put (some d) v).tmps.getD e undef = if e = d then v else a.tmps.getD e undef := by
  simp only [Act.put, Array.getD_eq_getD_getElem?, Array.getElem?_setIfInBounds]
  by_cases h : d = e
  · subst h; simp [hd]
  · rw [if_neg h, if_neg (fun e => h e.symm)]
theorem put_size (a : Act) {d : Option Nat} (v : Value) : (a.put d v).tmps.size = a.tmps.size := by
  cases d <;> simp [Act.put]
/-- The state of the iterator. -/
structure BackAt (a : Act) (L : Nat) (pv : Value) (k : Int) : Prop where
  sz : a.tmps.size = 19
  t0 : a.tmps.getD 0 undef = .func (.yield L) #[] #[]
  t1 : a.tmps.getD 1 undef = pv
  t3 : a.tmps.getD 3 undef = .int .i64 (k - 1)
  df : a.defers = []
theorem BackAt.put {a : Act} {L : Nat} {pv : Value} {k : Int} {d : Nat} {v : Value} (h : BackAt a L pv k) (h0 : d ≠ 0) (h1 : d ≠ 1) (h3 : d ≠ 3) (hd : d < 19) : BackAt (a.put (some d) v) L pv k :=
  ⟨(put_size _ _).trans h.sz, by rw [put_tmps _ _ (by rw [h.sz]; exact hd), if_neg (Ne.symm h0)]; exact h.t0, by rw [put_tmps _ _ (by rw [h.sz]; exact hd), if_neg (Ne.symm h1)]; exact h.t1, by rw [put_tmps _ _ (by rw [h.sz]; exact hd), if_neg (Ne.symm h3)]; exact h.t3, by rw [put_defers]; exact h.df⟩
theorem wrapI {x : Int} (h0 : -9223372036854775808 ≤ x) (h1 : x < 9223372036854775808) : IntKind.i64.wrap x = x := by
  simp only [IntKind.wrap, IntKind.bits, IntKind.signed]
  simp
  omega
theorem toArr {o : Array Oper} {l : List (Option Nat × Op × Option (Nat × Bool))} (h : o.toList.map core = l) : o.map core = l.toArray := by
  apply Array.ext'; simpa using h
theorem back_walk {f : Nat} {fn : Func} (hf : P.funcs[f]? = some fn) {r0 r1 r2 r3 : Nat} {o0 o1 o2 o3 : Array Oper} {tsl te ti tb : TypeId} {tys : Array TypeId}
    (hb : fn.body = some (.seq (.region r0 o0 false) (.block 0 (.loop (.seq (.seq (.region r1 o1 false) (.cond (.tmp 8) .skip (.exit 0))) (.seq (.block 1 (.seq (.region r3 o3 false) (.cond (.tmp 18) .ret .skip))) (.region r2 o2 false)))))))
    (hn : fn.ntmps = 19) (hres : fn.results = #[])
    (h0 : o0.toList.map core = [(some 4, .load tsl (.tmp 1), none), (some 5, .call { callee := .builtin .len, args := #[.tmp 4], argTypes := #[tsl] }, none), (some 6, .binOp .sub ti (.tmp 5) (.const (.int .i64 1)) ti, none), (some 3, .assign (.tmp 6), none)])
    (h1 : o1.toList.map core = [(some 7, .move (.tmp 3), none), (some 8, .binOp .geq ti (.tmp 7) (.const (.int .i64 0)) ti, none)])
    (h3 : o3.toList.map core = [(some 11, .move (.tmp 0), none), (some 12, .move (.tmp 3), none), (some 13, .load tsl (.tmp 1), none), (some 14, .move (.tmp 3), none), (some 15, .indexAddr tsl (.tmp 13) (.tmp 14), none), (some 16, .load te (.tmp 15), none), (some 17, .call { callee := .value (.tmp 11), args := #[.tmp 12, .tmp 16], argTypes := tys }, none), (some 18, .unOp .not tb (.tmp 17), none)])
    (h2 : o2.toList.map core = [(some 9, .move (.tmp 3), none), (some 10, .binOp .sub ti (.tmp 9) (.const (.int .i64 1)) ti, none), (some 3, .assign (.tmp 10), none)])
    {K0 : Nat → Prop} {W1 : World} {pv s : Value} {len : Nat} {val : Nat → Value} (hlen64 : len ≤ 4294967296)
    (hload : ∀ W : World, (∀ b, K0 b → W.heap[b]? = W1.heap[b]?) → (Instr.loadAt tsl pv).run P W = .ok s W)
    (hlen : ∀ (W : World) ty, (Builtin.len_ #[tsl] ty #[s]).run P W = .ok (.int .i64 (len : Int)) W)
    (hval : ∀ j, j < len → ∃ ad, (∀ W, (Instr.indexAt tsl s (.int .i64 (j : Int))).run P W = .ok (.pointer (some ad)) W) ∧ ∀ W : World, (∀ b, K0 b → W.heap[b]? = W1.heap[b]?) → (Instr.loadAt te (.pointer (some ad))).run P W = .ok (val j) W)
    {encs : List (Array Value)} (henc : encs.length = len) (henc' : ∀ i (h : i < encs.length), encs[i] = #[.int .i64 ((len - 1 - i : Nat) : Int), val (len - 1 - i)]) :
    IterOk P f #[pv] encs K0 W1 := by
  replace h0 := toArr h0; replace h1 := toArr h1; replace h2 := toArr h2; replace h3 := toArr h3
  intro n L J Jx W hW hY hJ
  refine callsIn_of_wp hf hb trivial ?_
  have hsize : ∀ {o : Array Oper} {m : Nat} {l : Array (Option Nat × Op × Option (Nat × Bool))}, o.map core = l → l.size = m → o.size = m := fun h1 h2 => by rw [← h2, ← h1, Array.size_map]
  refine wpIn_seq (wpIn_region ?_)
  rw [hsize h0 (m := 4) rfl]
  have e0 : ∀ (a : Act) (t : Nat), a.eval (.tmp t) = a.tmps.getD t undef := fun _ _ => rfl
  rw [hn]
  generalize ha : ({ tmps := (#[.func (.yield L) #[] #[]] : Array Value) ++ #[pv] ++ Array.replicate (19 - ((#[.func (.yield L) #[] #[]] : Array Value) ++ #[pv]).size) undef, defers := [] } : Act) = a
  have hsz : a.tmps.size = 19 := by rw [← ha]; simp
  have ht0 : a.tmps.getD 0 undef = .func (.yield L) #[] #[] := by rw [← ha]; simp [Array.getElem?_append]
  have ht1 : a.tmps.getD 1 undef = pv := by rw [← ha]; simp [Array.getElem?_append]
  have hdf : a.defers = [] := by rw [← ha]
  show wpOpsIn (Fr none) n P o0 _ [0, 1, 2, 3] a W
  -- len(s) - 1
  refine op_step (v := s) (w' := W) (by rw [h0]; rfl) (by intro c h; cases h) (fun ty pos aft => by simp [execOp, e0, ht1, hload W hW]) ?_
  refine op_step (v := .int .i64 (len : Int)) (w' := W) (by rw [h0]; rfl) (by intro c h; cases h) (fun ty pos aft => by
    have : (a.put (some 4) s).tmps.getD 4 undef = s := by rw [put_tmps _ _ (by rw [hsz]; omega), if_pos rfl]
    simp [execOp, resolve, invoke, builtin, e0, this, hlen]) ?_
  refine op_step (v := .int .i64 ((len : Int) - 1)) (w' := W) (by rw [h0]; rfl) (by intro c h; cases h) (fun ty pos aft => by
    have : ((a.put (some 4) s).put (some 5) (.int .i64 (len : Int))).tmps.getD 5 undef = .int .i64 (len : Int) := by rw [put_tmps _ _ (by rw [put_size, hsz]; omega), if_pos rfl]
    simp only [execOp, e0, this]
    simp [Act.eval, eqGuard, binOp, Op.intArith]
    exact wrapI (by omega) (by omega)) ?_
  refine op_step (v := .int .i64 ((len : Int) - 1)) (w' := W) (by rw [h0]; rfl) (by intro c h; cases h) (fun ty pos aft => by
    simp only [execOp, e0]
    rw [put_tmps _ _ (by rw [put_size, put_size, hsz]; omega), if_pos rfl]
    rfl) ?_
  have hB : BackAt ((((a.put (some 4) s).put (some 5) (.int .i64 (len : Int))).put (some 6) (.int .i64 ((len : Int) - 1))).put (some 3) (.int .i64 ((len : Int) - 1))) L pv (len : Int) := by
    refine ⟨by simp [put_size, hsz], ?_, ?_, ?_, by simp [put_defers, hdf]⟩
    · repeat rw [put_tmps _ _ (by simp only [put_size, hsz]; omega), if_neg (by omega)]
      exact ht0
    · repeat rw [put_tmps _ _ (by simp only [put_size, hsz]; omega), if_neg (by omega)]
      exact ht1
    · rw [put_tmps _ _ (by simp only [put_size, hsz]; omega), if_pos rfl]
  generalize (((a.put (some 4) s).put (some 5) (.int .i64 (len : Int))).put (some 6) (.int .i64 ((len : Int) - 1))).put (some 3) (.int .i64 ((len : Int) - 1)) = a1 at hB
  clear ha hsz ht0 ht1 hdf a
  -- the loop
  show (Code.block 0 _).wpIn (Fr none) n P _ a1 W
  refine wpIn_block (wpIn_loop_rounds (len + 1) ?_)
  have key : ∀ (k : Nat) (a : Act) (W : World), k ≤ len → BackAt a L pv (k : Int) → (∀ b, K0 b → W.heap[b]? = W1.heap[b]?) → J (len - k) W →
      Code.roundsIn (Fr none) n P (.seq (.seq (.region r1 o1 false) (.cond (.tmp 8) .skip (.exit 0))) (.seq (.block 1 (.seq (.region r3 o3 false) (.cond (.tmp 18) .ret .skip))) (.region r2 o2 false))) (Exit.inBlock 0 (bodyPost P fn (fun e W2 => (∃ v, e = .returned v) ∧ (J encs.length W2 ∨ Jx W2)))) (k + 1) a W := by
    intro k
    induction k with
    | zero =>
      intro a W _ hB hW hJ
      rw [roundsIn_succ]
      refine wpIn_seq (wpIn_seq (wpIn_region ?_))
      rw [hsize h1 (m := 2) rfl]
      show wpOpsIn (Fr none) n P o1 _ [0, 1] a W
      refine op_step (v := .int .i64 (((0 : Nat) : Int) - 1)) (w' := W) (by rw [h1]; rfl) (by intro c h; cases h) (fun ty pos aft => by simp only [execOp, e0, hB.t3]; rfl) ?_
      refine op_step (v := .bool false) (w' := W) (by rw [h1]; rfl) (by intro c h; cases h) (fun ty pos aft => by
        simp only [execOp, e0]
        rw [put_tmps _ _ (by rw [hB.sz]; omega), if_pos rfl]
        simp [Act.eval, eqGuard, binOp, Op.intArith, Op.intCmp]) ?_
      have hB' := (hB.put (d := 7) (v := .int .i64 (((0 : Nat) : Int) - 1)) (by omega) (by omega) (by omega) (by omega)).put (d := 8) (v := .bool false) (by omega) (by omega) (by omega) (by omega)
      show (Code.cond (.tmp 8) .skip (.exit 0)).wpIn (Fr none) n P _ _ W
      refine wpIn_cond_false (by rw [e0, put_tmps _ _ (by rw [put_size, hB.sz]; omega), if_pos rfl]) (wpIn_exit ?_)
      refine ⟨hB'.df, _, results_none hres _ _ _, ⟨_, rfl⟩, .inl ?_⟩
      rw [henc]; exact hJ
    | succ k ih =>
      intro a W hk hB hW hJ
      rw [roundsIn_succ]
      refine wpIn_seq (wpIn_seq (wpIn_region ?_))
      rw [hsize h1 (m := 2) rfl]
      show wpOpsIn (Fr none) n P o1 _ [0, 1] a W
      have ek : ((k + 1 : Nat) : Int) - 1 = (k : Int) := by omega
      have t3 : a.tmps.getD 3 undef = .int .i64 (k : Int) := by rw [hB.t3, ek]
      refine op_step (v := .int .i64 (k : Int)) (w' := W) (by rw [h1]; rfl) (by intro c h; cases h) (fun ty pos aft => by simp only [execOp, e0, t3]; rfl) ?_
      refine op_step (v := .bool true) (w' := W) (by rw [h1]; rfl) (by intro c h; cases h) (fun ty pos aft => by
        simp only [execOp, e0]
        rw [put_tmps _ _ (by rw [hB.sz]; omega), if_pos rfl]
        simp [Act.eval, eqGuard, binOp, Op.intArith, Op.intCmp]) ?_
      have hB1 := (hB.put (d := 7) (v := .int .i64 (k : Int)) (by omega) (by omega) (by omega) (by omega)).put (d := 8) (v := .bool true) (by omega) (by omega) (by omega) (by omega)
      show (Code.cond (.tmp 8) .skip (.exit 0)).wpIn (Fr none) n P _ _ W
      refine wpIn_cond_true (by rw [e0, put_tmps _ _ (by rw [put_size, hB.sz]; omega), if_pos rfl]) (wpIn_skip ?_)
      generalize (a.put (some 7) (.int .i64 (k : Int))).put (some 8) (.bool true) = a1 at hB1
      clear hB t3
      show (Code.seq (.block 1 (.seq (.region r3 o3 false) (.cond (.tmp 18) .ret .skip))) (.region r2 o2 false)).wpIn (Fr none) n P _ a1 W
      refine wpIn_seq (wpIn_block (wpIn_seq (wpIn_region ?_)))
      rw [hsize h3 (m := 8) rfl]
      show wpOpsIn (Fr none) n P o3 _ [0, 1, 2, 3, 4, 5, 6, 7] a1 W
      have t3 : a1.tmps.getD 3 undef = .int .i64 (k : Int) := by rw [hB1.t3, ek]
      obtain ⟨ad, hix, hld⟩ := hval k (by omega)
      refine op_step (v := .func (.yield L) #[] #[]) (w' := W) (by rw [h3]; rfl) (by intro c h; cases h) (fun ty pos aft => by simp only [execOp, e0, hB1.t0]; rfl) ?_
      have hB2 := hB1.put (d := 11) (v := .func (.yield L) #[] #[]) (by omega) (by omega) (by omega) (by omega)
      have g11 : (a1.put (some 11) (.func (.yield L) #[] #[])).tmps.getD 11 undef = .func (.yield L) #[] #[] := by rw [put_tmps _ _ (by rw [hB1.sz]; omega), if_pos rfl]
      generalize a1.put (some 11) (.func (.yield L) #[] #[]) = a2 at hB2 g11
      have step : ∀ (a : Act) (d e : Nat) (v u : Value), a.tmps.size = 19 → d ≠ e → d < 19 → a.tmps.getD e undef = u → (a.put (some d) v).tmps.getD e undef = u := fun a d e v u h1 h2 h3 h4 => by
        rw [put_tmps _ _ (by omega), if_neg (Ne.symm h2)]; exact h4
      have same : ∀ (a : Act) (d : Nat) (v : Value), a.tmps.size = 19 → d < 19 → (a.put (some d) v).tmps.getD d undef = v := fun a d v h1 h2 => by
        rw [put_tmps _ _ (by omega), if_pos rfl]
      have k2 := hB2.t3; rw [ek] at k2
      refine op_step (v := .int .i64 (k : Int)) (w' := W) (by rw [h3]; rfl) (by intro c h; cases h) (fun ty pos aft => by simp only [execOp, e0, k2]; rfl) ?_
      have hB3 := hB2.put (d := 12) (v := .int .i64 (k : Int)) (by omega) (by omega) (by omega) (by omega)
      have g12 := same a2 12 (.int .i64 (k : Int)) hB2.sz (by omega)
      replace g11 := step a2 12 11 (.int .i64 (k : Int)) _ hB2.sz (by omega) (by omega) g11
      generalize a2.put (some 12) (.int .i64 (k : Int)) = a3 at hB3 g11 g12
      refine op_step (v := s) (w' := W) (by rw [h3]; rfl) (by intro c h; cases h) (fun ty pos aft => by simp [execOp, e0, hB3.t1, hload W hW]) ?_
      have hB4 := hB3.put (d := 13) (v := s) (by omega) (by omega) (by omega) (by omega)
      have g13 := same a3 13 s hB3.sz (by omega)
      replace g11 := step a3 13 11 s _ hB3.sz (by omega) (by omega) g11
      replace g12 := step a3 13 12 s _ hB3.sz (by omega) (by omega) g12
      generalize a3.put (some 13) s = a4 at hB4 g11 g12 g13
      have k4 := hB4.t3; rw [ek] at k4
      refine op_step (v := .int .i64 (k : Int)) (w' := W) (by rw [h3]; rfl) (by intro c h; cases h) (fun ty pos aft => by simp only [execOp, e0, k4]; rfl) ?_
      have hB5 := hB4.put (d := 14) (v := .int .i64 (k : Int)) (by omega) (by omega) (by omega) (by omega)
      have g14 := same a4 14 (.int .i64 (k : Int)) hB4.sz (by omega)
      replace g11 := step a4 14 11 (.int .i64 (k : Int)) _ hB4.sz (by omega) (by omega) g11
      replace g12 := step a4 14 12 (.int .i64 (k : Int)) _ hB4.sz (by omega) (by omega) g12
      replace g13 := step a4 14 13 (.int .i64 (k : Int)) _ hB4.sz (by omega) (by omega) g13
      generalize a4.put (some 14) (.int .i64 (k : Int)) = a5 at hB5 g11 g12 g13 g14
      refine op_step (v := .pointer (some ad)) (w' := W) (by rw [h3]; rfl) (by intro c h; cases h) (fun ty pos aft => by simp [execOp, e0, g13, g14, hix W]) ?_
      have hB6 := hB5.put (d := 15) (v := .pointer (some ad)) (by omega) (by omega) (by omega) (by omega)
      have g15 := same a5 15 (.pointer (some ad)) hB5.sz (by omega)
      replace g11 := step a5 15 11 (.pointer (some ad)) _ hB5.sz (by omega) (by omega) g11
      replace g12 := step a5 15 12 (.pointer (some ad)) _ hB5.sz (by omega) (by omega) g12
      generalize a5.put (some 15) (.pointer (some ad)) = a6 at hB6 g11 g12 g15
      refine op_step (v := val k) (w' := W) (by rw [h3]; rfl) (by intro c h; cases h) (fun ty pos aft => by simp [execOp, e0, g15, hld W hW]) ?_
      have hB7 := hB6.put (d := 16) (v := val k) (by omega) (by omega) (by omega) (by omega)
      have g16 := same a6 16 (val k) hB6.sz (by omega)
      replace g11 := step a6 16 11 (val k) _ hB6.sz (by omega) (by omega) g11
      replace g12 := step a6 16 12 (val k) _ hB6.sz (by omega) (by omega) g12
      generalize a6.put (some 16) (val k) = a7 at hB7 g11 g12 g16
      have hi : len - (k + 1) < encs.length := by omega
      have hyd := hY (len - (k + 1)) hi W hJ hW
      have hargs : encs[len - (k + 1)] = (#[.tmp 12, .tmp 16] : Array Operand).map a7.eval := by
        rw [henc' _ hi]
        have : len - 1 - (len - (k + 1)) = k := by omega
        rw [this]
        simp [e0, g12, g16]
      rw [hargs] at hyd
      refine op_yield (by rw [h3]; rfl) (by rw [e0, g11]) hyd fun e W2 hor => ?_
      rcases hor with ⟨rfl, hJ2, hW2⟩ | ⟨rfl, hJx⟩
      · refine ⟨_, rfl, ?_⟩
        have hB8 := hB7.put (d := 17) (v := .bool true) (by omega) (by omega) (by omega) (by omega)
        have g17 := same a7 17 (.bool true) hB7.sz (by omega)
        generalize a7.put (some 17) (.bool true) = a8 at hB8 g17
        refine op_step (v := .bool false) (w' := W2) (by rw [h3]; rfl) (by intro c h; cases h) (fun ty pos aft => by simp [execOp, e0, g17, Op.unary]) ?_
        have hB9 := hB8.put (d := 18) (v := .bool false) (by omega) (by omega) (by omega) (by omega)
        have g18 := same a8 18 (.bool false) hB8.sz (by omega)
        generalize a8.put (some 18) (.bool false) = a9 at hB9 g18
        show (Code.cond (.tmp 18) .ret .skip).wpIn (Fr none) n P _ a9 W2
        refine wpIn_cond_false (by rw [e0, g18]) (wpIn_skip ?_)
        show (Code.region r2 o2 false).wpIn (Fr none) n P _ a9 W2
        refine wpIn_region ?_
        rw [hsize h2 (m := 3) rfl]
        show wpOpsIn (Fr none) n P o2 _ [0, 1, 2] a9 W2
        have k9 := hB9.t3; rw [ek] at k9
        refine op_step (v := .int .i64 (k : Int)) (w' := W2) (by rw [h2]; rfl) (by intro c h; cases h) (fun ty pos aft => by simp only [execOp, e0, k9]; rfl) ?_
        have hB10 := hB9.put (d := 9) (v := .int .i64 (k : Int)) (by omega) (by omega) (by omega) (by omega)
        have g9 := same a9 9 (.int .i64 (k : Int)) hB9.sz (by omega)
        generalize a9.put (some 9) (.int .i64 (k : Int)) = a10 at hB10 g9
        refine op_step (v := .int .i64 ((k : Int) - 1)) (w' := W2) (by rw [h2]; rfl) (by intro c h; cases h) (fun ty pos aft => by
          simp only [execOp, e0, g9]
          simp [Act.eval, eqGuard, binOp, Op.intArith]
          exact wrapI (by omega) (by omega)) ?_
        have hB11 := hB10.put (d := 10) (v := .int .i64 ((k : Int) - 1)) (by omega) (by omega) (by omega) (by omega)
        have g10 := same a10 10 (.int .i64 ((k : Int) - 1)) hB10.sz (by omega)
        generalize a10.put (some 10) (.int .i64 ((k : Int) - 1)) = a11 at hB11 g10
        refine op_step (v := .int .i64 ((k : Int) - 1)) (w' := W2) (by rw [h2]; rfl) (by intro c h; cases h) (fun ty pos aft => by simp only [execOp, e0, g10]; rfl) ?_
        refine ih _ W2 (by omega) ⟨(put_size _ _).trans hB11.sz, step _ _ _ _ _ hB11.sz (by omega) (by omega) hB11.t0, step _ _ _ _ _ hB11.sz (by omega) (by omega) hB11.t1, same _ _ _ hB11.sz (by omega), by rw [put_defers]; exact hB11.df⟩ hW2 ?_
        have : len - (k + 1) + 1 = len - k := by omega
        rw [← this]; exact hJ2
      · refine ⟨_, rfl, ?_⟩
        have hB8 := hB7.put (d := 17) (v := .bool false) (by omega) (by omega) (by omega) (by omega)
        have g17 := same a7 17 (.bool false) hB7.sz (by omega)
        generalize a7.put (some 17) (.bool false) = a8 at hB8 g17
        refine op_step (v := .bool true) (w' := W2) (by rw [h3]; rfl) (by intro c h; cases h) (fun ty pos aft => by simp [execOp, e0, g17, Op.unary]) ?_
        have hB9 := hB8.put (d := 18) (v := .bool true) (by omega) (by omega) (by omega) (by omega)
        have g18 := same a8 18 (.bool true) hB8.sz (by omega)
        generalize a8.put (some 18) (.bool true) = a9 at hB9 g18
        show (Code.cond (.tmp 18) .ret .skip).wpIn (Fr none) n P _ a9 W2
        refine wpIn_cond_true (by rw [e0, g18]) (wpIn_ret ?_)
        exact ⟨hB9.df, _, results_none hres _ _ _, ⟨_, rfl⟩, .inr hJx⟩
  exact key len a1 W (Nat.le_refl _) hB hW (by simpa using hJ)
/-- The elements, from the last one to the first, each with its number. -/
def backs {α : Type} (xs : List α) : List (Int × α) := (xs.mapIdx fun j y => ((j : Int), y)).reverse
theorem backs_length {α : Type} (xs : List α) : (backs xs).length = xs.length := by simp [backs]
theorem backs_get {α : Type} (xs : List α) (i : Nat) (h : i < xs.length) (h' : i < (backs xs).length) : (backs xs)[i] = (((xs.length - 1 - i : Nat) : Int), xs[xs.length - 1 - i]) := by
  simp [backs, List.getElem_reverse]
include hε in
theorem back_of {np g f r : Nat} {fn : Func} (hf : P.funcs[f]? = some fn) (hnm : (fn.name == "runtime.NumGoroutine") = false) {r0 r1 r2 r3 : Nat} {o0 o1 o2 o3 : Array Oper} {tsl te ti tb : TypeId} {tys : Array TypeId}
    (hb : fn.body = some (.seq (.region r0 o0 false) (.block 0 (.loop (.seq (.seq (.region r1 o1 false) (.cond (.tmp 8) .skip (.exit 0))) (.seq (.block 1 (.seq (.region r3 o3 false) (.cond (.tmp 18) .ret .skip))) (.region r2 o2 false)))))))
    (hn : fn.ntmps = 19) (hres : fn.results = #[])
    (h0 : o0.toList.map core = [(some 4, .load tsl (.tmp 1), none), (some 5, .call { callee := .builtin .len, args := #[.tmp 4], argTypes := #[tsl] }, none), (some 6, .binOp .sub ti (.tmp 5) (.const (.int .i64 1)) ti, none), (some 3, .assign (.tmp 6), none)])
    (h1 : o1.toList.map core = [(some 7, .move (.tmp 3), none), (some 8, .binOp .geq ti (.tmp 7) (.const (.int .i64 0)) ti, none)])
    (h3 : o3.toList.map core = [(some 11, .move (.tmp 0), none), (some 12, .move (.tmp 3), none), (some 13, .load tsl (.tmp 1), none), (some 14, .move (.tmp 3), none), (some 15, .indexAddr tsl (.tmp 13) (.tmp 14), none), (some 16, .load te (.tmp 15), none), (some 17, .call { callee := .value (.tmp 11), args := #[.tmp 12, .tmp 16], argTypes := tys }, none), (some 18, .unOp .not tb (.tmp 17), none)])
    (h2 : o2.toList.map core = [(some 9, .move (.tmp 3), none), (some 10, .binOp .sub ti (.tmp 9) (.const (.int .i64 1)) ti, none), (some 3, .assign (.tmp 10), none)])
    {e : Ty} {ie is : TI} (hsl : szOk ε tsl e = true) (hie : ε.ti te = some ie) (hsz : ie.size = e.size) (his : ε.ti tsl = some is) (his1 : is.size = 1) (his2 : is.agg = false)
    (el : e.den → AV) (hel : ∀ y, partOf (unpack e y) 0 ie.size ie.agg = some (el y)) (hcl : ∀ y, (el y).closed = true)
    {ps : Array Tmp} (hps : ps.size = 2) {assign body : Code} {shi sh : Shape} {outs : List (Ex × Shape)} {ρ lm : List Nat} (xa : Ann P ρ.length false assign) (xb : Ann P ρ.length false body)
    (hnp0 : Nat.ble np shi.recs.length = true) (hnp1 : Nat.ble np sh.recs.length = true) (hnp2 : outsOk np outs = true)
    (xs : shi.den → List e.den) (hg : ∀ y, (fill shi y).slots[g]? = some (.fn (.func f) [] [.ptr r 0])) (hr : ∀ y, getL (fill shi y).recs r = some [.d (.list e) (xs y)]) (hdrop : getL sh.recs r = none)
    {F : shi.den → Option (OutDen outs)} (hF : ∀ y, F y = appOk (xs y).length ((abs sh (fill shi y)).bind fun y0 => rangeL (fun y z => roundF ε xa xb sh ρ lm ps.toList outs y [.d (.int .i64) z.1, el z.2]) (fun y => packOut outs .normal (fill sh y)) (backs (xs y)) y0)) :
    PieceSound P np true (.rangeFunc (.tmp g) ps assign body) shi outs F := by
  refine range_of hε xa xb (f := f) (sh := sh) (lm := lm) (elems := fun y => (backs (xs y)).map fun z => [.d (.int .i64) z.1, el z.2]) ⟨fn, hf, hnm, by rw [hb]; rfl⟩ hnp0 hnp1 hnp2 (gd := fun y => (xs y).length ≤ 4294967296) ?_ ?_
  · intro A0 w0 w μ y tmps hgd hs
    have hm := hs.mem
    obtain ⟨v, hv, hrep⟩ := hs.slots.get g _ (hg y)
    simp only [RepAV, RepAVs] at hrep
    obtain ⟨a', b', rfl, ha', pv, us, hb', hp, rfl⟩ := hrep
    obtain ⟨b, vs, hμ, hown, hcells⟩ := hm.hrec r _ (hr y) rfl
    have hpv : pv = .pointer (some ⟨b, 0, none⟩) := by
      obtain ⟨b2, hb2, rfl⟩ := hp.2.2 (by show (getL (fill shi y).recs r).isSome = true; rw [hr y]; rfl)
      have : μ.at_ (.r r) = some b2 := hb2
      rw [hμ] at this; cases this; rfl
    subst hpv
    obtain ⟨s, hvs, hsrep⟩ := hcells.one'
    obtain ⟨l1, l2, l3⟩ := hm.live _ _ hμ
    have hKb : Imm A0 w0 (μ.keep sh) w b := by
      refine ⟨hm.own_ok hμ, l2, fun x hx => ?_⟩
      have := hm.inj _ _ _ (keep_some hx) hμ
      subst this
      simp [Mu.keep, hdrop] at hx
    have hsrep0 : RepAV (c0 (Imm A0 w0 (μ.keep sh) w) w) (.d (.list e) (xs y)) s := by
      simp only [RepAV] at hsrep ⊢
      exact hsrep.mono (fun b hb => imm_keep hb) fun _ _ => rfl
    obtain ⟨a, cap, val, rfl, hval⟩ := slice_vals hε (P := P) hsl hie hsz hsrep0 el hel
    have hti := hε.ti tsl is his
    have hbe : b' = #[.pointer (some ⟨b, 0, none⟩)] := by apply Array.ext'; rw [hb']
    refine ⟨b', (backs (xs y)).mapIdx fun i z => #[.int .i64 z.1, val ((xs y).length - 1 - i)], ?_, by simp, ?_, ?_⟩
    · have e1 : a' = #[] := by apply Array.ext'; simpa using ha'
      have : tmps[g]? = some (.func (.func f) a' b') := by simpa using hv
      rw [Array.getD_eq_getD_getElem?, this, e1]; rfl
    · intro i h h'
      have hi : i < (xs y).length := by simpa [backs_length] using h
      simp only [List.getElem_map, List.getElem_mapIdx, backs_get _ i hi]
      refine ⟨?_, by rw [hps]; rfl, by simp [closedL, AV.closed, hcl]⟩
      obtain ⟨h1, _⟩ := hval ((xs y).length - 1 - i) (by omega)
      exact RepAVs.cons (by simp only [RepAV, Rep]) (RepAVs.cons h1 (by simp only [RepAVs]))
    · rw [hbe]
      refine back_walk hf hb hn hres h0 h1 h3 h2 hgd (s := .slice a (xs y).length cap) (val := val) ?_ ?_ (fun j hj => (hval j hj).2) (by simp [backs_length]) (fun i h => ?_)
      · intro W hW
        have hc : CellsAt W ⟨b, 0, none⟩ [.slice a (xs y).length cap] := by
          have := hown.cells
          rw [hvs] at this
          exact this.mono (hW b hKb)
        have := load_val hti hc (by rw [his1]; rfl) rfl (.inr ⟨his2, rfl⟩)
        simp [Instr.loadAt, Instr.sureAddr, this]
      · intro W ty
        obtain ⟨et, inf, hu, _⟩ := szOk_ok hε hsl
        simp [Builtin.len_, run_underlying hu]
        rfl
      · have hi : i < (xs y).length := by simpa [backs_length] using h
        simp [backs_get _ i hi]
  · intro y o ho
    rw [hF] at ho
    unfold appOk at ho
    split at ho
    · rename_i hle
      refine ⟨hle, ?_⟩
      rw [← ho]
      congr; funext y0
      exact rangeL_map _ _ _ _ _
    · cases ho
end
/-- What is known of a type, by name. -/
def tiGet (ε : Env) (t : Nat) : TI := match ε.ti t with | some i => i | none => ⟨.bool, 0, false, none, [], false, false⟩
def _root_.Go.Code.ra : Code → Code | .rangeFunc _ _ a _ => a | c => c
def _root_.Go.Code.rb : Code → Code | .rangeFunc _ _ _ b => b | c => c
end Go.Pe
