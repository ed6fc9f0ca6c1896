/- Texts of the proof, what is used of them: XV2, XV3, XV4, Open, Open2, XV5, XV6, XV7, XV8, XV9, XV11, XV13, XM1, XM2, XM3, XM4, XM5, CardTryd. -/
import Derived.SliceStrings
import Derived.SizedLaws
import Derived.WideShapes
import Derived.Lib.LaidU8
import Derived.Lib.LaidTab
import Derived.Shelf.Vars
import Derived.HandedShaped
import Derived.Handed
import Derived.Lay
import Derived.MakeChecks
import Derived.Test.YtgghmllnhaahgaaDoorPeZKeeps5
section
set_option linter.unusedSectionVars false
set_option linter.unusedVariables false
set_option linter.unusedSimpArgs false
namespace Go.Pe.Tryd
open Go.Proofs
set_option maxRecDepth 100000
theorem nx {i : Nat} (h : i ≤ 1000000) : IntKind.i64.wrap ((i : Int) + 1) = ((i + 1 : Nat) : Int) := by rw [wrap64 (by omega) (by omega)]; rfl
theorem lt_t {i n : Nat} (h : i < n) : decide ((i : Int) < (n : Int)) = true := by simp; omega
theorem va_eta (v : V) : (v.kind, (v.n, (v.s, (v.items, (v.keys, ()))))) = va v := rfl
theorem item_le {items : List V} {i : Nat} (h : i < items.length) : cnt items[i] ≤ cntL items ∧ dep items[i] ≤ depL items := ⟨cnt_mem (List.getElem_mem h), dep_mem (List.getElem_mem h)⟩
theorem count_step (G : argsDen f15_ps → Option (argsDen f15_rs)) (hG : Sound Tryd.prog 15 (pfun G)) (items : List V) (hm : cntL items ≤ 100000)
    (ih : ∀ v ∈ items, G (va v, ()) = some ((cnt v : Int), ())) : go (f15_p0_st G hG) (f15_p0_y (1 : Int) items (items.length : Int) (0 : Int)) = some (f15_p0_o0_y ((1 + cntL items : Nat) : Int)) := by
  have hl := cntL_len items
  refine go_seq (step := f15_p0_st G hG) (y := fun i => f15_p0_y ((1 + cntL (items.take i) : Nat) : Int) items (items.length : Int) (i : Int)) (n := items.length) (fun i hi rec => ?_) (fun rec => ?_) (by rw [fuel_def]; omega)
  · have h1 := cntL_take_le items i
    have h2 := item_le hi
    rw [f15_p0_eq, lt_t hi, cond_true, nth_lt hi, Option.bind_some, va_eta, ih _ (List.getElem_mem hi), Option.bind_some]
    dsimp only
    rw [nx (by omega), wrap64 (by omega) (by omega), cntL_take hi]
    congr 2; omega
  · rw [f15_p0_eq]; simp only [Int.lt_irrefl, decide_false, cond_false, List.take_length]
theorem f15_next (n : Nat) : (f15_S (n + 1)).1 = f15_b (f15_S n).1 (f15_S n).2 := by kernel_rfl
theorem count_ok : ∀ (n : Nat) (v : V), dep v ≤ n → cnt v ≤ 90000 → (f15_S n).1 (va v, ()) = some ((cnt v : Int), ())
  | 0, v, h, _ => by have := dep_pos v; omega
  | n + 1, .mk k a s items keys, hd, hc => by
    simp only [dep, cnt] at hd hc
    rw [f15_next, va_mk, f15_eq, count_step _ _ items (by omega) fun v hv => count_ok n v (by have := dep_mem hv; omega) (by have := cnt_mem hv; omega), Option.bind_some, f15_p0_o0_x3_y]
    simp only [cnt]
theorem f15_ok' (v : V) (h : cnt v ≤ 3000) : f15_F (va v, ()) = some ((cnt v : Int), ()) := by
  unfold f15_F
  exact count_ok recN v (by have := dep_le v; rw [recN_eq]; omega) (by omega)
theorem depth_step (G : argsDen f17_ps → Option (argsDen f17_rs)) (hG : Sound Tryd.prog 17 (pfun G)) (items : List V) (hm : cntL items ≤ 100000)
    (ih : ∀ v ∈ items, G (va v, ()) = some ((dep v : Int), ())) : go (f17_p0_st G hG) (f17_p0_y (0 : Int) items (items.length : Int) (0 : Int)) = some (f17_p0_o0_y ((depL items : Nat) : Int)) := by
  have hl := cntL_len items
  refine go_seq (step := f17_p0_st G hG) (y := fun i => f17_p0_y ((depL (items.take i) : Nat) : Int) items (items.length : Int) (i : Int)) (n := items.length) (fun i hi rec => ?_) (fun rec => ?_) (by rw [fuel_def]; omega)
  · rw [f17_p0_eq, lt_t hi, cond_true, nth_lt hi, Option.bind_some, va_eta, ih _ (List.getElem_mem hi), Option.bind_some]
    dsimp only
    rw [nx (by omega), maxI_nat, depL_take hi]
  · rw [f17_p0_eq]; simp only [Int.lt_irrefl, decide_false, cond_false, List.take_length]
theorem f17_next (n : Nat) : (f17_S (n + 1)).1 = f17_b (f17_S n).1 (f17_S n).2 := by kernel_rfl
theorem depth_ok : ∀ (n : Nat) (v : V), dep v ≤ n → cnt v ≤ 90000 → (f17_S n).1 (va v, ()) = some ((dep v : Int), ())
  | 0, v, h, _ => by have := dep_pos v; omega
  | n + 1, .mk k a s items keys, hd, hc => by
    simp only [dep, cnt] at hd hc
    have := depL_le items
    rw [f17_next, va_mk, f17_eq, depth_step _ _ items (by omega) fun v hv => depth_ok n v (by have := dep_mem hv; omega) (by have := cnt_mem hv; omega), Option.bind_some, f17_p0_o0_x3_y, nx (by omega)]
    simp only [dep, Nat.add_comm]
theorem f17_ok' (v : V) (h : cnt v ≤ 3000) : f17_F (va v, ()) = some ((dep v : Int), ()) := by
  unfold f17_F
  exact depth_ok recN v (by have := dep_le v; rw [recN_eq]; omega) (by omega)
end Go.Pe.Tryd
end
section
set_option linter.unusedSectionVars false
set_option linter.unusedVariables false
set_option linter.unusedSimpArgs false
namespace Go.Pe.Tryd
open Go.Proofs Go.RowKit
set_option maxRecDepth 100000
theorem fuel0 (t : Ty) (r : List SAV) (x : t.den) (z : SAVs.den r) : t.fuel x ≤ fuelL (.hole t :: r) (x, z) := by
  simp only [fuelL, SAV.fuel]; omega
def ctl (b : UInt8) : Bool := decide ((b.toNat : Int) < 32)
def tok (s : List UInt8) : Bool := decide (s.length ≤ 4000) && !s.any ctl
theorem findIdx_any {α : Type} (p : α → Bool) (l : List α) : (l.findIdx? p).isSome = l.any p := by
  rw [Bool.eq_iff_iff, List.any_eq_true]; simp
theorem nth_bytes {s : List UInt8} {i : Nat} (h : i < s.length) : nth (bytesOf s) (i : Int) = some ((s[i].toNat : Nat) : Int) := by
  rw [nth_nat]; simp [bytesOf, h]
theorem h74_is (s : List UInt8) (h : s.length ≤ 4000) : h74_F (h74_y (bytesOf s)) = some (h74_o_y (s.any ctl)) := by
  rw [h74_eq, h99_eq]
  have hb : ((bytesOf s).length : Int) = (s.length : Int) := by simp [bytesOf]
  rw [hb]
  have e := go_scan (step := h99_p0_st) (l := s) (fun i => h99_p0_y (bytesOf s) (s.length : Int) (i : Int)) ctl (fun i => some (.inr (h99_p0_o1_y (i : Int)))) (some (.inl h99_p0_o0_y)) (fun i hi rec => by
    rw [h99_p0_eq, lt_t hi, cond_true, nth_bytes hi, Option.bind_some, f75_eq, Option.bind_some]
    dsimp only
    rw [nx (by omega)]; rfl) (fun rec => by rw [h99_p0_eq]; simp only [Int.lt_irrefl, decide_false, cond_false]) (by rw [fuel_def]; omega)
  have e' : go h99_p0_st (h99_p0_y (bytesOf s) (s.length : Int) (0 : Int)) = _ := e
  rw [e', ← findIdx_any]
  cases s.findIdx? ctl with
  | none => rfl
  | some k =>
    simp only [Option.bind_some, h99_p0_o1_x4_y, h99_o_x0_y, Option.isSome_some]
    have : decide ((k : Int) ≥ 0) = true := by simp
    rw [this]
theorem f57_ok' (s : List UInt8) : f57_F (s, ()) = some (tok s, ()) := by
  rw [f57_eq]
  by_cases h : s.length ≤ 4000
  · have : decide ((s.length : Int) ≤ 4000) = true := by simp; omega
    rw [this, cond_true, h74_is s h, Option.bind_some, h74_o_x0_y]
    simp [tok, h]
  · have : decide ((s.length : Int) ≤ 4000) = false := by simp; omega
    rw [this, cond_false]; simp [tok, h]
theorem nxb {i : Nat} (h : i ≤ 200000000000000) : IntKind.i64.wrap ((i : Int) + 1) = ((i + 1 : Nat) : Int) := by rw [wrap64 (by omega) (by omega)]; rfl
def kbad (ks : List (List UInt8)) (i : Nat) : Bool := !tok (ks.getD i []) || (decide (0 < i) && !Op.bytesLess (ks.getD (i - 1) []) (ks.getD i []))
def kok (ks : List (List UInt8)) : Bool := !(List.range ks.length).any (kbad ks)
theorem getD_lt {α : Type} {l : List α} {i : Nat} {d : α} (h : i < l.length) : l.getD i d = l[i] := by simp [List.getD_eq_getElem?_getD, h]
theorem pred_nat {i : Nat} (h : 0 < i) (h2 : i ≤ 1000000) : IntKind.i64.wrap ((i : Int) - 1) = ((i - 1 : Nat) : Int) := by rw [wrap64 (by omega) (by omega)]; omega
theorem f58_ok' (ks : List (List UInt8)) (h : ks.length ≤ 4000) : f58_F (ks, ()) = some (kok ks, ()) := by
  rw [f58_eq]
  have hr : (List.range ks.length).length = ks.length := by simp
  have e := go_scan (step := f58_p1_st) (l := List.range ks.length) (fun i => f58_p1_y ks ks (ks.length : Int) (i : Int)) (kbad ks) (fun i => some (.inr (f58_p1_o1_y false))) (some (.inl f58_p1_o0_y)) (fun i hi rec => by
    have hi' : i < ks.length := by simpa using hi
    rw [f58_p1_eq, lt_t hi', cond_true, nth_lt hi', Option.bind_some, f58_p0_eq, f57_ok', Option.bind_some, List.getElem_range]
    dsimp only
    unfold kbad
    rw [getD_lt hi']
    cases ht : tok ks[i] with
    | false => simp only [Bool.not_false, cond_true, Option.bind_some, f58_p0_o0_x27_y, Bool.true_or]
    | true =>
      simp only [Bool.not_true, cond_false, Bool.false_or]
      by_cases h0 : 0 < i
      · have e1 : decide ((i : Int) > 0) = true := by simp; omega
        have h1 : i - 1 < ks.length := by omega
        rw [e1, cond_true, pred_nat h0 (by omega), nth_lt h1, Option.bind_some, Option.bind_some, f58_p0_o0_x27_y, f58_p0_o0_x0_y, f58_p0_o0_x5_y, f58_p0_o0_x6_y, f58_p0_o0_x7_y, nx (by omega), getD_lt h1]
        simp [h0]
      · have e1 : decide ((i : Int) > 0) = false := by simp; omega
        rw [e1, cond_false, Option.bind_some, f58_p0_o0_x27_y, f58_p0_o0_x0_y, f58_p0_o0_x5_y, f58_p0_o0_x6_y, f58_p0_o0_x7_y, nx (by omega)]
        simp [h0]) (fun rec => by rw [hr, f58_p1_eq]; simp only [Int.lt_irrefl, decide_false, cond_false]) (by rw [fuel_def]; omega)
  have e' : go f58_p1_st (f58_p1_y ks ks (ks.length : Int) (0 : Int)) = _ := e
  rw [e']
  unfold kok
  rw [← findIdx_any]
  cases (List.range ks.length).findIdx? (kbad ks) with
  | none => rfl
  | some k => simp only [Option.bind_some, f58_p1_o1_x2_y]; rfl
end Go.Pe.Tryd
end
section
set_option linter.unusedSectionVars false
set_option linter.unusedVariables false
set_option linter.unusedSimpArgs false
namespace Go.Pe.Tryd
open Go.Proofs Go.RowKit
set_option maxRecDepth 100000
def noIt (items : List V) (keys : List (List UInt8)) : Bool := bif ((items.length : Int) == 0) then ((keys.length : Int) == 0) else false
def mayP (k n : Int) (s : List UInt8) (items : List V) (keys : List (List UInt8)) : Bool :=
  bif k == 1 then (noIt items keys && (s == [] && (decide (n ≥ -1099511627776) && decide (n ≤ 1099511627776))))
  else bif k == 2 then (noIt items keys && (n == 0 && tok s))
  else bif k == 3 then (n == 0 && (s == [] && (keys.length : Int) == 0))
  else (k == 4 && (n == 0 && (s == [] && ((keys.length : Int) == (items.length : Int) && kok keys))))
def may (v : V) : Bool := mayP v.kind v.n v.s v.items v.keys
theorem f37_ok' (v : V) (h : v.items.length ≤ 4000) : f37_F (va v, ()) = some (may v, ()) := by
  obtain ⟨k, n, s, items, keys⟩ := v
  rw [va_mk, f37_eq, f37_p1_eq]
  have hx : (bif ((items.length : Int) == (0 : Int)) then (some ((f37_p1_o0_y ((keys.length : Int) == (0 : Int)) k n s items keys))) else (some ((f37_p1_o0_y false k n s items keys)))) = some (f37_p1_o0_y (noIt items keys) k n s items keys) := by
    unfold noIt
    cases ((items.length : Int) == (0 : Int)) <;> rfl
  rw [hx, Option.bind_some, f37_p1_o0_r0_0_y, f37_p1_o0_r0_1_y, f37_p1_o0_r0_2_y, f37_p1_o0_r0_3_y, f37_p1_o0_r0_4_y, f37_p1_o0_x3_y]
  show _ = some (mayP k n s items keys, ())
  unfold mayP
  generalize noIt items keys = e
  cases k == 1 with
  | true =>
    rw [cond_true, cond_true]
    cases e <;> cases s == [] <;> cases decide (n ≥ -1099511627776) <;> rfl
  | false =>
    rw [cond_false, cond_false]
    cases k == 2 with
    | true =>
      rw [cond_true, cond_true, f57_ok']
      cases e <;> cases n == 0 <;> rfl
    | false =>
      rw [cond_false, cond_false]
      cases k == 3 with
      | true =>
        rw [cond_true, cond_true]
        cases n == 0 <;> cases s == [] <;> rfl
      | false =>
        rw [cond_false, cond_false, f37_p0_eq]
        cases k == 4 with
        | false => rfl
        | true =>
          rw [cond_true]
          cases n == 0 with
          | false => simp only [cond_false, Option.bind_some, f37_p0_o0_x2_y, Bool.false_and, Bool.and_false]
          | true =>
            cases s == [] with
            | false => simp only [cond_true, cond_false, Option.bind_some, f37_p0_o0_x2_y, Bool.false_and, Bool.and_false]
            | true =>
              cases hk : ((keys.length : Int) == (items.length : Int)) with
              | false => simp only [cond_true, cond_false, Option.bind_some, f37_p0_o0_x2_y, Bool.false_and, Bool.and_false]
              | true =>
                have : keys.length = items.length := by have := beq_iff_eq.1 hk; omega
                rw [cond_true, cond_true, cond_true, f58_ok' keys (by simp only [V.items] at h; omega)]
                simp only [Option.bind_some, f37_p0_o0_x2_y, Bool.true_and]
end Go.Pe.Tryd
end
section
namespace Go.Pe
open Go.RowKit Go.ChangeShapes
/-- All of a world. -/
def All (w : World) (b : Nat) : Prop := b < w.heap.size
theorem cell_lt {w : World} {a : Addr} {v : Value} (h : w.cell? a = some v) : a.block < w.heap.size ∧ a.spot = none := by
  unfold World.cell? at h
  split at h
  · rename_i c el t hb
    refine ⟨(Array.getElem?_eq_some_iff.1 hb).1, ?_⟩
    split at h
    · cases h
    · rename_i hs; simpa using hs
  · cases h
theorem add_spot {a : Addr} (h : a.spot = none) (n : Nat) : a.add n = ⟨a.block, a.off + n, none⟩ := by
  unfold Addr.add
  split
  · rename_i e; subst e; cases a; simp_all
  · rfl
theorem decTys_enc : ∀ (ts : List Ty) (x : tysDen ts), decTys ts (encTys ts x) = some x
  | [], _ => rfl
  | t :: ts, x => by simp only [encTys, decTys, asTy, dite_true, Option.bind_some, decTys_enc ts x.2]
theorem KD.dec_enc : ∀ (k : KD) (x : k.den), k.dec (k.enc x) = some x
  | .one t, x => by simp only [KD.enc, KD.dec, asTy, dite_true]
  | .agg ts, x => by simp only [KD.enc, KD.dec, decTys_enc]
theorem decArgs_enc : ∀ (ks : List KD) (x : argsDen ks), decArgs ks (encArgs ks x) = some x
  | [], _ => rfl
  | k :: ks, x => by simp only [encArgs, decArgs, KD.dec_enc, Option.bind_some, decArgs_enc ks x.2]
/-- A law that is true of what it is told. -/
theorem law_walk [GI] {P : Program} {f : Nat} {ps : List KD} {F : argsDen ps → Option (argsDen [.one .bool])} (h : Sound P f (pfun F)) (y : argsDen ps) (hF : F y = some (true, ())) {w : World} {vs : List Value} (hgi : GI.inv w)
    (hrep : RepAVs (c0 (All w) w) (encArgs ps y) vs) : Calls P f vs.toArray w fun e w' => e = .returned (.bool true) ∧ Below w.heap.size w w' := by
  obtain ⟨av, hK, _, hc⟩ := h.2 AV (encArgs ps y) some (.d .bool true) (by simp only [pfun, decArgs_enc, Option.bind_some, hF]; rfl) (All w) w vs (fun b hb => hb) hgi (encArgs_closed ps y) hrep
  cases hK
  refine hc.mono fun e w' ⟨v, he, hb, hr⟩ => ?_
  simp only [RepAV, Rep, List.cons.injEq, and_true] at hr
  subst hr
  exact ⟨he, hb⟩
end Go.Pe
end
section
namespace Go.Pe
open Go.RowKit Go.ChangeShapes Go.WideShapes
set_option linter.unusedSectionVars false
variable [GI]

/-- A value within sizes. -/
inductive WfV (N : Nat) : V → Prop
  | mk (kind n : Int) (s : List UInt8) (items : List V) (keys : List (List UInt8)) (hk : (Lit.int .i64 kind).wf = true) (hn : (Lit.int .i64 n).wf = true) (hs : s.length ≤ N) (hi : items.length ≤ N) (hks : keys.length ≤ N)
      (hit : ∀ i (h : i < items.length), WfV N items[i]) (hkl : ∀ k ∈ keys, k.length ≤ N) : WfV N (.mk kind n s items keys)
/-- Data within sizes. -/
def Wf (N : Nat) : (t : Ty) → t.den → Prop
  | .bool, _ => True
  | .int k, n => (Lit.int k n).wf = true
  | .str, s => s.length ≤ N
  | .list e, xs => xs.length ≤ N ∧ ∀ x ∈ xs, Wf N e x
  | .unit, _ => True
  | .prod a b, x => Wf N a x.1 ∧ Wf N b x.2
  | .value, x => WfV N x

def layTys (P : Program) (f : Nat → Option Ty) (total : Nat) : Nat → List (Nat × Nat) → Option Ty
  | off, [] => if off = total then some .unit else none
  | off, [(t, o)] => if o = off ∧ off + P.cellsOf t = total then (f t).bind fun a => if a.size = P.cellsOf t then some a else none else none
  | off, (t, o) :: r => if o = off then (f t).bind fun a => if a.size = P.cellsOf t then (layTys P f total (off + P.cellsOf t) r).bind fun b => some (.prod a b) else none else none
def isInt64 (P : Program) (t : Nat) : Bool := match P.underlying t with | some (.int .i64) => true | _ => false
def isString (P : Program) (t : Nat) : Bool := match P.underlying t with | some .string => true | _ => false
def sliceEl (P : Program) (t : Nat) : Option Nat := match P.underlying t with | some (.slice e) => some e | _ => none
def vtOk (P : Program) (vt : Nat) : Bool :=
  match P.underlying vt with
  | some (.struct fs) => (match fs.toList.map fun f => (f.type, f.offset) with
    | [(t1, 0), (t2, 1), (t3, 2), (t4, 3), (t5, 4)] => isInt64 P t1 && isInt64 P t2 && isString P t3 && (match sliceEl P t4 with | some e => Nat.beq e vt | none => false) && (match sliceEl P t5 with | some e => isString P e && Nat.beq (P.cellsOf e) 1 && Nat.ble 1 (P.bytesOf e) | none => false) &&
      Nat.beq (P.cellsOf t1) 1 && Nat.beq (P.cellsOf t2) 1 && Nat.beq (P.cellsOf t3) 1 && Nat.beq (P.cellsOf t4) 1 && Nat.beq (P.cellsOf t5) 1 && Nat.beq (P.cellsOf vt) 5 && Nat.ble 1 (P.bytesOf vt)
    | _ => false)
  | _ => false
/-- A type's kind, if its cells lie one behind the other. -/
def lay (P : Program) (vt : Nat) : Nat → Nat → Option Ty
  | 0, _ => none
  | n + 1, t => if t = vt then (if vtOk P vt = true then some .value else none) else match P.underlying t with
    | some .bool => some .bool
    | some (.int k) => some (.int k)
    | some .string => some .str
    | some (.slice e) => if 1 ≤ P.bytesOf e ∧ 1 ≤ P.cellsOf e then (lay P vt n e).bind fun ty => if ty.size = P.cellsOf e then some (.list ty) else none else none
    | some (.struct fs) => layTys P (lay P vt n) (P.cellsOf t) 0 (fs.toList.map fun f => (f.type, f.offset))
    | _ => none

section
variable {H : Type} {enc : TypeId × Value → H} {P : Program} {w : World} {base : Nat} {spare : Nat → Bool} {held : Bool} {N vt : Nat}

theorem rows_of {α : Type} {R : α → List Value → Prop} {W : α → Prop} {sz blk : Nat} : ∀ (len off : Nat), (∀ i, i < len → ∃ x c, R x c ∧ W x ∧ c.length = sz ∧ ∀ j, j < sz → w.cell? ⟨blk, off + i * sz + j, none⟩ = c[j]?) →
    ∃ (xs : List α) (us : List Value), xs.length = len ∧ (∀ x ∈ xs, W x) ∧ us.length = len * sz ∧ CellsAt w ⟨blk, off, none⟩ us ∧ RepAll R xs us
  | 0, off, _ => ⟨[], [], rfl, by simp, by simp, fun j hj => by simp at hj, rfl⟩
  | len + 1, off, h => by
    obtain ⟨x, c, h1, h2, h3, h4⟩ := h 0 (by omega)
    obtain ⟨xs, us, g1, g2, g3, g4, g5⟩ := rows_of len (off + sz) fun i hi => by
      obtain ⟨x, c, h1, h2, h3, h4⟩ := h (i + 1) (by omega)
      refine ⟨x, c, h1, h2, h3, fun j hj => ?_⟩
      rw [← h4 j hj, show off + sz + i * sz + j = off + (i + 1) * sz + j by rw [Nat.succ_mul]; omega]
    refine ⟨x :: xs, c ++ us, by simp [g1], by simpa using ⟨h2, g2⟩, by simp [g3, h3, Nat.succ_mul]; omega, fun j hj => ?_, c, us, rfl, h1, g5⟩
    simp only [List.length_append] at hj
    rcases Nat.lt_or_ge j sz with hl | hl
    · rw [List.getElem?_append_left (by omega), ← h4 j hl]; simp
    · rw [List.getElem?_append_right (by omega)]
      have := g4 (j - c.length) (by omega)
      simp only at this
      rw [← this, show off + sz + (j - c.length) = off + j by omega]

theorem slice_rep {ty : Ty} {e t fuel : Nat} {cs : List Value} {d : DataW H} {ps : List MemPlace} (ht : P.underlying t = some (.slice e)) (hb : 1 ≤ P.bytesOf e) (hc : 1 ≤ P.cellsOf e) (hsz : ty.size = P.cellsOf e)
    (ih : ∀ m, m < fuel → ∀ (cs : List Value) (d : DataW H) (ps : List MemPlace), DataW.trod enc P w base spare held m e cs = some (d, ps) → (∀ m ∈ d.weights P e, m ≤ N) → ∃ x, Rep (All w) w ty x cs ∧ Wf N ty x)
    (h : DataW.trod enc P w base spare held fuel t cs = some (d, ps)) (hw : ∀ m ∈ d.weights P t, m ≤ N) : ∃ x, Rep (All w) w (.list ty) x cs ∧ Wf N (.list ty) x := by
  rcases DataW.trod_slice ht h with ⟨rfl, hx⟩ | ⟨a, len, cap, elems, rest, n, hf, rfl, hx, _, hlc, _, hel, hat, _, _⟩
  · exact ⟨[], ⟨_, rfl, none, 0, rfl, Nat.le_refl _, .inl rfl⟩, by simp [Wf]⟩
  · have hd : d = .slice (elems.map (·.1)) (rest.map (·.1)) := congrArg Prod.fst hx
    subst hd
    simp only [DataW.weights, ht, List.mem_cons, List.mem_append] at hw
    have hlen : len ≤ N := by
      have := hw _ (.inl rfl)
      have h2 : len * 1 ≤ (elems.length + rest.length) * P.bytesOf e := Nat.mul_le_mul (by omega) hb
      simp only [List.length_map] at this
      omega
    have key : ∀ i, i < len → ∃ x c, Rep (All w) w ty x c ∧ Wf N ty x ∧ c.length = P.cellsOf e ∧ ∀ j, j < P.cellsOf e → w.cell? ((a.add (i * P.cellsOf e)).add j) = c[j]? := by
      intro i hi
      have h1 := hat i hi
      rw [List.getElem?_eq_getElem (by omega), Option.bind_eq_some_iff] at h1
      obtain ⟨c, hc1, hc2⟩ := h1
      obtain ⟨_, hc3, hc4⟩ := World.cells?_some hc1
      obtain ⟨x, hx1, hx2⟩ := ih n (by omega) c (elems[i]).1 (elems[i]).2 hc2 fun m hm => hw m (.inr (.inl (by
        have : ∀ (l : List (DataW H)) (d : DataW H), d ∈ l → m ∈ d.weights P e → m ∈ DataW.weightsAll P e l := by
          intro l; induction l with
          | nil => intro d hd; simp at hd
          | cons y l ih => intro d hd hm; simp only [DataW.weightsAll, List.mem_append]; exact (List.mem_cons.1 hd).elim (fun e => .inl (e ▸ hm)) (fun hd => .inr (ih d hd hm))
        exact this _ _ (List.mem_map_of_mem (List.getElem_mem (l := elems) (by omega))) hm)))
      exact ⟨x, c, hx1, hx2, hc3, hc4⟩
    rcases Nat.eq_zero_or_pos len with h0 | h0
    · subst h0
      exact ⟨[], ⟨_, rfl, some a, cap, rfl, by simp, .inl rfl⟩, by simp [Wf]⟩
    · obtain ⟨x, c, _, _, hcl, hcc⟩ := key 0 h0
      have h00 := hcc 0 (by omega)
      rw [List.getElem?_eq_getElem (by omega)] at h00
      have ha : a.block < w.heap.size ∧ a.spot = none := by
        have h1 : (a.add (0 * P.cellsOf e)).add 0 = a := by simp [Addr.add]
        rw [h1] at h00
        exact cell_lt h00
      obtain ⟨xs, us, g1, g2, g3, g4, g5⟩ := rows_of (w := w) (R := Rep (All w) w ty) (W := Wf N ty) (sz := P.cellsOf e) (blk := a.block) len a.off fun i hi => by
        obtain ⟨x, c, h1, h2, h3, h4⟩ := key i hi
        refine ⟨x, c, h1, h2, h3, fun j hj => ?_⟩
        rw [← h4 j hj, add_spot ha.2, add_spot rfl]
      refine ⟨xs, ⟨_, rfl, some a, cap, by rw [g1], by omega, .inr ⟨a, us, rfl, ha.2, ha.1, ?_, g5⟩⟩, ?_⟩
      · intro j hj
        exact g4 j hj
      · simp only [Wf]; exact ⟨by omega, g2⟩

theorem mem_each : ∀ {ts : List TypeId} {ds : List (DataW H)} {t d} {m : Nat}, m ∈ DataW.weights P t d → m ∈ DataW.weightsEach P (t :: ts) (d :: ds) := by
  intro ts ds t d m h
  simp only [DataW.weightsEach, List.mem_append]; exact .inl h
theorem mem_each' : ∀ {ts : List TypeId} {ds : List (DataW H)} {t d} {m : Nat}, m ∈ DataW.weightsEach P ts ds → m ∈ DataW.weightsEach P (t :: ts) (d :: ds) := by
  intro ts ds t d m h
  simp only [DataW.weightsEach, List.mem_append]; exact .inr h

theorem fields_rep {f : Nat → Option Ty} {fuel total : Nat} {cs : List Value} (hlen : cs.length = total)
    (ih : ∀ t ty (cs : List Value) (d : DataW H) (ps : List MemPlace), f t = some ty → DataW.trod enc P w base spare held fuel t cs = some (d, ps) → (∀ m ∈ d.weights P t, m ≤ N) → ∃ x, Rep (All w) w ty x cs ∧ Wf N ty x) :
    ∀ (fs : List Field) (off : Nat) (ty : Ty) (xs : List (DataW H × List MemPlace)), layTys P f total off (fs.map fun f => (f.type, f.offset)) = some ty →
      (fs.mapM fun f => DataW.trod enc P w base spare held fuel f.type ((cs.drop f.offset).take (P.cellsOf f.type))) = some xs →
      (∀ m ∈ DataW.weightsEach P (fs.map (·.type)) (xs.map (·.1)), m ≤ N) → ∃ x, Rep (All w) w ty x (cs.drop off) ∧ Wf N ty x
  | [], off, ty, xs, hl, hm, hw => by
    simp only [List.map_nil, layTys] at hl
    split at hl
    · rename_i ho; cases hl
      exact ⟨(), by simp only [Rep]; exact List.drop_of_length_le (by omega), trivial⟩
    · cases hl
  | [fd], off, ty, xs, hl, hm, hw => by
    simp only [List.map_cons, List.map_nil, layTys] at hl
    split at hl
    · rename_i ho
      simp only [Option.bind_eq_some_iff] at hl
      obtain ⟨a, ha, hl⟩ := hl
      split at hl
      · rename_i hs; cases hl
        simp only [List.mapM_cons, List.mapM_nil, Option.pure_def, Option.bind_eq_bind, Option.bind_eq_some_iff, Option.some.injEq] at hm
        obtain ⟨y, hy, ys, rfl, rfl⟩ := hm
        obtain ⟨x, h1, h2⟩ := ih fd.type _ _ y.1 y.2 ha hy fun m hm => hw m (by simpa [DataW.weightsEach] using hm)
        refine ⟨x, ?_, h2⟩
        rw [ho.1] at h1
        rwa [List.take_of_length_le (by rw [List.length_drop]; omega)] at h1
      · cases hl
    · cases hl
  | fd :: fd2 :: fs, off, ty, xs, hl, hm, hw => by
    simp only [List.map_cons, layTys] at hl
    split at hl
    · rename_i ho
      simp only [Option.bind_eq_some_iff] at hl
      obtain ⟨a, ha, hl⟩ := hl
      split at hl
      · rename_i hs
        simp only [Option.bind_eq_some_iff, Option.some.injEq] at hl
        obtain ⟨b, hb, rfl⟩ := hl
        rw [List.mapM_cons] at hm
        simp only [Option.pure_def, Option.bind_eq_bind, Option.bind_eq_some_iff, Option.some.injEq] at hm
        obtain ⟨y, hy, ys, hys, rfl⟩ := hm
        obtain ⟨x, h1, h2⟩ := ih fd.type _ _ y.1 y.2 ha hy fun m hm => hw m (by simp only [List.map_cons]; exact mem_each hm)
        obtain ⟨x', h3, h4⟩ := fields_rep hlen ih (fd2 :: fs) (off + P.cellsOf fd.type) b ys (by simpa only [List.map_cons] using hb) hys fun m hm => hw m (by simp only [List.map_cons] at hm ⊢; exact mem_each' hm)
        refine ⟨(x, x'), ⟨_, _, ?_, h1, h3⟩, h2, h4⟩
        rw [ho, ← List.drop_drop, List.take_append_drop]
      · cases hl
    · cases hl

theorem trod_bool {t fuel : Nat} {cs : List Value} {d : DataW H} {ps} (ht : P.underlying t = some .bool) (h : DataW.trod enc P w base spare held fuel t cs = some (d, ps)) : ∃ b, cs = [.bool b] := by
  cases fuel with
  | zero => simp [DataW.trod] at h
  | succ n => unfold DataW.trod at h; rw [ht] at h; split at h <;> simp_all
theorem trod_int {t fuel : Nat} {cs : List Value} {d : DataW H} {ps} {k} (ht : P.underlying t = some (.int k)) (h : DataW.trod enc P w base spare held fuel t cs = some (d, ps)) : ∃ n, cs = [.int k n] ∧ (Lit.int k n).wf = true := by
  cases fuel with
  | zero => simp [DataW.trod] at h
  | succ n => unfold DataW.trod at h; rw [ht] at h; split at h <;> simp_all
theorem trod_str {t fuel : Nat} {cs : List Value} {d : DataW H} {ps} (ht : P.underlying t = some .string) (h : DataW.trod enc P w base spare held fuel t cs = some (d, ps)) : ∃ s : ByteArray, cs = [.string s] ∧ d = .lit (.string s.data.toList) := by
  cases fuel with
  | zero => simp [DataW.trod] at h
  | succ n => unfold DataW.trod at h; rw [ht] at h; split at h <;> simp_all
theorem trod_struct {t fuel : Nat} {cs : List Value} {d : DataW H} {ps} {fs : Array Field} (ht : P.underlying t = some (.struct fs)) (h : DataW.trod enc P w base spare held fuel t cs = some (d, ps)) :
    ∃ n xs, fuel = n + 1 ∧ cs.length = P.cellsOf t ∧ (fs.toList.mapM fun f => DataW.trod enc P w base spare held n f.type ((cs.drop f.offset).take (P.cellsOf f.type))) = some xs ∧ d = .agg (xs.map (·.1)) := by
  cases fuel with
  | zero => simp [DataW.trod] at h
  | succ n =>
    unfold DataW.trod at h
    rw [ht] at h
    simp only at h
    split at h
    · rename_i hc
      simp only [Option.map_eq_some_iff] at h
      obtain ⟨xs, hx, he⟩ := h
      exact ⟨n, xs, rfl, hc, hx, (congrArg Prod.fst he).symm⟩
    · cases h

theorem str_rep {t fuel : Nat} {cs : List Value} {d : DataW H} {ps} (ht : P.underlying t = some .string) (h : DataW.trod enc P w base spare held fuel t cs = some (d, ps)) (hw : ∀ m ∈ d.weights P t, m ≤ N) : ∃ x, Rep (All w) w .str x cs ∧ Wf N .str x := by
  obtain ⟨s, rfl, rfl⟩ := trod_str ht h
  exact ⟨s.data.toList, by simp [Rep], hw _ (by simp [DataW.weights])⟩

theorem beq_imp {a b : Nat} (h : Nat.beq a b = true) : a = b := Nat.eq_of_beq_eq_true h
theorem value_rep (hv : vtOk P vt = true) : ∀ (fuel : Nat) (cs : List Value) (d : DataW H) (ps : List MemPlace), DataW.trod enc P w base spare held fuel vt cs = some (d, ps) → (∀ m ∈ d.weights P vt, m ≤ N) →
    ∃ x, Rep (All w) w .value x cs ∧ Wf N .value x := by
  intro fuel
  induction fuel using Nat.strongRecOn with
  | _ fuel IH =>
  intro cs d ps h hw
  unfold vtOk at hv
  split at hv
  · rename_i fs hfs
    split at hv
    · rename_i t1 t2 t3 t4 t5 hl
      simp only [Bool.and_eq_true] at hv
      obtain ⟨⟨⟨⟨⟨⟨⟨⟨⟨⟨⟨v1, v2⟩, v3⟩, v4⟩, v5⟩, c1⟩, c2⟩, c3⟩, c4⟩, c5⟩, c6⟩, c7⟩ := hv
      have c1 := beq_imp c1; have c2 := beq_imp c2; have c3 := beq_imp c3; have c4 := beq_imp c4; have c5 := beq_imp c5; have c6 := beq_imp c6
      have c7 := Nat.le_of_ble_eq_true c7
      have u1 : P.underlying t1 = some (.int .i64) := by unfold isInt64 at v1; split at v1; assumption; cases v1
      have u2 : P.underlying t2 = some (.int .i64) := by unfold isInt64 at v2; split at v2; assumption; cases v2
      have u3 : P.underlying t3 = some .string := by unfold isString at v3; split at v3; assumption; cases v3
      have u4 : P.underlying t4 = some (.slice vt) := by
        unfold sliceEl at v4
        split at v4
        · rename_i e he
          split at he
          · rename_i e' hu; cases he; rw [hu, beq_imp v4]
          · cases he
        · cases v4
      obtain ⟨ts, u5, u6, c8, c9⟩ : ∃ ts, P.underlying t5 = some (.slice ts) ∧ P.underlying ts = some .string ∧ P.cellsOf ts = 1 ∧ 1 ≤ P.bytesOf ts := by
        unfold sliceEl at v5
        split at v5
        · rename_i e he
          split at he
          · rename_i e' hu; cases he
            simp only [Bool.and_eq_true] at v5
            refine ⟨e, hu, ?_, beq_imp v5.1.2, Nat.le_of_ble_eq_true v5.2⟩
            have v6 := v5.1.1
            unfold isString at v6; split at v6
            · assumption
            · cases v6
          · cases he
        · cases v5
      obtain ⟨n, xs, rfl, hlen, hm, rfl⟩ := trod_struct hfs h
      rcases fs with ⟨fl⟩
      have hl' : fl.map (fun f => (f.type, f.offset)) = [(t1, 0), (t2, 1), (t3, 2), (t4, 3), (t5, 4)] := hl
      rcases fl with _ | ⟨f1, _ | ⟨f2, _ | ⟨f3, _ | ⟨f4, _ | ⟨f5, _ | ⟨f6, fl⟩⟩⟩⟩⟩⟩ <;> simp only [List.map_cons, List.map_nil, List.cons.injEq, Prod.mk.injEq, reduceCtorEq, and_false, List.nil_eq, and_true] at hl'
      obtain ⟨⟨e1, o1⟩, ⟨e2, o2⟩, ⟨e3, o3⟩, ⟨e4, o4⟩, e5, o5⟩ := hl'
      simp only [List.mapM_cons, List.mapM_nil, Option.pure_def, Option.bind_eq_bind, Option.bind_eq_some_iff, Option.some.injEq, e1, e2, e3, e4, e5, o1, o2, o3, o4, o5, c1, c2, c3, c4, c5] at hm
      obtain ⟨y1, h1, z1, ⟨y2, h2, z2, ⟨y3, h3, z3, ⟨y4, h4, z4, ⟨y5, h5, z5, rfl, rfl⟩, rfl⟩, rfl⟩, rfl⟩, rfl⟩ := hm
      have hw' : ∀ m ∈ DataW.weightsEach P [t1, t2, t3, t4, t5] [y1.1, y2.1, y3.1, y4.1, y5.1], m ≤ N := by
        intro m hm
        apply hw
        simp only [DataW.weights, hfs]
        simpa [e1, e2, e3, e4, e5] using hm
      rw [c6] at hlen
      rcases cs with _ | ⟨a1, _ | ⟨a2, _ | ⟨a3, _ | ⟨a4, _ | ⟨a5, _ | ⟨a6, cs⟩⟩⟩⟩⟩⟩ <;> simp only [List.length_cons, List.length_nil] at hlen <;> try omega
      simp only [List.drop_succ_cons, List.drop_zero, List.take_succ_cons, List.take_zero] at h1 h2 h3 h4 h5
      obtain ⟨n1, q1, w1⟩ := trod_int u1 h1
      obtain ⟨n2, q2, w2⟩ := trod_int u2 h2
      obtain ⟨x3, r3, w3⟩ := str_rep (N := N) u3 h3 fun m hm => hw' m (by simp only [DataW.weightsEach, List.mem_append]; exact .inr (.inr (.inl hm)))
      obtain ⟨x4, r4, w4⟩ := slice_rep (N := N) (ty := .value) u4 c7 (by omega) (by rw [c6]; rfl) (fun m hm cs d ps h hw => IH m (by omega) cs d ps h hw) h4 fun m hm => hw' m (by simp only [DataW.weightsEach, List.mem_append]; exact .inr (.inr (.inr (.inl hm))))
      obtain ⟨x5, r5, w5⟩ := slice_rep (N := N) (ty := .str) u5 c9 (by omega) (by rw [c8]; rfl) (fun m hm cs d ps h hw => str_rep u6 h hw) h5 fun m hm => hw' m (by simp only [DataW.weightsEach, List.mem_append]; exact .inr (.inr (.inr (.inr (.inl hm)))))
      simp only [List.cons.injEq, and_true] at q1 q2
      subst q1; subst q2
      simp only [Rep, List.cons.injEq, and_true] at r3
      subst r3
      obtain ⟨v4', e4', a, cap, rfl, hcap, hmem⟩ := r4
      simp only [List.cons.injEq, and_true] at e4'
      subst e4'
      obtain ⟨v5', e5', hs5⟩ := r5
      simp only [List.cons.injEq, and_true] at e5'
      subst e5'
      have w4' : x4.length ≤ N ∧ ∀ x ∈ x4, WfV N x := by simpa only [Wf] using w4
      have w5' : x5.length ≤ N ∧ ∀ x ∈ x5, x.length ≤ N := by simpa only [Wf] using w5
      refine ⟨.mk n1 n2 x3 x4 x5, ?_, ?_⟩
      · simp only [Rep]
        have hs5' : SliceRep (All w) w (fun k vs => vs = [Value.string ⟨k.toArray⟩]) x5 a5 := by
          refine hs5.imp (fun _ h => h) (fun _ _ => rfl) fun x u h => by simpa only [Rep] using h
        rcases hmem with rfl | ⟨ad, us, rfl, hsp, hA, hcells, hall⟩
        · exact .mk n1 n2 x3 [] x5 a cap a5 (fun _ => []) hcap (.inl rfl) (fun i h => by simp at h) hs5'
        · have hsz : ∀ (x : V) (u : List Value), Rep (All w) w .value x u → u.length = 5 := fun x u h => RepV.length h
          have hul : us.length = x4.length * 5 := RepAll.length (sz := 5) hsz hall
          refine .mk n1 n2 x3 x4 x5 (some ad) cap a5 (fun i => (us.drop (i * 5)).take 5) hcap (.inr ⟨ad, rfl, hsp, hA, fun i hi => ⟨by simp [hul]; omega, fun j hj => ?_⟩⟩) (fun i hi => ?_) hs5'
          · rw [List.getElem?_take_of_lt hj, List.getElem?_drop]
            exact hcells (i * 5 + j) (by omega)
          · obtain ⟨p, u, q, he, hp, hr⟩ := RepAll.get (sz := 5) hsz i x4[i] hall (List.getElem?_eq_getElem hi)
            have hu := hsz _ _ hr
            rw [he, List.drop_append_of_le_length (by omega), List.drop_of_length_le (l := p) (by omega), List.nil_append, List.take_append_of_le_length (by omega), List.take_of_length_le (by omega)]
            simpa only [Rep] using hr
      · simp only [Wf]
        exact .mk _ _ _ _ _ w1 w2 w3 w4'.1 w5'.1 (fun i hi => w4'.2 _ (List.getElem_mem hi)) w5'.2
    · cases hv
  · cases hv

/-- Whatever its type. -/
theorem trod_rep : ∀ (fuel n t : Nat) (ty : Ty) (cs : List Value) (d : DataW H) (ps : List MemPlace), lay P vt n t = some ty → DataW.trod enc P w base spare held fuel t cs = some (d, ps) → (∀ m ∈ d.weights P t, m ≤ N) →
    ∃ x, Rep (All w) w ty x cs ∧ Wf N ty x := by
  intro fuel
  induction fuel using Nat.strongRecOn with
  | _ fuel IH =>
  intro n t ty cs d ps hl h hw
  cases n with
  | zero => simp [lay] at hl
  | succ n =>
    unfold lay at hl
    split at hl
    · rename_i e; subst e
      split at hl
      · rename_i hv; cases hl; exact value_rep hv fuel cs d ps h hw
      · cases hl
    · split at hl
      · rename_i ht; cases hl
        obtain ⟨b, rfl⟩ := trod_bool ht h
        exact ⟨b, rfl, trivial⟩
      · rename_i k ht; cases hl
        obtain ⟨m, rfl, h1⟩ := trod_int ht h
        exact ⟨m, rfl, h1⟩
      · rename_i ht; cases hl
        exact str_rep ht h hw
      · rename_i e ht
        split at hl
        · rename_i hb
          simp only [Option.bind_eq_some_iff] at hl
          obtain ⟨ty', h1, hl⟩ := hl
          split at hl
          · rename_i hs; cases hl
            exact slice_rep ht hb.1 hb.2 hs (fun m hm cs d ps h hw => IH m hm n e ty' cs d ps h1 h hw) h hw
          · cases hl
        · cases hl
      · rename_i fs ht
        obtain ⟨m, xs, rfl, hlen, hm, rfl⟩ := trod_struct ht h
        have := fields_rep (N := N) hlen (fun t ty cs d ps h1 h2 h3 => IH m (by omega) n t ty cs d ps h1 h2 h3) fs.toList 0 ty xs hl hm fun m hm => hw m (by simpa only [DataW.weights, ht] using hm)
        simpa only [List.drop_zero] using this
      · cases hl

/-- An argument that is no struct. -/
theorem open_one {t n : Nat} {v : Value} {ty : Ty} {d : DataW H} {ps} (hl : lay P vt n t = some ty) (h : DataW.Trod enc P w 0 spare held t v d ps) (hv : v.cells.toList = [v]) (hw : ∀ m ∈ d.weights P t, m ≤ N) :
    ∃ x, RepAV (c0 (All w) w) (.d ty x) v ∧ Wf N ty x := by
  obtain ⟨fuel, h⟩ := h
  obtain ⟨x, h1, h2⟩ := trod_rep fuel n t ty _ _ _ hl h hw
  refine ⟨x, ?_, h2⟩
  simp only [RepAV]
  rw [hv] at h1; exact h1
end
end Go.Pe
end
section
set_option linter.unusedSectionVars false
set_option linter.unusedVariables false
set_option linter.unusedSimpArgs false
namespace Go.Pe.Tryd
open Go.Proofs Go.RowKit
set_option maxRecDepth 100000
mutual
def each : V → Bool | .mk k n s items keys => mayP k n s items keys && eachL items
def eachL : List V → Bool | [] => true | v :: l => each v && eachL l
end
theorem eachL_all : ∀ l : List V, eachL l = l.all each
  | [] => rfl
  | v :: l => by simp [eachL, eachL_all l]
def right (v : V) : Bool := decide (dep v ≤ 12) && (decide (cnt v ≤ 2000) && each v)
theorem wf_items {N : Nat} {v : V} (h : WfV N v) : ∀ x ∈ v.items, WfV N x := by
  cases h with
  | mk kind n s items keys hk hn hs hi hks hit hkl =>
    intro x hx
    obtain ⟨i, hi', rfl⟩ := List.getElem_of_mem hx
    exact hit i hi'
@[reducible] def vy (v : V) : h36_I.den := h36_y v.kind v.n v.s v.items v.keys
theorem any_step (G : h36_I.den → Option h36_O.den) (hG : SoundH Tryd.prog 36 ⟨h36_I, h36_O, G⟩) (items : List V) (hl : items.length ≤ 4000) (ih : ∀ v ∈ items, G (vy v) = some (h36_o_y (each v))) :
    h55_F G hG (h55_y items) = some (h55_o_y (!eachL items)) := by
  rw [h55_eq, h73_eq]
  have e := go_scan (step := h73_p0_st G hG) (l := items) (fun i => h73_p0_y items (items.length : Int) (i : Int)) (fun v => !each v) (fun i => some (.inr (h73_p0_o1_y (i : Int)))) (some (.inl h73_p0_o0_y)) (fun i hi rec => by
    rw [h73_p0_eq, lt_t hi, cond_true, nth_lt hi, Option.bind_some, h56_eq, ih _ (List.getElem_mem hi), Option.bind_some, Option.bind_some, h56_o_x0_y, h36_o_x0_y, nx (by omega)]) (fun rec => by rw [h73_p0_eq]; simp only [Int.lt_irrefl, decide_false, cond_false]) (by rw [fuel_def]; omega)
  have e' : go (h73_p0_st G hG) (h73_p0_y items (items.length : Int) (0 : Int)) = _ := e
  rw [e', eachL_all]
  have h2 := findIdx_any (fun v => !each v) items
  have h3 : items.any (fun v => !each v) = !items.all each := by rw [List.all_eq_not_any_not]; simp
  rw [← h3, ← h2]
  cases items.findIdx? (fun v => !each v) with
  | none => rfl
  | some k =>
    simp only [Option.bind_some, h73_p0_o1_x4_y, h73_o_x0_y, Option.isSome_some]
    have : decide ((k : Int) ≥ 0) = true := by simp
    rw [this]
theorem h36_next (n : Nat) : (h36_S (n + 1)).1 = h36_b (h36_S n).1 (h36_S n).2 := by kernel_rfl
theorem each_ok : ∀ (n : Nat) (v : V), dep v ≤ n → cnt v ≤ 3000 → (h36_S n).1 (vy v) = some (h36_o_y (each v))
  | 0, v, h, _ => by have := dep_pos v; omega
  | n + 1, .mk k a s items keys, hd, hc => by
    simp only [dep, cnt] at hd hc
    have hl := cntL_len items
    have h37 := f37_ok' (.mk k a s items keys) (by simp only [V.items]; omega)
    rw [va_mk] at h37
    show (h36_S (n + 1)).1 (h36_y k a s items keys) = _
    rw [h36_next, h36_eq, h37, Option.bind_some]
    simp only [each]
    show (bif mayP k a s items keys then _ else _) = _
    cases mayP k a s items keys with
    | false => rfl
    | true =>
      rw [cond_true, any_step _ _ items (by omega) fun v hv => each_ok n v (by have := dep_mem hv; omega) (by have := cnt_mem hv; omega), Option.bind_some, h55_o_x0_y, Bool.not_not, Bool.true_and]
theorem h36_is (v : V) (h : cnt v ≤ 3000) : h36_F (vy v) = some (h36_o_y (each v)) := by
  unfold h36_F
  exact each_ok recN v (by have := dep_le v; rw [recN_eq]; omega) h
theorem f19_ok' (v : V) (h : cnt v ≤ 3000) : f19_F (va v, ()) = some (right v, ()) := by
  obtain ⟨k, n, s, items, keys⟩ := v
  rw [va_mk, f19_eq]
  have h1 := f17_ok' (.mk k n s items keys) h
  have h2 := f15_ok' (.mk k n s items keys) h
  have h3 := h36_is (.mk k n s items keys) h
  rw [va_mk] at h1 h2
  have h3' : h36_F (h36_y k n s items keys) = _ := h3
  rw [h1, Option.bind_some]
  unfold right
  generalize V.mk k n s items keys = v at *
  by_cases hd : dep v ≤ 12
  · have e1 : decide ((dep v : Int) ≤ 12) = true := by simp; omega
    dsimp only
    rw [e1, cond_true, h2, Option.bind_some]
    by_cases hc : cnt v ≤ 2000
    · have e2 : decide ((cnt v : Int) ≤ 2000) = true := by simp; omega
      dsimp only
      rw [e2, cond_true, h3', Option.bind_some, h36_o_x0_y]; simp [hd, hc]
    · have e2 : decide ((cnt v : Int) ≤ 2000) = false := by simp; omega
      dsimp only
      rw [e2, cond_false]; simp [hc]
  · have e1 : decide ((dep v : Int) ≤ 12) = false := by simp; omega
    dsimp only
    rw [e1, cond_false]; simp [hd]
end Go.Pe.Tryd
end
section
set_option linter.unusedSectionVars false
set_option linter.unusedVariables false
set_option linter.unusedSimpArgs false
namespace Go.Pe.Tryd
open Go.Proofs Go.RowKit
set_option maxRecDepth 100000
def rep (c : UInt8) (new : List UInt8) (s : List UInt8) : List UInt8 := s.flatMap fun b => if b = c then new else [b]
theorem index_hd (c : UInt8) (l : List UInt8) : Lib.index (c :: l) [c] = 0 := by simp [Lib.index]
theorem index_tl {b c : UInt8} (h : b ≠ c) {l : List UInt8} {i : Nat} (hi : Lib.index l [c] = i) : Lib.index (b :: l) [c] = ((i + 1 : Nat) : Int) := by
  have h1 : ¬ (c == b) = true := fun e => h (beq_iff_eq.1 e).symm
  have h2 : ¬ (((i : Nat) : Int) == -1) = true := fun e => by have := beq_iff_eq.1 e; omega
  simp only [Lib.index, hi, List.isPrefixOf, Bool.and_true]
  rw [if_neg h1, if_neg h2]; rfl
theorem rep_K (c : UInt8) (new : List UInt8) : ∀ s : List UInt8, Lib.replaceK [c] new (s.count c) s = rep c new s
  | [] => rfl
  | b :: l => by
    have ih := rep_K c new l
    by_cases e : b = c
    · subst e
      rw [List.count_cons_self, Lib.replaceK_hit [b] new _ (b :: l) 0 (index_hd b l)]
      simp only [List.take_zero, List.nil_append, List.length_singleton, Nat.zero_add, List.drop_one, List.tail_cons, ih, rep, List.flatMap_cons, if_true]
    · rw [List.count_cons_of_ne e]
      have hr : rep c new (b :: l) = b :: rep c new l := by simp [rep, e]
      rw [hr, ← ih]
      cases hc : l.count c with
      | zero => rfl
      | succ k =>
        obtain ⟨i, hi⟩ := Lib.index_of_count (s := l) (old := [c]) (by rw [Lib.count_one, hc]; omega)
        rw [Lib.replaceK_hit [c] new k (b :: l) (i + 1) (index_tl e hi), Lib.replaceK_hit [c] new k l i hi]
        have : i + 1 + [c].length = (i + [c].length) + 1 := by simp
        rw [this, List.drop_succ_cons, List.take_succ_cons]; rfl
theorem replace_rep (c : UInt8) (new s : List UInt8) (h : new ≠ [c]) : Lib.replaceAll s [c] new = rep c new s := by
  unfold Lib.replaceAll Lib.replace
  rw [if_neg (by simpa using fun e => h e.symm)]
  have : Lib.replaceNum s [c] (-1) = s.count c := by
    unfold Lib.replaceNum
    rw [if_pos (.inl (by decide)), Lib.count_one]
  rw [this, rep_K]
def esc (s : List UInt8) : List UInt8 := s.flatMap fun b => if b = 34 ∨ b = 92 then [92, b] else [b]
def quo (s : List UInt8) : List UInt8 := 34 :: esc s ++ [34]
theorem rep_rep (s : List UInt8) : rep 34 [92, 34] (rep 92 [92, 92] s) = esc s := by
  unfold rep esc
  rw [List.flatMap_assoc]
  congr; funext b
  by_cases h1 : b = 92
  · subst h1; rfl
  · by_cases h2 : b = 34
    · subst h2; rfl
    · simp [h1, h2]
theorem esc_len (s : List UInt8) : (esc s).length ≤ 2 * s.length := by
  induction s with
  | nil => simp [esc]
  | cons b l ih =>
    have : esc (b :: l) = (if b = 34 ∨ b = 92 then [92, b] else [b]) ++ esc l := rfl
    rw [this, List.length_append, List.length_cons]
    split <;> simp <;> omega
theorem rep_len (s : List UInt8) : (rep 92 [92, 92] s).length ≤ 2 * s.length := by
  induction s with
  | nil => simp [rep]
  | cons b l ih =>
    have : rep 92 [92, 92] (b :: l) = (if b = 92 then [92, 92] else [b]) ++ rep 92 [92, 92] l := rfl
    rw [this, List.length_append, List.length_cons]
    split <;> simp <;> omega
theorem quo_len (s : List UInt8) : (quo s).length ≤ 2 * s.length + 2 := by
  have := esc_len s
  simp [quo]; omega
theorem countB_small (s : List UInt8) (c : UInt8) : Lib.countB ⟨s.toArray⟩ ⟨[c].toArray⟩ ≤ s.length := by
  have := Lib.countB_le ⟨[c].toArray⟩ (by simp [ByteArray.size]) (ByteArray.size ⟨s.toArray⟩) ⟨s.toArray⟩ (Nat.le_refl _)
  simpa [ByteArray.size] using this
theorem f54_ok' (s : List UInt8) (h : s.length ≤ 1000000) : f54_F (s, ()) = some (quo s, ()) := by
  have h1 := countB_small s 92
  have h2 := countB_small (rep 92 [92, 92] s) 34
  have h3 := rep_len s
  have h4 := esc_len s
  rw [f54_eq]
  have e1 : replaceF (s, (([92] : List UInt8), (([92, 92] : List UInt8), ()))) = some (rep 92 [92, 92] s, ()) := by
    unfold replaceF
    dsimp only
    rw [if_pos ⟨by omega, by simp, by simp only [List.length_cons, List.length_nil]; omega⟩, replace_rep _ _ _ (by simp)]
  have e2 : replaceF (rep 92 [92, 92] s, (([34] : List UInt8), (([92, 34] : List UInt8), ()))) = some (esc s, ()) := by
    unfold replaceF
    dsimp only
    rw [if_pos ⟨by omega, by simp, by simp only [List.length_cons, List.length_nil]; omega⟩, replace_rep _ _ _ (by simp), rep_rep]
  rw [e1, Option.bind_some]
  dsimp only
  rw [e2, Option.bind_some]
  dsimp only
  rw [if_pos (by simp; omega), if_pos (by simp; omega)]; rfl
theorem strOf_bytesOf (s : List UInt8) : strOf (bytesOf s) = s := by
  unfold strOf bytesOf
  rw [List.map_map]
  conv => rhs; rw [← List.map_id s]
  apply List.map_congr_left
  intro b _
  simp
theorem bytesOf_append (a b : List UInt8) : bytesOf (a ++ b) = bytesOf a ++ bytesOf b := by simp [bytesOf]
theorem bytesOf_len (a : List UInt8) : (bytesOf a).length = a.length := by simp [bytesOf]
end Go.Pe.Tryd
end
section
set_option linter.unusedSectionVars false
set_option linter.unusedVariables false
set_option linter.unusedSimpArgs false
namespace Go.Pe.Tryd
open Go.Proofs Go.RowKit
set_option maxRecDepth 100000
mutual
def txt : V → List UInt8
  | .mk k n s items keys => bif k == 1 then Lib.itoa n else bif k == 2 then quo s else bif k == 4 then 123 :: (txtL true 0 keys items ++ [125]) else 91 :: (txtL false 0 keys items ++ [93])
def txtL : Bool → Nat → List (List UInt8) → List V → List UInt8
  | _, _, _, [] => []
  | m, i, keys, v :: l => (bif decide (0 < i) then [44] else []) ++ ((bif m then quo (keys.getD i []) ++ [58] else []) ++ (txt v ++ txtL m (i + 1) keys l))
end
def pre (m : Bool) (keys : List (List UInt8)) (i : Nat) : List UInt8 := (bif decide (0 < i) then [44] else []) ++ (bif m then quo (keys.getD i []) ++ [58] else [])
theorem txtL_append (m : Bool) (keys : List (List UInt8)) : ∀ (a b : List V) (i : Nat), txtL m i keys (a ++ b) = txtL m i keys a ++ txtL m (i + a.length) keys b
  | [], b, i => by simp [txtL]
  | v :: a, b, i => by
    simp only [List.cons_append, txtL, txtL_append m keys a b (i + 1), List.append_assoc, List.length_cons]
    have : i + 1 + a.length = i + (a.length + 1) := by omega
    rw [this]
theorem txtL_take (m : Bool) (keys : List (List UInt8)) {items : List V} {i : Nat} (h : i < items.length) : txtL m 0 keys (items.take (i + 1)) = txtL m 0 keys (items.take i) ++ (pre m keys i ++ txt items[i]) := by
  rw [List.take_succ_eq_append_getElem h, txtL_append]
  have : 0 + (items.take i).length = i := by simp; omega
  rw [this]
  simp only [txtL, pre, List.append_nil, List.append_assoc]
theorem txtL_take_le (m : Bool) (keys : List (List UInt8)) (items : List V) (i : Nat) : (txtL m 0 keys (items.take i)).length ≤ (txtL m 0 keys items).length := by
  conv => rhs; rw [← List.take_append_drop i items, txtL_append]
  rw [List.length_append]; omega
theorem kok_tok {ks : List (List UInt8)} (h : kok ks = true) {i : Nat} (hi : i < ks.length) : ks[i].length ≤ 4000 := by
  unfold kok at h
  simp only [Bool.not_eq_true', List.any_eq_false, List.mem_range] at h
  have := h i hi
  unfold kbad at this
  rw [getD_lt hi] at this
  simp only [Bool.or_eq_true, not_or, Bool.not_eq_true', Bool.not_eq_false] at this
  have h2 := this.1
  unfold tok at h2
  simp at h2
  exact h2.1
theorem mayP_1 {n : Int} {s items keys} (h : mayP 1 n s items keys = true) : -1099511627776 ≤ n ∧ n ≤ 1099511627776 := by
  unfold mayP at h
  simp at h
  exact ⟨h.2.2.1, h.2.2.2⟩
theorem mayP_2 {n : Int} {s items keys} (h : mayP 2 n s items keys = true) : s.length ≤ 4000 := by
  have q : ((2 : Int) == 1) = false := rfl
  have q2 : ((2 : Int) == 2) = true := rfl
  unfold mayP at h
  rw [q, q2, cond_false, cond_true] at h
  simp only [Bool.and_eq_true] at h
  have := h.2.2
  unfold tok at this
  simp at this
  exact this.1
theorem mayP_4 {n : Int} {s items keys} (h : mayP 4 n s items keys = true) : keys.length = items.length ∧ kok keys = true := by
  have q : ((4 : Int) == 1) = false := rfl
  have q2 : ((4 : Int) == 2) = false := rfl
  have q3 : ((4 : Int) == 3) = false := rfl
  unfold mayP at h
  rw [q, q2, q3, cond_false, cond_false, cond_false] at h
  simp only [Bool.and_eq_true, beq_iff_eq] at h
  exact ⟨by omega, h.2.2.2.2⟩
theorem dec_len : ∀ (k u : Nat), u < 10 ^ (k + 1) → (Lib.decDigits u).length ≤ k + 1
  | 0, u, h => by rw [Lib.decDigits]; simp at h; simp [h]
  | k + 1, u, h => by
    rw [Lib.decDigits]
    split
    · simp
    · have := dec_len k (u / 10) (by rw [Nat.pow_succ] at h; omega)
      simp; omega
theorem itoa_len {n : Int} (h1 : -1099511627776 ≤ n) (h2 : n ≤ 1099511627776) : (Lib.itoa n).length ≤ 14 := by
  have e : (10 : Nat) ^ 13 = 10000000000000 := by decide
  unfold Lib.itoa
  split
  · have := dec_len 12 n.natAbs (by rw [e]; omega)
    simp; omega
  · have := dec_len 12 n.toNat (by rw [e]; omega)
    omega
theorem pre_len {m : Bool} {keys : List (List UInt8)} {i : Nat} (h : m = true → ∀ j (hj : j < keys.length), keys[j].length ≤ 4000) : (pre m keys i).length ≤ 8004 := by
  unfold pre
  have h1 : (bif decide (0 < i) then [44] else [] : List UInt8).length ≤ 1 := by cases decide (0 < i) <;> simp
  have h2 : (bif m then quo (keys.getD i []) ++ [58] else []).length ≤ 8003 := by
    cases m with
    | false => simp
    | true =>
      have hq := quo_len (keys.getD i [])
      have : (keys.getD i []).length ≤ 4000 := by
        rcases Nat.lt_or_ge i keys.length with hi | hi
        · rw [getD_lt hi]; exact h rfl i hi
        · simp [List.getD_eq_getElem?_getD, hi]
      simp only [cond_true, List.length_append, List.length_singleton]; omega
  rw [List.length_append]; omega
theorem txtL_len (m : Bool) (keys : List (List UInt8)) (h : m = true → ∀ j (hj : j < keys.length), keys[j].length ≤ 4000) : ∀ (l : List V) (i : Nat), (∀ v ∈ l, (txt v).length + 8004 ≤ 17000 * cnt v) → (txtL m i keys l).length ≤ 17000 * cntL l
  | [], i, _ => by simp [txtL]
  | v :: l, i, hv => by
    have h1 := hv v (by simp)
    have h2 := txtL_len m keys h l (i + 1) fun u hu => hv u (by simp [hu])
    have h3 := pre_len (m := m) (keys := keys) (i := i) h
    unfold pre at h3
    rw [List.length_append] at h3
    simp only [txtL, List.length_append, cntL] at *
    omega
theorem txt_len : ∀ (n : Nat) (v : V), dep v ≤ n → each v = true → (txt v).length + 8004 ≤ 17000 * cnt v
  | 0, v, h, _ => by have := dep_pos v; omega
  | n + 1, .mk k a s items keys, hd, he => by
    simp only [dep] at hd
    simp only [each, Bool.and_eq_true] at he
    have hv : ∀ v ∈ items, (txt v).length + 8004 ≤ 17000 * cnt v := fun v hv => txt_len n v (by have := dep_mem hv; omega) (by
      have := he.2
      rw [eachL_all, List.all_eq_true] at this
      exact this v hv)
    simp only [txt, cnt]
    by_cases h1 : k = 1
    · subst h1
      have := mayP_1 he.1
      have := itoa_len this.1 this.2
      simp only [beq_self_eq_true, cond_true]; omega
    · have q1 : (k == 1) = false := by simp [h1]
      rw [q1, cond_false]
      by_cases h2 : k = 2
      · subst h2
        have := mayP_2 he.1
        have := quo_len s
        simp only [beq_self_eq_true, cond_true]; omega
      · have q2 : (k == 2) = false := by simp [h2]
        rw [q2, cond_false]
        by_cases h4 : k = 4
        · subst h4
          have h5 := mayP_4 he.1
          have := txtL_len true keys (fun _ j hj => kok_tok h5.2 hj) items 0 hv
          simp only [beq_self_eq_true, cond_true, List.length_cons, List.length_append, List.length_nil]; omega
        · have q4 : (k == 4) = false := by simp [h4]
          have := txtL_len false keys (fun h => by cases h) items 0 hv
          rw [q4, cond_false]
          simp only [List.length_cons, List.length_append, List.length_nil]; omega
theorem h53a_is (x : List UInt8) (l : List Int) (h : l.length + x.length ≤ 4294967296) : h53a_F (h53a_y x l) = some (h53a_o_y (x.length : Int) (l ++ bytesOf x)) := by
  rw [h53a_eq]
  show (appOk (l.length + (bytesOf x).length) _) = _
  rw [appOk_lt (by rw [bytesOf_len]; exact h)]; rfl
theorem h53_is (x : List UInt8) (h : x.length ≤ 4294967296) : h53_F (h53_y x) = some (h53_o_y (x.length : Int) (bytesOf x)) := by
  rw [h53_eq]
  show (appOk (0 + (bytesOf x).length) _) = _
  rw [appOk_lt (by rw [bytesOf_len]; omega)]; rfl
theorem h34a_items (G : h34a_I.den → Option h34a_O.den) (hG : SoundH Tryd.prog 34 ⟨h34a_I, h34a_O, G⟩) (x4 : List UInt8) (k n : Int) (s : List UInt8) (items : List V) (keys : List (List UInt8)) (l : List Int) (hl : items.length ≤ 4000) (hm : (k == 4) = true → keys.length = items.length ∧ ∀ j (hj : j < keys.length), keys[j].length ≤ 4000)
    (hlen : l.length + (txtL (k == 4) 0 keys items).length ≤ 4294967296) (ih : ∀ v ∈ items, ∀ l : List Int, l.length + (txt v).length ≤ 4294967296 → G (h34a_y v.kind v.n v.s v.items v.keys l) = some (h34a_o_y (l ++ bytesOf (txt v)))) :
    go (h34a_p2_st G hG) (h34a_p2_y x4 items (items.length : Int) (0 : Int) k n s items keys l) = some (h34a_p2_o0_y x4 (l ++ bytesOf (txtL (k == 4) 0 keys items))) := by
  have e := go_seq (step := (h34a_p2_st G hG)) (y := fun i => h34a_p2_y x4 items (items.length : Int) (i : Int) k n s items keys (l ++ bytesOf (txtL (k == 4) 0 keys (items.take i)))) (n := items.length) (r := some (h34a_p2_o0_y x4 (l ++ bytesOf (txtL (k == 4) 0 keys items)))) (fun i hi rec => by
    have hle := txtL_take_le (k == 4) keys items (i + 1)
    rw [txtL_take _ _ hi] at hle
    generalize hL : l ++ bytesOf (txtL (k == 4) 0 keys (items.take i)) = L at *
    have hLl : L.length + (pre (k == 4) keys i).length + (txt items[i]).length ≤ 4294967296 := by
      rw [← hL]; simp only [List.length_append, bytesOf_len] at *; omega
    have hn : l ++ bytesOf (txtL (k == 4) 0 keys (items.take (i + 1))) = L ++ bytesOf (pre (k == 4) keys i) ++ bytesOf (txt items[i]) := by
      rw [txtL_take _ _ hi, ← hL]; simp only [bytesOf_append, List.append_assoc]
    rw [hn]
    rw [h34a_p2_eq, lt_t hi, cond_true, nth_lt hi, Option.bind_some, h34a_p1_eq]
    have hc : (bif decide (((i : Nat) : Int) > (0 : Int)) then ((h53a_F (h53a_y ([44] : List UInt8) L)).bind fun z53 => some ((h34a_p1_o0_y x4 (i : Int) items (items.length : Int) (i : Int) k n s items keys items[i].kind items[i].n items[i].s items[i].items items[i].keys (h53a_o_l0 z53)))) else (some ((h34a_p1_o0_y x4 (i : Int) items (items.length : Int) (i : Int) k n s items keys items[i].kind items[i].n items[i].s items[i].items items[i].keys L)))) = some (h34a_p1_o0_y x4 (i : Int) items (items.length : Int) (i : Int) k n s items keys items[i].kind items[i].n items[i].s items[i].items items[i].keys (L ++ bytesOf (bif decide (0 < i) then [44] else []))) := by
      unfold pre at hLl
      by_cases h0 : 0 < i
      · have e1 : decide ((i : Int) > 0) = true := by simp; omega
        have e2 : decide (0 < i) = true := by simp [h0]
        rw [e1, e2, cond_true, cond_true, h53a_is _ _ (by rw [e2] at hLl; simp only [cond_true, List.length_append, List.length_singleton] at *; omega), Option.bind_some, h53a_o_l0_y]
      · have e1 : decide ((i : Int) > 0) = false := by simp; omega
        have e2 : decide (0 < i) = false := by simp [h0]
        rw [e1, e2, cond_false, cond_false]; simp [bytesOf]
    rw [hc, Option.bind_some]
    simp only [h34a_p1_o0_x4_y, h34a_p1_o0_x5_y, h34a_p1_o0_x31_y, h34a_p1_o0_x32_y, h34a_p1_o0_x33_y, h34a_p1_o0_r1_0_y, h34a_p1_o0_r1_1_y, h34a_p1_o0_r1_2_y, h34a_p1_o0_r1_3_y, h34a_p1_o0_r1_4_y, h34a_p1_o0_r2_0_y, h34a_p1_o0_r2_1_y, h34a_p1_o0_r2_2_y, h34a_p1_o0_r2_3_y, h34a_p1_o0_r2_4_y, h34a_p1_o0_l0_y]
    rw [h34a_p0_eq]
    have hk : (bif (k == (4 : Int)) then ((nth keys ((i : Nat) : Int)).bind fun y49 => (f54_F (y49, ())).bind fun r50 => (h53a_F (h53a_y r50.1 (L ++ bytesOf (bif decide (0 < i) then [44] else [])))).bind fun z51 => (h53a_F (h53a_y ([58] : List UInt8) (h53a_o_l0 z51))).bind fun z52 => some ((h34a_p0_o0_y x4 items (items.length : Int) (i : Int) k n s items keys items[i].kind items[i].n items[i].s items[i].items items[i].keys (h53a_o_l0 z52)))) else (some ((h34a_p0_o0_y x4 items (items.length : Int) (i : Int) k n s items keys items[i].kind items[i].n items[i].s items[i].items items[i].keys (L ++ bytesOf (bif decide (0 < i) then [44] else [])))))) = some (h34a_p0_o0_y x4 items (items.length : Int) (i : Int) k n s items keys items[i].kind items[i].n items[i].s items[i].items items[i].keys (L ++ bytesOf (pre (k == 4) keys i))) := by
      unfold pre at hLl ⊢
      cases hk4 : (k == 4) with
      | false => rw [cond_false, cond_false, List.append_nil]
      | true =>
        obtain ⟨hkl, hk2⟩ := hm hk4
        have hik : i < keys.length := by omega
        rw [hk4, getD_lt hik] at hLl
        rw [cond_true, cond_true, nth_lt hik, Option.bind_some, f54_ok' _ (by have := hk2 i hik; omega), Option.bind_some, getD_lt hik]
        simp only [cond_true, List.length_append, List.length_singleton] at hLl
        rw [h53a_is _ _ (by simp only [List.length_append, bytesOf_len]; omega), Option.bind_some, h53a_o_l0_y, h53a_is _ _ (by simp only [List.length_append, List.length_singleton, bytesOf_len]; omega), Option.bind_some, h53a_o_l0_y]
        simp only [bytesOf_append, List.append_assoc]
    rw [hk, Option.bind_some]
    simp only [h34a_p0_o0_x4_y, h34a_p0_o0_x31_y, h34a_p0_o0_x32_y, h34a_p0_o0_x33_y, h34a_p0_o0_r1_0_y, h34a_p0_o0_r1_1_y, h34a_p0_o0_r1_2_y, h34a_p0_o0_r1_3_y, h34a_p0_o0_r1_4_y, h34a_p0_o0_r2_0_y, h34a_p0_o0_r2_1_y, h34a_p0_o0_r2_2_y, h34a_p0_o0_r2_3_y, h34a_p0_o0_r2_4_y, h34a_p0_o0_l0_y]
    rw [ih _ (List.getElem_mem hi) _ (by simp only [List.length_append, bytesOf_len]; omega), Option.bind_some, h34a_o_l0_y, nx (by omega)]) (fun rec => by rw [h34a_p2_eq]; simp only [Int.lt_irrefl, decide_false, cond_false, List.take_length]) (by rw [fuel_def]; omega)
  have e0 : h34a_p2_y x4 items (items.length : Int) (0 : Int) k n s items keys l = h34a_p2_y x4 items (items.length : Int) ((0 : Nat) : Int) k n s items keys (l ++ bytesOf (txtL (k == 4) 0 keys (items.take 0))) := by simp [txtL, bytesOf]
  rw [e0]; exact e
theorem h34_items (x4 : List UInt8) (k n : Int) (s : List UInt8) (items : List V) (keys : List (List UInt8)) (l : List Int) (hl : items.length ≤ 4000) (hm : (k == 4) = true → keys.length = items.length ∧ ∀ j (hj : j < keys.length), keys[j].length ≤ 4000)
    (hlen : l.length + (txtL (k == 4) 0 keys items).length ≤ 4294967296) (ih : ∀ v ∈ items, ∀ l : List Int, l.length + (txt v).length ≤ 4294967296 → h34a_F (h34a_y v.kind v.n v.s v.items v.keys l) = some (h34a_o_y (l ++ bytesOf (txt v)))) :
    go h34_p2_st (h34_p2_y x4 items (items.length : Int) (0 : Int) k n s items keys l) = some (h34_p2_o0_y x4 (l ++ bytesOf (txtL (k == 4) 0 keys items))) := by
  have e := go_seq (step := h34_p2_st) (y := fun i => h34_p2_y x4 items (items.length : Int) (i : Int) k n s items keys (l ++ bytesOf (txtL (k == 4) 0 keys (items.take i)))) (n := items.length) (r := some (h34_p2_o0_y x4 (l ++ bytesOf (txtL (k == 4) 0 keys items)))) (fun i hi rec => by
    have hle := txtL_take_le (k == 4) keys items (i + 1)
    rw [txtL_take _ _ hi] at hle
    generalize hL : l ++ bytesOf (txtL (k == 4) 0 keys (items.take i)) = L at *
    have hLl : L.length + (pre (k == 4) keys i).length + (txt items[i]).length ≤ 4294967296 := by
      rw [← hL]; simp only [List.length_append, bytesOf_len] at *; omega
    have hn : l ++ bytesOf (txtL (k == 4) 0 keys (items.take (i + 1))) = L ++ bytesOf (pre (k == 4) keys i) ++ bytesOf (txt items[i]) := by
      rw [txtL_take _ _ hi, ← hL]; simp only [bytesOf_append, List.append_assoc]
    rw [hn]
    rw [h34_p2_eq, lt_t hi, cond_true, nth_lt hi, Option.bind_some, h34_p1_eq]
    have hc : (bif decide (((i : Nat) : Int) > (0 : Int)) then ((h53a_F (h53a_y ([44] : List UInt8) L)).bind fun z53 => some ((h34_p1_o0_y x4 (i : Int) items (items.length : Int) (i : Int) k n s items keys items[i].kind items[i].n items[i].s items[i].items items[i].keys (h53a_o_l0 z53)))) else (some ((h34_p1_o0_y x4 (i : Int) items (items.length : Int) (i : Int) k n s items keys items[i].kind items[i].n items[i].s items[i].items items[i].keys L)))) = some (h34_p1_o0_y x4 (i : Int) items (items.length : Int) (i : Int) k n s items keys items[i].kind items[i].n items[i].s items[i].items items[i].keys (L ++ bytesOf (bif decide (0 < i) then [44] else []))) := by
      unfold pre at hLl
      by_cases h0 : 0 < i
      · have e1 : decide ((i : Int) > 0) = true := by simp; omega
        have e2 : decide (0 < i) = true := by simp [h0]
        rw [e1, e2, cond_true, cond_true, h53a_is _ _ (by rw [e2] at hLl; simp only [cond_true, List.length_append, List.length_singleton] at *; omega), Option.bind_some, h53a_o_l0_y]
      · have e1 : decide ((i : Int) > 0) = false := by simp; omega
        have e2 : decide (0 < i) = false := by simp [h0]
        rw [e1, e2, cond_false, cond_false]; simp [bytesOf]
    rw [hc, Option.bind_some]
    simp only [h34_p1_o0_x4_y, h34_p1_o0_x5_y, h34_p1_o0_x31_y, h34_p1_o0_x32_y, h34_p1_o0_x33_y, h34_p1_o0_r1_0_y, h34_p1_o0_r1_1_y, h34_p1_o0_r1_2_y, h34_p1_o0_r1_3_y, h34_p1_o0_r1_4_y, h34_p1_o0_r2_0_y, h34_p1_o0_r2_1_y, h34_p1_o0_r2_2_y, h34_p1_o0_r2_3_y, h34_p1_o0_r2_4_y, h34_p1_o0_l0_y]
    rw [h34_p0_eq]
    have hk : (bif (k == (4 : Int)) then ((nth keys ((i : Nat) : Int)).bind fun y49 => (f54_F (y49, ())).bind fun r50 => (h53a_F (h53a_y r50.1 (L ++ bytesOf (bif decide (0 < i) then [44] else [])))).bind fun z51 => (h53a_F (h53a_y ([58] : List UInt8) (h53a_o_l0 z51))).bind fun z52 => some ((h34_p0_o0_y x4 items (items.length : Int) (i : Int) k n s items keys items[i].kind items[i].n items[i].s items[i].items items[i].keys (h53a_o_l0 z52)))) else (some ((h34_p0_o0_y x4 items (items.length : Int) (i : Int) k n s items keys items[i].kind items[i].n items[i].s items[i].items items[i].keys (L ++ bytesOf (bif decide (0 < i) then [44] else [])))))) = some (h34_p0_o0_y x4 items (items.length : Int) (i : Int) k n s items keys items[i].kind items[i].n items[i].s items[i].items items[i].keys (L ++ bytesOf (pre (k == 4) keys i))) := by
      unfold pre at hLl ⊢
      cases hk4 : (k == 4) with
      | false => rw [cond_false, cond_false, List.append_nil]
      | true =>
        obtain ⟨hkl, hk2⟩ := hm hk4
        have hik : i < keys.length := by omega
        rw [hk4, getD_lt hik] at hLl
        rw [cond_true, cond_true, nth_lt hik, Option.bind_some, f54_ok' _ (by have := hk2 i hik; omega), Option.bind_some, getD_lt hik]
        simp only [cond_true, List.length_append, List.length_singleton] at hLl
        rw [h53a_is _ _ (by simp only [List.length_append, bytesOf_len]; omega), Option.bind_some, h53a_o_l0_y, h53a_is _ _ (by simp only [List.length_append, List.length_singleton, bytesOf_len]; omega), Option.bind_some, h53a_o_l0_y]
        simp only [bytesOf_append, List.append_assoc]
    rw [hk, Option.bind_some]
    simp only [h34_p0_o0_x4_y, h34_p0_o0_x31_y, h34_p0_o0_x32_y, h34_p0_o0_x33_y, h34_p0_o0_r1_0_y, h34_p0_o0_r1_1_y, h34_p0_o0_r1_2_y, h34_p0_o0_r1_3_y, h34_p0_o0_r1_4_y, h34_p0_o0_r2_0_y, h34_p0_o0_r2_1_y, h34_p0_o0_r2_2_y, h34_p0_o0_r2_3_y, h34_p0_o0_r2_4_y, h34_p0_o0_l0_y]
    rw [ih _ (List.getElem_mem hi) _ (by simp only [List.length_append, bytesOf_len]; omega), Option.bind_some, h34a_o_l0_y, nx (by omega)]) (fun rec => by rw [h34_p2_eq]; simp only [Int.lt_irrefl, decide_false, cond_false, List.take_length]) (by rw [fuel_def]; omega)
  have e0 : h34_p2_y x4 items (items.length : Int) (0 : Int) k n s items keys l = h34_p2_y x4 items (items.length : Int) ((0 : Nat) : Int) k n s items keys (l ++ bytesOf (txtL (k == 4) 0 keys (items.take 0))) := by simp [txtL, bytesOf]
  rw [e0]; exact e
end Go.Pe.Tryd
end
section
set_option linter.unusedSectionVars false
set_option linter.unusedVariables false
set_option linter.unusedSimpArgs false
namespace Go.Pe.Tryd
open Go.Proofs Go.RowKit
set_option maxRecDepth 100000
theorem h34a_list (G : h34a_I.den → Option h34a_O.den) (hG : SoundH Tryd.prog 34 ⟨h34a_I, h34a_O, G⟩) (o c : UInt8) (k n : Int) (s : List UInt8) (items : List V) (keys : List (List UInt8)) (l : List Int) (hl : items.length ≤ 4000) (hm : (k == 4) = true → keys.length = items.length ∧ ∀ j (hj : j < keys.length), keys[j].length ≤ 4000)
    (hlen : l.length + (txtL (k == 4) 0 keys items).length + 2 ≤ 4294967296) (ih : ∀ v ∈ items, ∀ l : List Int, l.length + (txt v).length ≤ 4294967296 → G (h34a_y v.kind v.n v.s v.items v.keys l) = some (h34a_o_y (l ++ bytesOf (txt v)))) :
    (cutHi ([o, c] : List UInt8) (1 : Int) fun s67 => (h53a_F (h53a_y s67 l)).bind fun z68 => (go (h34a_p2_st G hG) (h34a_p2_y ([o, c] : List UInt8) items (items.length : Int) (0 : Int) k n s items keys (h53a_o_l0 z68))).bind fun o69 => cutLo (h34a_p2_o0_x4 o69) (1 : Int) fun s70 => (h53a_F (h53a_y s70 (h34a_p2_o0_l0 o69))).bind fun z71 => some (h34a_o_y (h53a_o_l0 z71))) = some (h34a_o_y (l ++ bytesOf (o :: (txtL (k == 4) 0 keys items ++ [c])))) := by
  have e1 : (1 : Int) = ((1 : Nat) : Int) := rfl
  rw [e1, cutHi_nat' _ _ _ (by simp)]
  have e2 : ([o, c] : List UInt8).take 1 = [o] := rfl
  rw [e2, h53a_is _ _ (by simp only [List.length_singleton]; omega), Option.bind_some, h53a_o_l0_y, h34a_items G hG _ k n s items keys _ hl hm (by simp only [List.length_append, bytesOf_len, List.length_singleton]; omega) ih, Option.bind_some, h34a_p2_o0_x4_y, h34a_p2_o0_l0_y, cutLo_nat' _ _ _ (by simp)]
  have e3 : ([o, c] : List UInt8).drop 1 = [c] := rfl
  rw [e3, h53a_is _ _ (by simp only [List.length_append, bytesOf_len, List.length_singleton]; omega), Option.bind_some, h53a_o_l0_y]
  simp [bytesOf]
theorem h34_list (o c : UInt8) (k n : Int) (s : List UInt8) (items : List V) (keys : List (List UInt8)) (hl : items.length ≤ 4000) (hm : (k == 4) = true → keys.length = items.length ∧ ∀ j (hj : j < keys.length), keys[j].length ≤ 4000)
    (hlen : (txtL (k == 4) 0 keys items).length + 2 ≤ 4294967296) (ih : ∀ v ∈ items, ∀ l : List Int, l.length + (txt v).length ≤ 4294967296 → h34a_F (h34a_y v.kind v.n v.s v.items v.keys l) = some (h34a_o_y (l ++ bytesOf (txt v)))) :
    (cutHi ([o, c] : List UInt8) (1 : Int) fun s67 => (h53_F (h53_y s67)).bind fun z68 => (go h34_p2_st (h34_p2_y ([o, c] : List UInt8) items (items.length : Int) (0 : Int) k n s items keys (h53_o_l0 z68))).bind fun o69 => cutLo (h34_p2_o0_x4 o69) (1 : Int) fun s70 => (h53a_F (h53a_y s70 (h34_p2_o0_l0 o69))).bind fun z71 => some (h34_o_y (h53a_o_l0 z71))) = some (h34_o_y (bytesOf (o :: (txtL (k == 4) 0 keys items ++ [c])))) := by
  have e1 : (1 : Int) = ((1 : Nat) : Int) := rfl
  rw [e1, cutHi_nat' _ _ _ (by simp)]
  have e2 : ([o, c] : List UInt8).take 1 = [o] := rfl
  rw [e2, h53_is _ (by simp), Option.bind_some, h53_o_l0_y, h34_items  _ k n s items keys _ hl hm (by simp only [List.length_append, bytesOf_len, List.length_singleton]; omega) ih, Option.bind_some, h34_p2_o0_x4_y, h34_p2_o0_l0_y, cutLo_nat' _ _ _ (by simp)]
  have e3 : ([o, c] : List UInt8).drop 1 = [c] := rfl
  rw [e3, h53a_is _ _ (by simp only [List.length_append, bytesOf_len, List.length_singleton]; omega), Option.bind_some, h53a_o_l0_y]
  simp [bytesOf]
theorem format_is {a : Int} (h1 : -1099511627776 ≤ a) (h2 : a ≤ 1099511627776) : formatF (a, ((10 : Int), ())) = some (Lib.itoa a, ()) := by
  unfold formatF
  exact if_pos ⟨rfl, Int.le_trans (by decide) h1, Int.le_trans h2 (by decide)⟩
theorem each_items {k n : Int} {s items keys} (h : each (.mk k n s items keys) = true) : mayP k n s items keys = true ∧ ∀ v ∈ items, each v = true := by
  simp only [each, Bool.and_eq_true] at h
  refine ⟨h.1, fun v hv => ?_⟩
  have := h.2
  rw [eachL_all, List.all_eq_true] at this
  exact this v hv
theorem h34a_next (n : Nat) : (h34a_S (n + 1)).1 = h34a_b (h34a_S n).1 (h34a_S n).2 := by kernel_rfl
theorem wr_ok : ∀ (n : Nat) (v : V) (l : List Int), dep v ≤ n → cnt v ≤ 3000 → each v = true → l.length + (txt v).length ≤ 4294967296 → (h34a_S n).1 (h34a_y v.kind v.n v.s v.items v.keys l) = some (h34a_o_y (l ++ bytesOf (txt v)))
  | 0, v, _, h, _, _, _ => by have := dep_pos v; omega
  | n + 1, .mk k a s items keys, l, hd, hcn, hee, hlen => by
    have he := each_items hee
    simp only [dep, cnt] at hd hcn
    have hl := cntL_len items
    have ih : ∀ v ∈ items, ∀ l : List Int, l.length + (txt v).length ≤ 4294967296 → (h34a_S n).1 (h34a_y v.kind v.n v.s v.items v.keys l) = some (h34a_o_y (l ++ bytesOf (txt v))) := fun v hv l h => wr_ok n v l (by have := dep_mem hv; omega) (by have := cnt_mem hv; omega) (he.2 v hv) h
    show (h34a_S (n + 1)).1 (h34a_y k a s items keys l) = _
    rw [h34a_next, h34a_eq]
    by_cases h1 : k = 1
    · subst h1
      have hb := mayP_1 he.1
      have hf := format_is hb.1 hb.2
      have q1 : ((1 : Int) == 1) = true := rfl
      simp only [txt, q1, cond_true] at hlen ⊢
      rw [hf, Option.bind_some]
      dsimp only
      rw [h53a_is _ _ hlen, Option.bind_some, h53a_o_l0_y]
    · have q1 : (k == 1) = false := by simp [h1]
      rw [q1, cond_false]
      by_cases h2 : k = 2
      · subst h2
        have hb := mayP_2 he.1
        have q2 : ((2 : Int) == 2) = true := rfl
        simp only [txt, q1, q2, cond_true, cond_false] at hlen ⊢
        rw [f54_ok' s (by omega), Option.bind_some]
        dsimp only
        rw [h53a_is _ _ hlen, Option.bind_some, h53a_o_l0_y]
      · have q2 : (k == 2) = false := by simp [h2]
        rw [q2, cond_false]
        have hm : (k == 4) = true → keys.length = items.length ∧ ∀ j (hj : j < keys.length), keys[j].length ≤ 4000 := fun h => by
          have := beq_iff_eq.1 h; subst this
          have h5 := mayP_4 he.1
          exact ⟨h5.1, fun j hj => kok_tok h5.2 hj⟩
        by_cases h4 : k = 4
        · subst h4
          have q4 : ((4 : Int) == 4) = true := rfl
          simp only [txt, q1, q2, q4, cond_true, cond_false, List.length_cons, List.length_append, List.length_nil] at hlen ⊢
          have := h34a_list (h34a_S n).1 (h34a_S n).2 123 125 4 a s items keys l (by omega) hm (by rw [q4]; omega) ih
          rw [q4] at this
          exact this
        · have q4 : (k == 4) = false := by simp [h4]
          simp only [txt, q1, q2, q4, cond_false, List.length_cons, List.length_append, List.length_nil] at hlen ⊢
          have := h34a_list (h34a_S n).1 (h34a_S n).2 91 93 k a s items keys l (by omega) hm (by rw [q4]; omega) ih
          rw [q4] at this
          exact this
theorem h34a_is (v : V) (l : List Int) (hc : cnt v ≤ 3000) (he : each v = true) (hlen : l.length + (txt v).length ≤ 4294967296) : h34a_F (h34a_y v.kind v.n v.s v.items v.keys l) = some (h34a_o_y (l ++ bytesOf (txt v))) := by
  unfold h34a_F
  exact wr_ok recN v l (by have := dep_le v; rw [recN_eq]; omega) hc he hlen
theorem h34_is : ∀ (v : V), cnt v ≤ 3000 → each v = true → (txt v).length ≤ 4294967296 → h34_F (h34_y v.kind v.n v.s v.items v.keys) = some (h34_o_y (bytesOf (txt v)))
  | .mk k a s items keys, hcn, hee, hlen => by
    have he := each_items hee
    simp only [cnt] at hcn
    have hl := cntL_len items
    have ih : ∀ v ∈ items, ∀ l : List Int, l.length + (txt v).length ≤ 4294967296 → h34a_F (h34a_y v.kind v.n v.s v.items v.keys l) = some (h34a_o_y (l ++ bytesOf (txt v))) := fun v hv l h => h34a_is v l (by have := cnt_mem hv; omega) (he.2 v hv) h
    show h34_F (h34_y k a s items keys) = _
    rw [h34_eq]
    by_cases h1 : k = 1
    · subst h1
      have hb := mayP_1 he.1
      have hf := format_is hb.1 hb.2
      have q1 : ((1 : Int) == 1) = true := rfl
      simp only [txt, q1, cond_true] at hlen ⊢
      rw [hf, Option.bind_some]
      dsimp only
      rw [h53_is _ hlen, Option.bind_some, h53_o_l0_y]
    · have q1 : (k == 1) = false := by simp [h1]
      rw [q1, cond_false]
      by_cases h2 : k = 2
      · subst h2
        have hb := mayP_2 he.1
        have q2 : ((2 : Int) == 2) = true := rfl
        simp only [txt, q1, q2, cond_true, cond_false] at hlen ⊢
        rw [f54_ok' s (by omega), Option.bind_some]
        dsimp only
        rw [h53_is _ hlen, Option.bind_some, h53_o_l0_y]
      · have q2 : (k == 2) = false := by simp [h2]
        rw [q2, cond_false]
        have hm : (k == 4) = true → keys.length = items.length ∧ ∀ j (hj : j < keys.length), keys[j].length ≤ 4000 := fun h => by
          have := beq_iff_eq.1 h; subst this
          have h5 := mayP_4 he.1
          exact ⟨h5.1, fun j hj => kok_tok h5.2 hj⟩
        by_cases h4 : k = 4
        · subst h4
          have q4 : ((4 : Int) == 4) = true := rfl
          simp only [txt, q1, q2, q4, cond_true, cond_false, List.length_cons, List.length_append, List.length_nil] at hlen ⊢
          have := h34_list  123 125 4 a s items keys (by omega) hm (by rw [q4]; omega) ih
          rw [q4] at this
          exact this
        · have q4 : (k == 4) = false := by simp [h4]
          simp only [txt, q1, q2, q4, cond_false, List.length_cons, List.length_append, List.length_nil] at hlen ⊢
          have := h34_list  91 93 k a s items keys (by omega) hm (by rw [q4]; omega) ih
          rw [q4] at this
          exact this
theorem txt_small (v : V) (hc : cnt v ≤ 3000) (he : each v = true) : (txt v).length ≤ 51000000 := by
  have := txt_len (dep v) v (Nat.le_refl _) he
  omega
/-- What Print tells. -/
def prn (v : V) : List UInt8 × Int := if right v = true then (txt v, 0) else ([], 1)
theorem f14_ok' (v : V) (hc : cnt v ≤ 3000) : f14_F (va v, ()) = some ((prn v).1, ((prn v).2, ())) := by
  have h1 := f19_ok' v hc
  have h2 := h34_is v hc
  obtain ⟨k, n, s, items, keys⟩ := v
  rw [va_mk] at *
  rw [f14_eq, h1, Option.bind_some]
  unfold prn
  have h2' : each (.mk k n s items keys) = true → (txt (.mk k n s items keys)).length ≤ 4294967296 → h34_F (h34_y k n s items keys) = some (h34_o_y (bytesOf (txt (.mk k n s items keys)))) := h2
  generalize hv : V.mk k n s items keys = v at *
  cases hr : right v with
  | false => rfl
  | true =>
    have he : each v = true := by
      unfold right at hr
      simp only [Bool.and_eq_true] at hr
      exact hr.2.2
    have hs := txt_small v hc he
    dsimp only
    rw [Bool.not_true, cond_false, h2' he (by omega), Option.bind_some, h34_o_l0_y, if_pos rfl]
    have h35 : h35_F (h35_y (bytesOf (txt v))) = some (h35_o_y (txt v)) := by
      show (if bytesOf (strOf (bytesOf (txt v))) = bytesOf (txt v) ∧ (bytesOf (txt v)).length ≤ 4294967296 then some (h35_o_y (strOf (bytesOf (txt v)))) else none) = _
      rw [strOf_bytesOf, if_pos ⟨rfl, by rw [bytesOf_len]; omega⟩]
    rw [h35, Option.bind_some, h35_o_x0_y]
end Go.Pe.Tryd
end
section
set_option linter.unusedSectionVars false
set_option linter.unusedVariables false
set_option linter.unusedSimpArgs false
namespace Go.Pe.Tryd
open Go.Proofs Go.RowKit
set_option maxRecDepth 100000
def alV : V := .mk 3 0 [] [.mk 1 1 [] [] [], .mk 2 0 [97, 34, 98] [] []] []
theorem alV_right : right alV = true := by
  simp [right, alV, dep, depL, cnt, cntL, each, eachL, mayP, noIt, tok, ctl]
theorem alV_txt : txt alV = [91, 49, 44, 34, 97, 92, 34, 98, 34, 93] := by
  simp [txt, alV, txtL, quo, esc, Lib.itoa, Lib.decDigits]
theorem f13_ok' : f13_F () = some (true, ()) := by
  rw [f13_eq, f23_eq, Option.bind_some, f22_eq, Option.bind_some, f28_eq, Option.bind_some]
  dsimp only
  have h := f14_ok' alV (by simp [alV, cnt, cntL])
  unfold prn at h
  rw [if_pos alV_right, alV_txt] at h
  have h' : f14_F (((3 : Int), ((0 : Int), (([] : List UInt8), (([V.mk 1 1 [] [] [], V.mk 2 0 [97, 34, 98] [] []] : List V), (([] : List (List UInt8)), ()))))), ()) = _ := h
  rw [h', Option.bind_some]; rfl
theorem f12_ok' (v : V) : f12_F (va v, ()) = some (decide (2100 < cnt v), ()) := by
  obtain ⟨k, n, s, items, keys⟩ := v
  have h := f16_ok' 2100 (.mk k n s items keys) (by omega)
  rw [va_mk] at *
  have h' : f16_F ((k, (n, (s, (items, (keys, ()))))), ((2100 : Int), ())) = _ := h
  rw [f12_eq, h', Option.bind_some]
  have e : decide (((min (cnt (V.mk k n s items keys)) (2100 + 1) : Nat) : Int) > 2100) = decide (2100 < cnt (V.mk k n s items keys)) := by
    rw [Bool.eq_iff_iff, decide_eq_true_eq, decide_eq_true_eq]; omega
  dsimp only
  rw [e]
end Go.Pe.Tryd
end
section
set_option linter.unusedSectionVars false
set_option linter.unusedVariables false
set_option linter.unusedSimpArgs false
namespace Go.Pe.Tryd
open Go.Proofs Go.RowKit
set_option maxRecDepth 100000
mutual
def same : V → V → Bool
  | .mk k n s items keys, w => k == w.kind && (n == w.n && (s == w.s && (keys == w.keys && sameL items w.items)))
def sameL : List V → List V → Bool
  | [], l => l.isEmpty
  | v :: l, l' => match l' with | [] => false | w :: l' => same v w && sameL l l'
end
mutual
theorem same_iff : ∀ v w : V, same v w = true ↔ v = w
  | .mk k n s items keys, .mk k' n' s' items' keys' => by
    have ih := sameL_iff items items'
    simp only [same, V.kind, V.n, V.s, V.keys, V.items, Bool.and_eq_true, beq_iff_eq, ih, V.mk.injEq]
    constructor
    · rintro ⟨h1, h2, h3, h4, h5⟩; exact ⟨h1, h2, h3, h5, h4⟩
    · rintro ⟨h1, h2, h3, h4, h5⟩; exact ⟨h1, h2, h3, h5, h4⟩
theorem sameL_iff : ∀ l l' : List V, sameL l l' = true ↔ l = l'
  | [], l' => by cases l' <;> simp [sameL]
  | v :: l, [] => by simp [sameL]
  | v :: l, w :: l' => by
    simp only [sameL, Bool.and_eq_true, same_iff v w, sameL_iff l l', List.cons.injEq]
end
theorem range_keys : ∀ (a b : List (List UInt8)), a.length = b.length → (List.range a.length).any (fun i => a.getD i [] != b.getD i []) = !(a == b) := by
  intro a b h
  rw [Bool.eq_iff_iff]
  simp only [List.any_eq_true, List.mem_range, bne_iff_ne, ne_eq, Bool.not_eq_true', beq_eq_false_iff_ne]
  constructor
  · rintro ⟨i, hi, hne⟩ e; exact hne (by rw [e])
  · intro hne
    refine Classical.byContradiction fun hall => hne (List.ext_getElem h fun i h1 h2 => ?_)
    have : ¬ ¬ a.getD i [] = b.getD i [] := fun hx => hall ⟨i, h1, hx⟩
    have := Classical.not_not.1 this
    rwa [getD_lt h1, getD_lt h2] at this
theorem range_items : ∀ (a b : List V), a.length = b.length → (List.range a.length).any (fun i => !same (a.getD i alV) (b.getD i alV)) = !sameL a b := by
  intro a b h
  rw [Bool.eq_iff_iff]
  simp only [List.any_eq_true, List.mem_range, Bool.not_eq_true']
  constructor
  · rintro ⟨i, hi, hne⟩
    cases hs : sameL a b with
    | false => rfl
    | true =>
      have e := (sameL_iff a b).1 hs
      rw [← e] at hne
      have : same (a.getD i alV) (a.getD i alV) = true := (same_iff _ _).2 rfl
      rw [this] at hne; cases hne
  · intro hne
    refine Classical.byContradiction fun hall => ?_
    have e : a = b := List.ext_getElem h fun i h1 h2 => by
      have h3 : same (a.getD i alV) (b.getD i alV) = true := by
        cases hx : same (a.getD i alV) (b.getD i alV) with
        | true => rfl
        | false => exact absurd ⟨i, h1, hx⟩ hall
      have := (same_iff _ _).1 h3
      rwa [getD_lt h1, getD_lt h2] at this
    rw [(sameL_iff a b).2 e] at hne; cases hne
theorem fuel_rec4 (r : List (Option (List SAV))) (k n : Int) (s : List UInt8) (items : List V) (keys : List (List UInt8)) (z : recsDen r) :
    keys.length ≤ fuelR (some [.hole (.int .i64), .hole (.int .i64), .hole .str, .hole (.list .value), .hole (.list .str)] :: r) ((k, (n, (s, (items, (keys, ()))))), z) := by
  simp only [fuelR, fuelL, SAV.fuel, Ty.fuel]; omega
theorem rsame_step (G : argsDen f24_ps → Option (argsDen f24_rs)) (hG : Sound Tryd.prog 24 (pfun G)) (k n : Int) (s : List UInt8) (items : List V) (keys : List (List UInt8)) (k' n' : Int) (s' : List UInt8) (items' : List V) (keys' : List (List UInt8))
    (hl : items.length ≤ 100000) (hk : keys.length ≤ reachBytes) (ih : ∀ i (h : i < items.length) (h' : i < items'.length), G (va items[i], (va items'[i], ())) = some (same items[i] items'[i], ())) :
    f24_b G hG (va (.mk k n s items keys), (va (.mk k' n' s' items' keys'), ())) = some (same (.mk k n s items keys) (.mk k' n' s' items' keys'), ()) := by
  unfold reachBytes at hk
  rw [va_mk, va_mk, f24_eq, f24_p2_eq]
  simp only [same, V.kind, V.n, V.s, V.items, V.keys]
  have b1 : (k != k') = !(k == k') := rfl
  have b2 : (n != n') = !(n == n') := rfl
  have b3 : (s != s') = !(s == s') := rfl
  rw [b1, b2, b3]
  cases k == k' with
  | false => simp only [Bool.not_false, cond_true, Option.bind_some, f24_p2_o0_x43_y, Bool.false_and]
  | true =>
    rw [Bool.not_true, cond_false, Bool.true_and]
    cases n == n' with
    | false => simp only [Bool.not_false, cond_true, Option.bind_some, f24_p2_o0_x43_y, Bool.false_and]
    | true =>
      rw [Bool.not_true, cond_false, Bool.true_and]
      cases s == s' with
      | false => simp only [Bool.not_false, cond_true, Option.bind_some, f24_p2_o0_x43_y, Bool.false_and]
      | true =>
        rw [Bool.not_true, cond_false, Bool.true_and]
        by_cases hli : items.length = items'.length
        · have e1 : ((items.length : Int) != (items'.length : Int)) = false := by simp [hli]
          rw [e1, cond_false, Option.bind_some, f24_p2_o0_x43_y, f24_p2_o0_r0_0_y, f24_p2_o0_r0_1_y, f24_p2_o0_r0_2_y, f24_p2_o0_r0_3_y, f24_p2_o0_r0_4_y, f24_p2_o0_r1_0_y, f24_p2_o0_r1_1_y, f24_p2_o0_r1_2_y, f24_p2_o0_r1_3_y, f24_p2_o0_r1_4_y]
          by_cases hlk : keys.length = keys'.length
          · have e2 : ((keys.length : Int) != (keys'.length : Int)) = false := by simp [hlk]
            rw [e2, cond_false]
            have hr : (List.range keys.length).length = keys.length := by simp
            have e := go_scan (step := f24_p1_st G hG) (l := List.range keys.length) (fun i => f24_p1_y (keys.length : Int) (i : Int) k n s items keys k' n' s' items' keys') (fun i => keys.getD i [] != keys'.getD i []) (fun i => some (.inr (f24_p1_o1_y false))) (some (.inl (f24_p1_o0_y k n s items keys k' n' s' items' keys'))) (fun i hi rec => by
              have hi' : i < keys.length := by simpa using hi
              have hi2 : i < keys'.length := by omega
              rw [f24_p1_eq, lt_t hi', cond_true, nth_lt hi', Option.bind_some, nth_lt hi2, Option.bind_some, List.getElem_range, getD_lt hi', getD_lt hi2, nxb (by omega)]) (fun rec => by rw [hr, f24_p1_eq]; simp only [Int.lt_irrefl, decide_false, cond_false]) (by
                rw [hr, fuel_def]
                have : keys.length ≤ fuelR f24_p1_sh.recs (f24_p1_y (keys.length : Int) ((0 : Nat) : Int) k n s items keys k' n' s' items' keys').2.1 := fuel_rec4 _ _ _ _ _ _ _
                omega)
            have e' : go (f24_p1_st G hG) (f24_p1_y (keys.length : Int) (0 : Int) k n s items keys k' n' s' items' keys') = _ := e
            have hk2 := findIdx_any (fun i => keys.getD i [] != keys'.getD i []) (List.range keys.length)
            rw [range_keys keys keys' hlk] at hk2
            rw [e']
            cases hf : (List.range keys.length).findIdx? (fun i => keys.getD i [] != keys'.getD i []) with
            | some j =>
              rw [hf] at hk2
              have : (keys == keys') = false := by simpa using hk2.symm
              rw [this]; simp only [Option.bind_some, f24_p1_o1_x4_y, Bool.false_and]
            | none =>
              rw [hf] at hk2
              have hkk : (keys == keys') = true := by simpa using hk2.symm
              rw [hkk, Bool.true_and]
              simp only [Option.bind_some, f24_p1_o0_r0_0_y, f24_p1_o0_r0_1_y, f24_p1_o0_r0_2_y, f24_p1_o0_r0_3_y, f24_p1_o0_r0_4_y, f24_p1_o0_r1_0_y, f24_p1_o0_r1_1_y, f24_p1_o0_r1_2_y, f24_p1_o0_r1_3_y, f24_p1_o0_r1_4_y]
              have hr2 : (List.range items.length).length = items.length := by simp
              have g := go_scan (step := f24_p0_st G hG) (l := List.range items.length) (fun i => f24_p0_y (items.length : Int) (i : Int) k n s items keys k' n' s' items' keys') (fun i => !same (items.getD i alV) (items'.getD i alV)) (fun i => some (.inr (f24_p0_o1_y false))) (some (.inl f24_p0_o0_y)) (fun i hi rec => by
                have hi' : i < items.length := by simpa using hi
                have hi2 : i < items'.length := by omega
                rw [f24_p0_eq, lt_t hi', cond_true, nth_lt hi', Option.bind_some, nth_lt hi2, Option.bind_some, va_eta, va_eta, ih i hi' hi2, Option.bind_some, List.getElem_range, getD_lt hi', getD_lt hi2]
                dsimp only
                rw [nx (by omega)]) (fun rec => by rw [hr2, f24_p0_eq]; simp only [Int.lt_irrefl, decide_false, cond_false]) (by rw [hr2, fuel_def]; omega)
              have g' : go (f24_p0_st G hG) (f24_p0_y (items.length : Int) (0 : Int) k n s items keys k' n' s' items' keys') = _ := g
              have hi3 := findIdx_any (fun i => !same (items.getD i alV) (items'.getD i alV)) (List.range items.length)
              rw [range_items items items' hli] at hi3
              rw [g']
              cases hf2 : (List.range items.length).findIdx? (fun i => !same (items.getD i alV) (items'.getD i alV)) with
              | some j =>
                rw [hf2] at hi3
                have : sameL items items' = false := by simpa using hi3.symm
                rw [this]; simp only [Option.bind_some, f24_p0_o1_x4_y]
              | none =>
                rw [hf2] at hi3
                have : sameL items items' = true := by simpa using hi3.symm
                rw [this]; rfl
          · have e2 : ((keys.length : Int) != (keys'.length : Int)) = true := by simp; omega
            have e3 : (keys == keys') = false := by simp; intro e; exact hlk (by rw [e])
            rw [e2, cond_true, e3, Bool.false_and]
        · have e1 : ((items.length : Int) != (items'.length : Int)) = true := by simp; omega
          have e3 : sameL items items' = false := by
            cases hs : sameL items items' with
            | false => rfl
            | true => exact absurd (by rw [(sameL_iff _ _).1 hs]) hli
          rw [e1, cond_true, Option.bind_some, f24_p2_o0_x43_y, cond_true, e3, Bool.and_false]
theorem f24_next (n : Nat) : (f24_S (n + 1)).1 = f24_b (f24_S n).1 (f24_S n).2 := by kernel_rfl
theorem wf_keys {v : V} (h : WfV reachBytes v) : v.keys.length ≤ reachBytes := by cases h; assumption
theorem rsame_ok : ∀ (n : Nat) (v w : V), dep v ≤ n → cnt v ≤ 90000 → WfV reachBytes v → (f24_S n).1 (va v, (va w, ())) = some (same v w, ())
  | 0, v, _, h, _, _ => by have := dep_pos v; omega
  | n + 1, .mk k a s items keys, .mk k' a' s' items' keys', hd, hc, hw => by
    have hwi := wf_items hw
    have hwk := wf_keys hw
    simp only [dep, cnt] at hd hc
    have hl := cntL_len items
    rw [f24_next]
    exact rsame_step _ _ k a s items keys k' a' s' items' keys' (by omega) hwk fun i h h' => rsame_ok n items[i] items'[i] (by have := dep_mem (List.getElem_mem h); omega) (by have := cnt_mem (List.getElem_mem h); omega) (hwi _ (List.getElem_mem h))
theorem f24_okB (v w : V) (h : cnt v ≤ 90000) (hw : WfV reachBytes v) : f24_F (va v, (va w, ())) = some (same v w, ()) := by
  unfold f24_F
  exact rsame_ok recN v w (by have := dep_le v; rw [recN_eq]; omega) h hw
end Go.Pe.Tryd
end
section
set_option linter.unusedSectionVars false
set_option linter.unusedVariables false
set_option linter.unusedSimpArgs false
namespace Go.Pe.Tryd
open Go.Proofs Go.RowKit
set_option maxRecDepth 100000
def Sep (r : List UInt8) : Prop := ∀ b, r.head? = some b → b = 44 ∨ b = 93 ∨ b = 125
inductive Form : V → Prop
  | num (n : Int) (h1 : -1099511627776 ≤ n) (h2 : n ≤ 1099511627776) : Form (.mk 1 n [] [] [])
  | str (s : List UInt8) : Form (.mk 2 0 s [] [])
  | lst (items : List V) : Form (.mk 3 0 [] items [])
  | map (items : List V) (keys : List (List UInt8)) (h : keys.length = items.length) : Form (.mk 4 0 [] items keys)
def Apart (v : V) : Prop := ∀ w r r', each w = true → Sep r → Sep r' → txt v ++ r = txt w ++ r' → v = w ∧ r = r'
end Go.Pe.Tryd
end
section
set_option linter.unusedSectionVars false
set_option linter.unusedVariables false
set_option linter.unusedSimpArgs false
namespace Go.Pe.Tryd
open Go.Proofs Go.RowKit
set_option maxRecDepth 100000
abbrev PR := List UInt8 × V
def zV : V := .mk 0 0 [] [] []
noncomputable def srt (l : List PR) : List PR := sortF (α := PR) cmpP l
theorem srt_len (l : List PR) : (srt l).length = l.length := sortF_len (α := PR) swoP l
theorem srt_perm (l : List PR) : (srt l).Perm l := sortF_perm (α := PR) swoP l
theorem srt_sorted (l : List PR) (i j : Nat) (a b : PR) (hij : i < j) (hi : (srt l)[i]? = some a) (hj : (srt l)[j]? = some b) : Op.bytesLess b.1 a.1 = false := by
  have := sortF_sorted (α := PR) swoP l i j a b hij hi hj
  unfold cmpP at this
  rw [cmpS_neg] at this
  simpa using this
def dupAt (s : List PR) (i : Nat) : Bool := decide (0 < i) && ((s.map Prod.fst).getD (i - 1) [] == (s.map Prod.fst).getD i [])
def dups (s : List PR) : Bool := (List.range s.length).any (dupAt s)
noncomputable def mapV (l : List PR) : V × Int := if dups (srt l) = true then (zV, 23) else (.mk 4 0 [] ((srt l).map Prod.snd) ((srt l).map Prod.fst), 0)
theorem nilEq_self {α S : Type} (xs : List α) (a b : Option S) (h : xs = [] → a = b) : nilEq xs a b = b := by
  unfold nilEq
  split
  · rename_i e; rw [h e, if_pos rfl]
  · rfl
theorem h47_is (l : List PR) (h : l.length ≤ 4000) : h47_F (h47_y l) = some (h47_o_y l) := by
  rw [h47_eq, nilEq_self, appOk_lt (by simp; omega), List.nil_append]
  rintro rfl
  rw [appOk_lt (by simp)]; rfl
def Y31 (s : List PR) (i : Nat) : f31_p1_sh.den := f31_p1_y (s.length : Int) (i : Int) 0 0 [] 4 0 [] s ((s.take i).map Prod.fst) ((s.take i).map Prod.snd)
theorem mk_eta (v : V) : V.mk v.kind v.n v.s v.items v.keys = v := by cases v; rfl
theorem step31 (s : List PR) (hs : s.length ≤ 4000) (i : Nat) (hi : i < s.length) (rec : f31_p1_sh.den → Option (OutDen f31_p1_outs)) :
    f31_p1_st rec (Y31 s i) = if dupAt s i = true then some (.inr (f31_p1_o1_y 23 0 0 [])) else rec (Y31 s (i + 1)) := by
  unfold Y31
  have hti : Int.toNat (i : Int) = i := by omega
  rw [f31_p1_eq, lt_t hi, cond_true, within_lt (by omega), hti, List.getElem?_eq_getElem hi, Option.bind_some]
  try dsimp only
  have hp : f31_p0_F (f31_p0_y (i : Int) (s.length : Int) (i : Int) 0 0 [] 4 0 [] s[i].1 s[i].2.kind s[i].2.n s[i].2.s s[i].2.items s[i].2.keys s ((s.take i).map Prod.fst) ((s.take i).map Prod.snd)) = some (f31_p0_o0_y (s.length : Int) (i : Int) (dupAt s i) 0 0 [] 4 0 [] s[i].1 s[i].2.kind s[i].2.n s[i].2.s s[i].2.items s[i].2.keys s ((s.take i).map Prod.fst) ((s.take i).map Prod.snd)) := by
    rw [f31_p0_eq]
    unfold dupAt
    rcases Nat.eq_zero_or_pos i with h0 | h0
    · subst h0; rfl
    · have e1 : decide ((i : Int) > 0) = true := by simp; omega
      have e2 : decide (0 < i) = true := by simp [h0]
      have h1 : i - 1 < s.length := by omega
      have g1 : (s.map Prod.fst).getD (i - 1) [] = s[i - 1].1 := by rw [getD_lt (by simpa using h1)]; simp
      have g2 : (s.map Prod.fst).getD i [] = s[i].1 := by rw [getD_lt (by simpa using hi)]; simp
      rw [e1, e2, cond_true, pred_nat h0 (by omega), within_lt (by omega), show Int.toNat ((i - 1 : Nat) : Int) = i - 1 by omega, List.getElem?_eq_getElem h1, Option.bind_some, g1, g2, Bool.true_and]
  rw [hp, Option.bind_some, f31_p0_o0_x32_y]
  cases dupAt s i with
  | true => rw [cond_true, if_pos rfl]
  | false =>
    rw [cond_false, if_neg (by simp)]
    rw [f31_p0_o0_l1_y, f31_p0_o0_l2_y, f31_p0_o0_r2_0_y, f31_p0_o0_r2_1_y, f31_p0_o0_r2_2_y, f31_p0_o0_r2_3_y, f31_p0_o0_r2_4_y, f31_p0_o0_r2_5_y, appOk_lt (by simp; omega), appOk_lt (by simp; omega), f31_p0_o0_x14_y, f31_p0_o0_x15_y, f31_p0_o0_r0_0_y, f31_p0_o0_r0_1_y, f31_p0_o0_r0_2_y, f31_p0_o0_r1_0_y, f31_p0_o0_r1_1_y, f31_p0_o0_r1_2_y, f31_p0_o0_l0_y, nx (by omega), mk_eta, List.take_succ_eq_append_getElem hi, List.map_append, List.map_append]
    rfl
theorem f31_ok' (l : List PR) (h : l.length ≤ 4000) : f31_F (l, ()) = some (va (mapV l).1, ((mapV l).2, ())) := by
  have hl := srt_len l
  rw [f31_eq, h47_is l h, Option.bind_some, h47_o_l0_y, appOk_lt (by omega)]
  have hsr : sortF cmpP l = srt l := rfl
  rw [hsr]
  unfold mapV dups
  generalize srt l = s at *
  have e0 : f31_p1_y (s.length : Int) (0 : Int) 0 0 [] 4 0 [] s [] [] = Y31 s 0 := by simp [Y31]
  rw [e0]
  have hany : (List.range s.length).any (dupAt s) = true ↔ ∃ i, i < s.length ∧ dupAt s i = true := by simp [List.any_eq_true]
  rcases first_bad (fun i => dupAt s i = false) (List.range s.length) with hall | ⟨k, hk, hb, hlt⟩
  · have hno : ¬ ((List.range s.length).any (dupAt s) = true) := by
      rw [hany]; rintro ⟨i, hi, hd⟩
      rw [hall i (List.mem_range.2 hi)] at hd; cases hd
    rw [if_neg hno]
    have hgo : go f31_p1_st (Y31 s 0) = some (.inl (f31_p1_o0_y 0 0 [] 4 0 [] (s.map Prod.fst) (s.map Prod.snd))) := by
      refine go_seq (step := f31_p1_st) (y := Y31 s) (n := s.length) (fun i hi rec => ?_) (fun rec => ?_) (by rw [fuel_def]; omega)
      · rw [step31 s (by omega) i hi, if_neg (by rw [hall i (List.mem_range.2 hi)]; simp)]
      · unfold Y31; rw [f31_p1_eq]; simp only [Int.lt_irrefl, decide_false, cond_false, List.take_length]
    rw [hgo, Option.bind_some]; rfl
  · rw [List.length_range] at hk
    rw [List.getElem_range] at hb
    have hb : dupAt s k = true := by simpa using hb
    rw [if_pos (hany.2 ⟨k, hk, hb⟩)]
    have hgo : go f31_p1_st (Y31 s 0) = some (.inr (f31_p1_o1_y 23 0 0 [])) := by
      refine go_seq (step := f31_p1_st) (y := Y31 s) (n := k) (fun i hi rec => ?_) (fun rec => ?_) (by rw [fuel_def]; omega)
      · have := hlt i hi
        rw [List.getElem_range] at this
        rw [step31 s (by omega) i (by omega), if_neg (by rw [this]; simp)]
      · rw [step31 s (by omega) k hk, if_pos hb]
    rw [hgo, Option.bind_some]; rfl
theorem cntL_perm {a b : List V} (h : a.Perm b) : cntL a = cntL b := by
  induction h with
  | nil => rfl
  | cons x _ ih => simp only [cntL, ih]
  | swap x y l => simp only [cntL]; omega
  | trans _ _ h1 h2 => rw [h1, h2]
theorem depL_perm {a b : List V} (h : a.Perm b) : depL a = depL b := by
  induction h with
  | nil => rfl
  | cons x _ ih => simp only [depL, ih]
  | swap x y l => simp only [depL]; omega
  | trans _ _ h1 h2 => rw [h1, h2]
theorem map_cnt {l : List PR} (h : (mapV l).2 = 0) : cnt (mapV l).1 = 1 + cntL (l.map Prod.snd) ∧ dep (mapV l).1 = 1 + depL (l.map Prod.snd) := by
  unfold mapV at h ⊢
  split at h
  · cases h
  · rename_i hd
    rw [if_neg hd]
    have hp := (srt_perm l).map Prod.snd
    exact ⟨by simp only [cnt, cntL_perm hp], by simp only [dep, depL_perm hp]⟩
end Go.Pe.Tryd
end
section
set_option linter.unusedSectionVars false
set_option linter.unusedVariables false
set_option linter.unusedSimpArgs false
namespace Go.Pe.Tryd
open Go.Proofs Go.RowKit
set_option maxRecDepth 100000
theorem f12_va (v : V) : f12_F (va v, ()) = some (decide (2100 < cnt v), ()) := f12_ok' v
theorem cntL_bound {l : List V} (h : ∀ v ∈ l, cnt v ≤ 2100) : cntL l ≤ 2100 * l.length := by
  induction l with
  | nil => simp [cntL]
  | cons v l ih =>
    have h1 := h v (by simp)
    have h2 := ih fun x hx => h x (by simp [hx])
    simp only [cntL, List.length_cons]; omega
end Go.Pe.Tryd
end
section
set_option linter.unusedSectionVars false
set_option linter.unusedVariables false
set_option linter.unusedSimpArgs false
namespace Go.Pe.Tryd
open Go.Proofs Go.RowKit
set_option maxRecDepth 100000
theorem perm_strict {α : Type} {r : α → α → Prop} (has : ∀ a b, r a b → r b a → False) : ∀ (a b : List α), a.Perm b → a.Pairwise r → b.Pairwise r → a = b
  | [], b, h, _, _ => by have := h.length_eq; cases b with | nil => rfl | cons x b => simp at this
  | x :: a, [], h, _, _ => by have := h.length_eq; simp at this
  | x :: a, y :: b, h, ha, hb => by
    rw [List.pairwise_cons] at ha hb
    have hx : x ∈ y :: b := h.subset (by simp)
    have hy : y ∈ x :: a := h.symm.subset (by simp)
    have e : x = y := by
      rcases List.mem_cons.1 hx with e | hx
      · exact e
      · rcases List.mem_cons.1 hy with e | hy
        · exact e.symm
        · exact (has _ _ (hb.1 x hx) (ha.1 y hy)).elim
    subst e
    rw [perm_strict has a b h.cons_inv ha.2 hb.2]
def ltP (a b : PR) : Prop := Op.bytesLess a.1 b.1 = true
theorem ltP_asymm (a b : PR) (h1 : ltP a b) (h2 : ltP b a) : False := by
  have := bl_tra h1 h2
  rw [bl_irr] at this; cases this
def keysOf (l : List PR) : List (List UInt8) := l.map Prod.fst
theorem srt_pair {l : List PR} (h : (keysOf l).Nodup) : (srt l).Pairwise ltP := by
  have hn : (keysOf (srt l)).Nodup := ((srt_perm l).map Prod.fst).nodup_iff.2 h
  rw [List.pairwise_iff_getElem]
  intro i j hi hj hij
  have hs := srt_sorted l i j _ _ hij (List.getElem?_eq_getElem hi) (List.getElem?_eq_getElem hj)
  unfold ltP
  cases hlt : Op.bytesLess (srt l)[i].1 (srt l)[j].1 with
  | true => rfl
  | false =>
    have e := bl_tri hlt hs
    unfold keysOf List.Nodup at hn
    rw [List.pairwise_iff_getElem] at hn
    have := hn i j (by simpa using hi) (by simpa using hj) hij
    simp only [List.getElem_map] at this
    exact absurd e this
/-- Two keys of a row are one just if two beside one another are, once it is in order. -/
theorem dups_iff (l : List PR) : dups (srt l) = false ↔ (keysOf l).Nodup := by
  constructor
  · intro h
    have hk : (keysOf (srt l)).Nodup := by
      unfold keysOf List.Nodup
      rw [List.pairwise_iff_getElem]
      intro i j hi hj hij
      have hi' : i < (srt l).length := by simpa using hi
      have hj' : j < (srt l).length := by simpa using hj
      simp only [List.getElem_map]
      intro e
      have hi1 : i + 1 < (srt l).length := by omega
      have a1 := srt_sorted l i (i + 1) _ _ (by omega) (List.getElem?_eq_getElem hi') (List.getElem?_eq_getElem hi1)
      have a2 : Op.bytesLess (srt l)[i].1 (srt l)[i + 1].1 = false := by
        rw [e]
        rcases Nat.lt_or_ge (i + 1) j with hlt | hge
        · exact srt_sorted l (i + 1) j _ _ hlt (List.getElem?_eq_getElem hi1) (List.getElem?_eq_getElem hj')
        · have : j = i + 1 := by omega
          subst this; exact bl_irr _
      have e2 := bl_tri a2 a1
      have hd : dups (srt l) = true := by
        unfold dups
        rw [List.any_eq_true]
        refine ⟨i + 1, List.mem_range.2 hi1, ?_⟩
        unfold dupAt
        have g1 : ((srt l).map Prod.fst).getD (i + 1 - 1) [] = (srt l)[i].1 := by
          rw [Nat.add_sub_cancel, getD_lt (by simpa using hi')]; simp
        have g2 : ((srt l).map Prod.fst).getD (i + 1) [] = (srt l)[i + 1].1 := by rw [getD_lt (by simpa using hi1)]; simp
        rw [g1, g2, e2]; simp
      rw [hd] at h; cases h
    exact ((srt_perm l).map Prod.fst).nodup_iff.1 hk
  · intro h
    have hp := srt_pair h
    rw [List.pairwise_iff_getElem] at hp
    unfold dups
    rw [List.any_eq_false]
    intro i hi
    rw [List.mem_range] at hi
    unfold dupAt
    rcases Nat.eq_zero_or_pos i with h0 | h0
    · subst h0; simp
    · have h1 : i - 1 < (srt l).length := by omega
      have := hp (i - 1) i h1 hi (by omega)
      have g1 : ((srt l).map Prod.fst).getD (i - 1) [] = (srt l)[i - 1].1 := by rw [getD_lt (by simpa using h1)]; simp
      have g2 : ((srt l).map Prod.fst).getD i [] = (srt l)[i].1 := by rw [getD_lt (by simpa using hi)]; simp
      rw [g1, g2]
      unfold ltP at this
      have hne : (srt l)[i - 1].1 ≠ (srt l)[i].1 := fun e => by rw [e, bl_irr] at this; cases this
      simp [hne]
end Go.Pe.Tryd
end
section
set_option linter.unusedSectionVars false
set_option linter.unusedVariables false
set_option linter.unusedSimpArgs false
namespace Go.Pe.Tryd
open Go.Proofs Go.RowKit
set_option maxRecDepth 100000
def found (key : List UInt8) (ks : List (List UInt8)) : Option Nat := ks.findIdx? fun y => y == key
def getV (v : V) (key : List UInt8) : V × Bool :=
  if v.kind = 4 ∧ v.keys.length = v.items.length then (match found key v.keys with | some k => (v.items.getD k zV, true) | none => (zV, false)) else (zV, false)
theorem f51_ok' (ks : List (List UInt8)) (key : List UInt8) (h : ks.length ≤ reachBytes) : f51_F (ks, (key, ())) = some ((match found key ks with | some k => (k : Int) | none => -1), ()) := by
  unfold reachBytes at h
  rw [f51_eq]
  have e := go_scan (step := f51_p0_st) (l := ks) (fun j => f51_p0_y ks key (ks.length : Int) (j : Int)) (fun y => y == key) (fun j => some (.inr (f51_p0_o1_y (j : Int)))) (some (.inl f51_p0_o0_y)) (fun j hj rec => by
    have hc : (key == ks[j]) = (ks[j] == key) := by rw [Bool.eq_iff_iff, beq_iff_eq, beq_iff_eq]; exact eq_comm
    rw [f51_p0_eq, lt_t hj, cond_true, nth_lt hj, Option.bind_some, nxb (by omega), hc]) (fun rec => by rw [f51_p0_eq]; simp only [Int.lt_irrefl, decide_false, cond_false]) (by
      rw [fuel_def]
      have : ks.length ≤ fuelL f51_p0_sh.slots (f51_p0_y ks key (ks.length : Int) ((0 : Nat) : Int)).1 := fuel0 (.list .str) _ ks _
      omega)
  have e' : go f51_p0_st (f51_p0_y ks key (ks.length : Int) (0 : Int)) = _ := e
  rw [e']
  unfold found
  cases ks.findIdx? fun y => y == key with
  | none => rfl
  | some k => rfl
theorem getV_t {v : V} {key : List UInt8} (h : v.kind = 4) (hl : v.keys.length = v.items.length) : getV v key = (match found key v.keys with | some k => (v.items.getD k zV, true) | none => (zV, false)) := by
  unfold getV; rw [if_pos ⟨h, hl⟩]
theorem getV_f {v : V} {key : List UInt8} (h : ¬ (v.kind = 4 ∧ v.keys.length = v.items.length)) : getV v key = (zV, false) := by
  unfold getV; rw [if_neg h]
theorem f32_ok' (v : V) (key : List UInt8) (h : v.keys.length ≤ reachBytes) : f32_F (va v, (key, ())) = some (va (getV v key).1, ((getV v key).2, ())) := by
  have e : f32_F (va v, (key, ())) = f32_F ((v.kind, (v.n, (v.s, (v.items, (v.keys, ()))))), (key, ())) := rfl
  rw [e, f32_eq, f51_ok' v.keys key h, Option.bind_some, f32_p0_eq]
  by_cases h4 : v.kind = 4
  · have q : (v.kind != 4) = false := by simp [h4]
    rw [q, cond_false]
    by_cases hl : v.keys.length = v.items.length
    · have q2 : ((v.keys.length : Int) != (v.items.length : Int)) = false := by simp [hl]
      rw [q2, cond_false, getV_t h4 hl]
      cases hf : found key v.keys with
      | none => rfl
      | some j =>
        have hj : j < v.keys.length := by
          unfold found at hf
          rw [List.findIdx?_eq_some_iff_getElem] at hf
          exact hf.1
        have q3 : decide ((j : Int) < 0) = false := by simp
        dsimp only
        rw [q3, Option.bind_some]
        show (bif false then _ else (nth v.items (j : Int)).bind _) = _
        rw [cond_false, nth_lt (show j < v.items.length by omega), Option.bind_some, getD_lt (show j < v.items.length by omega)]
    · have q2 : ((v.keys.length : Int) != (v.items.length : Int)) = true := by simp; omega
      rw [q2, cond_true, getV_f (fun h => hl h.2)]; rfl
  · have q : (v.kind != 4) = true := by simpa using h4
    rw [q, cond_true, getV_f (fun h => h4 h.1)]; rfl
theorem wf_zV : WfV reachBytes zV := by
  have h0 : (Lit.int .i64 0).wf = true := by decide
  exact .mk _ _ _ _ _ h0 h0 (by simp [reachBytes]) (by simp [reachBytes]) (by simp [reachBytes]) (fun i h => by simp at h) (fun k h => by simp at h)
def look (key : List UInt8) (items : List V) (ks : List (List UInt8)) : V := match found key ks with | some k => items.getD k zV | none => zV
theorem map_wf {l : List PR} (hl : l.length ≤ 20) (h : ∀ p ∈ l, p.1.length ≤ reachBytes ∧ WfV reachBytes p.2) : WfV reachBytes (mapV l).1 := by
  have h0 : (Lit.int .i64 0).wf = true := by decide
  have h4 : (Lit.int .i64 4).wf = true := by decide
  have hlen := srt_len l
  unfold mapV
  split
  · exact wf_zV
  · refine .mk _ _ _ _ _ h4 h0 (by simp [reachBytes]) (by simp [reachBytes]; omega) (by simp [reachBytes]; omega) (fun i hi => ?_) (fun k hk => ?_)
    · have hi' : i < (srt l).length := by simpa using hi
      rw [List.getElem_map]
      exact (h _ ((srt_perm l).subset (List.getElem_mem hi'))).2
    · simp only [List.mem_map] at hk
      obtain ⟨p, hp, rfl⟩ := hk
      exact (h p ((srt_perm l).subset hp)).1
theorem same_self (v : V) (h : cnt v ≤ 90000) (hw : WfV reachBytes v) : f24_F (va v, (va v, ())) = some (true, ()) := by
  have := f24_okB v v h hw
  rw [(same_iff v v).2 rfl] at this
  exact this
end Go.Pe.Tryd
end
section
set_option linter.unusedSectionVars false
set_option linter.unusedVariables false
set_option linter.unusedSimpArgs false
namespace Go.Pe.Tryd
open Go.Proofs Go.RowKit
set_option maxRecDepth 100000
theorem map_nodup {l : List PR} (h : (keysOf l).Nodup) : mapV l = (.mk 4 0 [] ((srt l).map Prod.snd) ((srt l).map Prod.fst), 0) := by
  unfold mapV
  rw [if_neg (by rw [(dups_iff l).2 h]; simp)]
theorem map_dup {l : List PR} (h : ¬ (keysOf l).Nodup) : mapV l = (zV, 23) := by
  unfold mapV
  rw [if_pos]
  cases hd : dups (srt l) with
  | true => rfl
  | false => exact absurd ((dups_iff l).1 hd) h
theorem map_perm {l l' : List PR} (h : l.Perm l') : mapV l = mapV l' := by
  have hk : (keysOf l).Nodup ↔ (keysOf l').Nodup := (h.map Prod.fst).nodup_iff
  by_cases hn : (keysOf l).Nodup
  · have hn' := hk.1 hn
    rw [map_nodup hn, map_nodup hn', perm_strict ltP_asymm (srt l) (srt l') ((srt_perm l).trans (h.trans (srt_perm l').symm)) (srt_pair hn) (srt_pair hn')]
  · rw [map_dup hn, map_dup fun h => hn (hk.2 h)]
theorem map_get {l : List PR} (h : (keysOf l).Nodup) {p : PR} (hp : p ∈ l) : getV (mapV l).1 p.1 = (p.2, true) := by
  rw [map_nodup h]
  have hps : p ∈ srt l := (srt_perm l).symm.subset hp
  obtain ⟨k, hk, e⟩ := List.getElem_of_mem hps
  have hn : (keysOf (srt l)).Nodup := ((srt_perm l).map Prod.fst).nodup_iff.2 h
  have hf : found p.1 ((srt l).map Prod.fst) = some k := by
    unfold found
    rw [List.findIdx?_eq_some_iff_getElem]
    refine ⟨by simpa using hk, by simp [e], fun j hj => ?_⟩
    unfold keysOf List.Nodup at hn
    rw [List.pairwise_iff_getElem] at hn
    have := hn j k (by simp; omega) (by simpa using hk) hj
    simp only [List.getElem_map, e] at this ⊢
    simpa using this
  rw [getV_t (by rfl) (by simp [V.keys, V.items])]
  show (match found p.1 ((srt l).map Prod.fst) with | some k => (((srt l).map Prod.snd).getD k zV, true) | none => (zV, false)) = _
  rw [hf]
  show (((srt l).map Prod.snd).getD k zV, true) = _
  rw [getD_lt (by simpa using hk)]
  simp [e]
theorem wf_map_keys (l : List PR) (hl : l.length ≤ 20) : (mapV l).1.keys.length ≤ reachBytes := by
  have h := srt_len l
  unfold mapV
  split
  · simp [zV, V.keys]
  · simp only [V.keys, List.length_map]; unfold reachBytes; omega
def Y11 (l : List PR) (a b : V) (e : Int) (i : Nat) : f11_p1_sh.den := f11_p1_y e l (l.length : Int) (i : Int) a.kind a.n a.s a.items a.keys b.kind b.n b.s b.items b.keys l
theorem loop11 (l : List PR) (hl : l.length ≤ 20) (hw : ∀ p ∈ l, p.1.length ≤ reachBytes ∧ WfV reachBytes p.2) (hb : ∀ p ∈ l, cnt p.2 ≤ 2100) (b : V) :
    go f11_p1_st (f11_p1_y (mapV l).2 l (l.length : Int) (0 : Int) (mapV l).1.kind (mapV l).1.n (mapV l).1.s (mapV l).1.items (mapV l).1.keys b.kind b.n b.s b.items b.keys l) = some (.inl (f11_p1_o0_y (mapV l).2 (mapV l).1.kind (mapV l).1.n (mapV l).1.s (mapV l).1.items (mapV l).1.keys b.kind b.n b.s b.items b.keys)) := by
  have e0 : f11_p1_y (mapV l).2 l (l.length : Int) (0 : Int) (mapV l).1.kind (mapV l).1.n (mapV l).1.s (mapV l).1.items (mapV l).1.keys b.kind b.n b.s b.items b.keys l = Y11 l (mapV l).1 b (mapV l).2 0 := rfl
  rw [e0]
  have hkl := wf_map_keys l hl
  refine go_seq (step := f11_p1_st) (y := Y11 l (mapV l).1 b (mapV l).2) (n := l.length) (fun i hi rec => ?_) (fun rec => ?_) (by rw [fuel_def]; omega)
  · unfold Y11
    have hti : Int.toNat (i : Int) = i := by omega
    have hn : IntKind.i64.wrap ((i : Int) + 1) = ((i + 1 : Nat) : Int) := nx (by omega)
    rw [f11_p1_eq, lt_t hi, cond_true, nth_lt hi, Option.bind_some, within_lt (by omega), hti, List.getElem?_eq_getElem hi, Option.bind_some, bne_self_eq_false, cond_false]
    have h32 : f32_F (((mapV l).1.kind, ((mapV l).1.n, ((mapV l).1.s, ((mapV l).1.items, ((mapV l).1.keys, ()))))), (l[i].1, ())) = _ := f32_ok' (mapV l).1 l[i].1 hkl
    rw [h32, Option.bind_some, f11_p0_eq]
    by_cases hnd : (keysOf l).Nodup
    · have hg := map_get hnd (List.getElem_mem hi)
      have hm2 : (mapV l).2 = 0 := by rw [map_nodup hnd]
      have q : ((mapV l).2 == 0) = true := by rw [hm2]; rfl
      have hs := same_self l[i].2 (by have := hb _ (List.getElem_mem hi); omega) (hw _ (List.getElem_mem hi)).2
      rw [q, cond_true, hg]
      show ((bif !true then _ else (f24_F ((l[i].2.kind, (l[i].2.n, (l[i].2.s, (l[i].2.items, (l[i].2.keys, ()))))), ((l[i].2.kind, (l[i].2.n, (l[i].2.s, (l[i].2.items, (l[i].2.keys, ()))))), ()))).bind _) : Option f11_p0_o0.den).bind _ = _
      have hs' : f24_F ((l[i].2.kind, (l[i].2.n, (l[i].2.s, (l[i].2.items, (l[i].2.keys, ()))))), ((l[i].2.kind, (l[i].2.n, (l[i].2.s, (l[i].2.items, (l[i].2.keys, ()))))), ())) = _ := hs
      rw [Bool.not_true, cond_false, hs', Option.bind_some, Option.bind_some, f11_p0_o0_x109_y]
      show (bif !true then _ else rec (f11_p1_y (mapV l).2 l (l.length : Int) (IntKind.i64.wrap ((i : Int) + 1)) (mapV l).1.kind (mapV l).1.n (mapV l).1.s (mapV l).1.items (mapV l).1.keys b.kind b.n b.s b.items b.keys l)) = _
      rw [Bool.not_true, cond_false, hn]
    · have hm2 : (mapV l).2 = 23 := by rw [map_dup hnd]
      have q : ((mapV l).2 == 0) = false := by rw [hm2]; rfl
      rw [q, cond_false, Option.bind_some, f11_p0_o0_x109_y, cond_false]
      show rec (f11_p1_y (mapV l).2 l (l.length : Int) (IntKind.i64.wrap ((i : Int) + 1)) (mapV l).1.kind (mapV l).1.n (mapV l).1.s (mapV l).1.items (mapV l).1.keys b.kind b.n b.s b.items b.keys l) = _
      rw [hn]
  · unfold Y11; rw [f11_p1_eq]; simp only [Int.lt_irrefl, decide_false, cond_false]
theorem p3_is (l : List PR) (hl : l.length ≤ 20) (hw : ∀ p ∈ l, p.1.length ≤ reachBytes ∧ WfV reachBytes p.2) (hb : ∀ p ∈ l, cnt p.2 ≤ 2100) :
    f11_p3_F (f11_p3_y l (mapV l).2 (mapV l).2 (mapV l).1.kind (mapV l).1.n (mapV l).1.s (mapV l).1.items (mapV l).1.keys (mapV l).1.kind (mapV l).1.n (mapV l).1.s (mapV l).1.items (mapV l).1.keys l) = some (f11_p3_o0_y true) := by
  rw [f11_p3_eq, f11_p2_eq, bne_self_eq_false, cond_false, f13_ok', Option.bind_some, Option.bind_some]
  try dsimp only
  rw [f11_p2_o0_x74_y, Bool.not_true, cond_false, f11_p2_o0_x10_y, f11_p2_o0_x0_y, f11_p2_o0_r0_0_y, f11_p2_o0_r0_1_y, f11_p2_o0_r0_2_y, f11_p2_o0_r0_3_y, f11_p2_o0_r0_4_y, f11_p2_o0_r1_0_y, f11_p2_o0_r1_1_y, f11_p2_o0_r1_2_y, f11_p2_o0_r1_3_y, f11_p2_o0_r1_4_y, f11_p2_o0_l1_y, loop11 l hl hw hb (mapV l).1, Option.bind_some]
  try dsimp only
  rw [f11_p1_o0_x10_y]
  by_cases he : (mapV l).2 = 0
  · have q : ((mapV l).2 != 0) = false := by simp [he]
    have hcn : cnt (mapV l).1 ≤ 90000 := by
      have h1 := (map_cnt he).1
      have h2 := cntL_bound (l := l.map Prod.snd) (fun v hv => by
        simp only [List.mem_map] at hv
        obtain ⟨p, hp, rfl⟩ := hv
        exact hb p hp)
      rw [List.length_map] at h2
      omega
    have hs := same_self (mapV l).1 hcn (map_wf hl hw)
    have hs' : f24_F (((mapV l).1.kind, ((mapV l).1.n, ((mapV l).1.s, ((mapV l).1.items, ((mapV l).1.keys, ()))))), (((mapV l).1.kind, ((mapV l).1.n, ((mapV l).1.s, ((mapV l).1.items, ((mapV l).1.keys, ()))))), ())) = _ := hs
    rw [q, cond_false, f11_p1_o0_r0_0_y, f11_p1_o0_r0_1_y, f11_p1_o0_r0_2_y, f11_p1_o0_r0_3_y, f11_p1_o0_r0_4_y, f11_p1_o0_r1_0_y, f11_p1_o0_r1_1_y, f11_p1_o0_r1_2_y, f11_p1_o0_r1_3_y, f11_p1_o0_r1_4_y, hs', Option.bind_some]
  · have q : ((mapV l).2 != 0) = true := by simpa using he
    rw [q, cond_true]
theorem loop4 (l : List PR) (hl : l.length ≤ 20) (x1 x5 : Int) (Q : Option (OutDen f11_p4_outs) → Prop) (h1 : Q (some (.inr (f11_p4_o1_y true)))) (h2 : (∀ p ∈ l, cnt p.2 ≤ 2100) → Q (some (.inl (f11_p4_o0_y x1 x5 l)))) :
    Q (go f11_p4_st (f11_p4_y x1 x5 (l.length : Int) (0 : Int) l)) := by
  have hst : ∀ i (hi : i < l.length) rec, f11_p4_st rec (f11_p4_y x1 x5 (l.length : Int) (i : Int) l) = if 2100 < cnt l[i].2 then some (.inr (f11_p4_o1_y true)) else rec (f11_p4_y x1 x5 (l.length : Int) ((i + 1 : Nat) : Int) l) := fun i hi rec => by
    have hv : (l[i].2.kind, (l[i].2.n, (l[i].2.s, (l[i].2.items, (l[i].2.keys, ()))))) = va l[i].2 := rfl
    have hti : Int.toNat (i : Int) = i := by omega
    rw [f11_p4_eq, lt_t hi, cond_true, within_lt (by omega), hti, List.getElem?_eq_getElem hi, Option.bind_some, hv, f12_va, Option.bind_some, nx (by omega)]
    try dsimp only
    by_cases hb : 2100 < cnt l[i].2
    · rw [decide_eq_true hb, cond_true, if_pos hb, f13_ok', Option.bind_some]
    · rw [decide_eq_false hb, cond_false, if_neg hb]
  rcases first_bad (fun p : PR => cnt p.2 ≤ 2100) l with hall | ⟨k, hk, hb, hlt⟩
  · refine go_q (step := f11_p4_st) l.length (fun i => f11_p4_y x1 x5 (l.length : Int) (i : Int) l) Q (fun i hi => .inl fun rec => ?_) ⟨_, h2 hall, fun rec => ?_⟩ (by rw [fuel_def]; omega)
    · have := hall _ (List.getElem_mem hi)
      rw [hst i hi, if_neg (by omega)]
    · rw [f11_p4_eq]; simp only [Int.lt_irrefl, decide_false, cond_false]
  · refine go_q (step := f11_p4_st) k (fun i => f11_p4_y x1 x5 (l.length : Int) (i : Int) l) Q (fun i hi => .inl fun rec => ?_) ⟨_, h1, fun rec => ?_⟩ (by rw [fuel_def]; omega)
    · have := hlt i hi
      rw [hst i (by omega), if_neg (by omega)]
    · rw [hst k hk, if_pos (by omega)]
theorem turn_nat (a : Int) (n : Nat) (h0 : 0 < n) (hn : n ≤ 20) : ∃ k : Nat, k ≤ n ∧ Int.tmod (IntKind.i64.wrap ((Int.tmod a (n : Int)) + (n : Int))) (n : Int) = (k : Int) := by
  have hpos : (0 : Int) < (n : Int) := by omega
  have h1 := Int.tmod_lt_of_pos a hpos
  have h2 := Int.lt_tmod_of_pos a hpos
  rw [wrap64 (by omega) (by omega)]
  have h3 := Int.tmod_lt_of_pos (Int.tmod a n + n) hpos
  have h4 : 0 ≤ Int.tmod (Int.tmod a n + n) n := Int.tmod_nonneg _ (by omega)
  exact ⟨(Int.tmod (Int.tmod a n + n) n).toNat, by omega, by omega⟩
theorem lawKeeps (a0 : List PR) (a1 : Int) (ha : Wf reachBytes (.list (.prod .str .value)) a0) (_ : Wf reachBytes (.int .i64) a1) : f11_F (a0, (a1, ())) = some (true, ()) := by
  have e20 : minI (a0.length : Int) (20 : Int) = ((min a0.length 20 : Nat) : Int) := minI_nat a0.length 20
  rw [f11_eq, e20, cutHi_nat' _ _ _ (Nat.min_le_left _ _)]
  have hl : (a0.take (min a0.length 20)).length ≤ 20 := by simp; omega
  have hw : ∀ p ∈ a0.take (min a0.length 20), p.1.length ≤ reachBytes ∧ WfV reachBytes p.2 := fun p hp => ha.2 p (List.mem_of_mem_take hp)
  generalize a0.take (min a0.length 20) = l at *
  rw [List.nil_append, appOk_lt (by simp; omega)]
  by_cases h0 : l.length = 0
  · have q : ((l.length : Int) == 0) = true := by rw [beq_iff_eq]; omega
    rw [q, cond_true, f13_ok', Option.bind_some]
  have q : ((l.length : Int) == 0) = false := by rw [beq_eq_false_iff_ne]; omega
  rw [q, cond_false]
  refine loop4 l hl a1 (l.length : Int) (fun r => r.bind _ = _) ?_ fun hb => ?_
  · rfl
  · rw [Option.bind_some]
    try dsimp only
    obtain ⟨k, hk, ek⟩ := turn_nat a1 l.length (by omega) hl
    have hne : ¬ ((l.length : Int) = 0) := by omega
    rw [f11_p4_o0_l0_y, f11_p4_o0_x5_y, f11_p4_o0_x1_y, List.nil_append, appOk_lt (by simp; omega), if_neg hne, if_neg hne, f31_ok' l (by omega), Option.bind_some, ek, cutLo_nat' _ _ _ hk, List.nil_append, appOk_lt (by simp; omega), cutHi_nat' _ _ _ hk, appOk_lt (by simp; omega)]
    have hrot : (l.drop k ++ l.take k).Perm l := (List.perm_append_comm).trans (by rw [List.take_append_drop])
    rw [f31_ok' (l.drop k ++ l.take k) (by simp; omega), Option.bind_some, map_perm hrot]
    have h3 := p3_is l hl hw hb
    try dsimp only
    rw [h3, Option.bind_some, f11_p3_o0_x4_y]
end Go.Pe.Tryd
end
section
set_option linter.unusedSectionVars false
set_option linter.unusedVariables false
set_option linter.unusedSimpArgs false
namespace Go.Pe.Tryd
open Go.Proofs Go.RowKit
variable {H : Type} {enc : TypeId × Value → H}
/-- A row's contract is handed both: what its condition says, and the world's shape. -/
theorem returns_both {a : Assume} {C : Checked} {os : Os} {f : FuncId} {fn : Func} {s : ChangeSpec} {conds : List PathCond} {apart fresh handsOn again : Bool} {X : World → Array Value → Prop}
    (hX : ∀ (w w' : World) (args : Array Value), w.heap = w'.heap → X w args → X w' args)
    (own : ownKnob C.prog.godebug = none) (started : os.Started) (noInit : C.prog.inits.idxOf? f = none) (hfn : C.prog.funcs[f]? = some fn)
    (witness : ∃ (w : World) (tape : Tape) (i : Input), w.os = os ∧ (w.forCall tape i).Shaped C.prog ∧ i.vars = [] ∧ Input.okWide C.prog (w.forCall tape i) .any w.heap.size f i ∧
      ((s.pre enc C.prog fn conds apart (w.forCall tape i).memory i.args ∧ X (w.forCall tape i).memory i.args) ∧ sizedMet enc C.prog fn (OpenSpec.ofChange s) apart (w.forCall tape i).memory i.args) ∧ a.holds C.prog (lone (Frame.enter C.prog f i.args .normal) [] (w.forCall tape i)))
    (contract : ∀ (W : World) (base : Nat) (args : Array Value) (ds gs : List (DataW H)) (before : List MemPlace),
      (∀ (j : Nat) t v, fn.params[j]? = some t → args[j]? = some v → Value.okWide C.prog W .any base t v) →
      DataW.Whole enc C.prog fn.params.toList s.vars apart W args.toList ds gs before →
      conds.all (PathCond.test C.prog ⟨fn.params.toList, ds, s.plain.varTypes C.prog, gs⟩) = true →
      (DataW.weightsEach C.prog (fn.params.toList ++ s.plain.varTypes C.prog) (ds ++ gs)).all (· ≤ reachBytes) = true → X W args → W.ShapedOpen C.prog →
      a.holds C.prog (lone (Frame.enter C.prog f args .normal) [] W) →
      Calls C.prog f args W fun e W' => ∃ v, e = .returned v ∧ s.post enc C.prog fn apart fresh handsOn again W args v W') :
    ReturnsInHanded a C os f .any (fun w args => (s.pre enc C.prog fn conds apart w args ∧ X w args) ∧ sizedMet enc C.prog fn (OpenSpec.ofChange s) apart w args) (s.post enc C.prog fn apart fresh handsOn again) := by
  refine returnsInHanded_of_calls own started noInit witness ?_
  intro w tape i _ hsh _ hok hpre hholds
  obtain ⟨_, _, _, fn', hfn', _, _, _, _, hval⟩ := hok
  have e : fn' = fn := Option.some.inj (hfn'.symm.trans hfn)
  subst e
  obtain ⟨⟨⟨ds, gs, before, hw, hc⟩, hx⟩, hz⟩ := hpre
  have hw' := DataW.Whole.of_heap (w' := w.forCall tape i) (by rfl) hw
  refine (contract (w.forCall tape i) w.heap.size i.args ds gs before hval hw' hc (hz.weights hw) (hX _ _ _ (by rfl) hx) hsh hholds).mono fun e W' ⟨v, he, hp⟩ => ?_
  subst he
  exact ChangeSpec.post_blind hp
theorem tab_of_reads {w : World} (h : Lib.VarReads Tryd.prog w "internal/strconv.uint64pow10" (Lib.tabData .u64 Lib.pow10Tab)) : Lib.TabIs Tryd.prog w "internal/strconv.uint64pow10" .u64 Lib.pow10Tab := by
  obtain ⟨g', t', cs, fuel, p, hg', ht', hvar, hd⟩ := h
  obtain rfl := Option.some.inj ((show Tryd.prog.globalNamed "internal/strconv.uint64pow10" = some 1 by kernel_rfl).symm.trans hg')
  obtain rfl := Option.some.inj ((show (Tryd.prog.globals[1]?).map (·.type) = some 129 by kernel_rfl).symm.trans ht')
  unfold Lib.TabIs
  rw [hvar, ← Lib.cells_of_tab (n := 20) (e := 104) (show Tryd.prog.underlying 129 = some (.array 20 104) by kernel_rfl) (show Tryd.prog.underlying 104 = some (.int .u64) by kernel_rfl) (by kernel_rfl) (by kernel_rfl) hd]
theorem inv_of {w : World} {l : List (String × DataW Unit)} (hn : (l.all fun x => x.2.handleName?.isNone) = true) (hL : laidMetH Tryd.prog l w) (hm : ("internal/strconv.uint64pow10", (Lib.tabData .u64 Lib.pow10Tab : DataW Unit)) ∈ l) (hs : w.ShapedOpen Tryd.prog) : Inv w := by
  rw [MakeChecks.laidMetH_plain _ _ _ hn] at hL
  exact ⟨cell_of_shapedOpen_int (P := Tryd.prog) (g := 0) (t := 3) (zero := #[.int .i64 0]) hs (of_decide_eq_true (by kernel_rfl)) (by kernel_rfl) rfl (by kernel_rfl) (by kernel_rfl) (by kernel_rfl), tab_of_reads (Lib.laidMet.reads hL hm)⟩
end Go.Pe.Tryd
end
