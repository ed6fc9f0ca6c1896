/- Arguments of all kinds, as they are read: closed data of their kinds, in range. -/
import Derived.Test.YtgghmllnhaahgaaPeOpen
import Derived.SizedLaws
import Derived.WideShapes
namespace Go.Pe
open Go.RowKit Go.ChangeShapes Go.WideShapes
set_option linter.unusedSectionVars false
variable [GI]

/-- A value within sizes. -/
inductive WfV (N : Nat) : V → Prop
  | mk (kind n : Int) (s : List UInt8) (items : List V) (keys : List (List UInt8)) (hk : (Lit.int .i64 kind).wf = true) (hn : (Lit.int .i64 n).wf = true) (hs : s.length ≤ N) (hi : items.length ≤ N) (hks : keys.length ≤ N)
      (hit : ∀ i (h : i < items.length), WfV N items[i]) (hkl : ∀ k ∈ keys, k.length ≤ N) : WfV N (.mk kind n s items keys)
/-- Data within sizes. -/
def Wf (N : Nat) : (t : Ty) → t.den → Prop
  | .bool, _ => True
  | .int k, n => (Lit.int k n).wf = true
  | .str, s => s.length ≤ N
  | .list e, xs => xs.length ≤ N ∧ ∀ x ∈ xs, Wf N e x
  | .unit, _ => True
  | .prod a b, x => Wf N a x.1 ∧ Wf N b x.2
  | .value, x => WfV N x

def layTys (P : Program) (f : Nat → Option Ty) (total : Nat) : Nat → List (Nat × Nat) → Option Ty
  | off, [] => if off = total then some .unit else none
  | off, [(t, o)] => if o = off ∧ off + P.cellsOf t = total then (f t).bind fun a => if a.size = P.cellsOf t then some a else none else none
  | off, (t, o) :: r => if o = off then (f t).bind fun a => if a.size = P.cellsOf t then (layTys P f total (off + P.cellsOf t) r).bind fun b => some (.prod a b) else none else none
def isInt64 (P : Program) (t : Nat) : Bool := match P.underlying t with | some (.int .i64) => true | _ => false
def isString (P : Program) (t : Nat) : Bool := match P.underlying t with | some .string => true | _ => false
def sliceEl (P : Program) (t : Nat) : Option Nat := match P.underlying t with | some (.slice e) => some e | _ => none
def vtOk (P : Program) (vt : Nat) : Bool :=
  match P.underlying vt with
  | some (.struct fs) => (match fs.toList.map fun f => (f.type, f.offset) with
    | [(t1, 0), (t2, 1), (t3, 2), (t4, 3), (t5, 4)] => isInt64 P t1 && isInt64 P t2 && isString P t3 && (match sliceEl P t4 with | some e => Nat.beq e vt | none => false) && (match sliceEl P t5 with | some e => isString P e && Nat.beq (P.cellsOf e) 1 && Nat.ble 1 (P.bytesOf e) | none => false) &&
      Nat.beq (P.cellsOf t1) 1 && Nat.beq (P.cellsOf t2) 1 && Nat.beq (P.cellsOf t3) 1 && Nat.beq (P.cellsOf t4) 1 && Nat.beq (P.cellsOf t5) 1 && Nat.beq (P.cellsOf vt) 5 && Nat.ble 1 (P.bytesOf vt)
    | _ => false)
  | _ => false
/-- A type's kind, if its cells lie one behind the other. -/
def lay (P : Program) (vt : Nat) : Nat → Nat → Option Ty
  | 0, _ => none
  | n + 1, t => if t = vt then (if vtOk P vt = true then some .value else none) else match P.underlying t with
    | some .bool => some .bool
    | some (.int k) => some (.int k)
    | some .string => some .str
    | some (.slice e) => if 1 ≤ P.bytesOf e ∧ 1 ≤ P.cellsOf e then (lay P vt n e).bind fun ty => if ty.size = P.cellsOf e then some (.list ty) else none else none
    | some (.struct fs) => layTys P (lay P vt n) (P.cellsOf t) 0 (fs.toList.map fun f => (f.type, f.offset))
    | _ => none

section
variable {H : Type} {enc : TypeId × Value → H} {P : Program} {w : World} {base : Nat} {spare : Nat → Bool} {held : Bool} {N vt : Nat}

theorem rows_of {α : Type} {R : α → List Value → Prop} {W : α → Prop} {sz blk : Nat} : ∀ (len off : Nat), (∀ i, i < len → ∃ x c, R x c ∧ W x ∧ c.length = sz ∧ ∀ j, j < sz → w.cell? ⟨blk, off + i * sz + j, none⟩ = c[j]?) →
    ∃ (xs : List α) (us : List Value), xs.length = len ∧ (∀ x ∈ xs, W x) ∧ us.length = len * sz ∧ CellsAt w ⟨blk, off, none⟩ us ∧ RepAll R xs us
  | 0, off, _ => ⟨[], [], rfl, by simp, by simp, fun j hj => by simp at hj, rfl⟩
  | len + 1, off, h => by
    obtain ⟨x, c, h1, h2, h3, h4⟩ := h 0 (by omega)
    obtain ⟨xs, us, g1, g2, g3, g4, g5⟩ := rows_of len (off + sz) fun i hi => by
      obtain ⟨x, c, h1, h2, h3, h4⟩ := h (i + 1) (by omega)
      refine ⟨x, c, h1, h2, h3, fun j hj => ?_⟩
      rw [← h4 j hj, show off + sz + i * sz + j = off + (i + 1) * sz + j by rw [Nat.succ_mul]; omega]
    refine ⟨x :: xs, c ++ us, by simp [g1], by simpa using ⟨h2, g2⟩, by simp [g3, h3, Nat.succ_mul]; omega, fun j hj => ?_, c, us, rfl, h1, g5⟩
    simp only [List.length_append] at hj
    rcases Nat.lt_or_ge j sz with hl | hl
    · rw [List.getElem?_append_left (by omega), ← h4 j hl]; simp
    · rw [List.getElem?_append_right (by omega)]
      have := g4 (j - c.length) (by omega)
      simp only at this
      rw [← this, show off + sz + (j - c.length) = off + j by omega]

theorem slice_rep {ty : Ty} {e t fuel : Nat} {cs : List Value} {d : DataW H} {ps : List MemPlace} (ht : P.underlying t = some (.slice e)) (hb : 1 ≤ P.bytesOf e) (hc : 1 ≤ P.cellsOf e) (hsz : ty.size = P.cellsOf e)
    (ih : ∀ m, m < fuel → ∀ (cs : List Value) (d : DataW H) (ps : List MemPlace), DataW.trod enc P w base spare held m e cs = some (d, ps) → (∀ m ∈ d.weights P e, m ≤ N) → ∃ x, Rep (All w) w ty x cs ∧ Wf N ty x)
    (h : DataW.trod enc P w base spare held fuel t cs = some (d, ps)) (hw : ∀ m ∈ d.weights P t, m ≤ N) : ∃ x, Rep (All w) w (.list ty) x cs ∧ Wf N (.list ty) x := by
  rcases DataW.trod_slice ht h with ⟨rfl, hx⟩ | ⟨a, len, cap, elems, rest, n, hf, rfl, hx, _, hlc, _, hel, hat, _, _⟩
  · exact ⟨[], ⟨_, rfl, none, 0, rfl, Nat.le_refl _, .inl rfl⟩, by simp [Wf]⟩
  · have hd : d = .slice (elems.map (·.1)) (rest.map (·.1)) := congrArg Prod.fst hx
    subst hd
    simp only [DataW.weights, ht, List.mem_cons, List.mem_append] at hw
    have hlen : len ≤ N := by
      have := hw _ (.inl rfl)
      have h2 : len * 1 ≤ (elems.length + rest.length) * P.bytesOf e := Nat.mul_le_mul (by omega) hb
      simp only [List.length_map] at this
      omega
    have key : ∀ i, i < len → ∃ x c, Rep (All w) w ty x c ∧ Wf N ty x ∧ c.length = P.cellsOf e ∧ ∀ j, j < P.cellsOf e → w.cell? ((a.add (i * P.cellsOf e)).add j) = c[j]? := by
      intro i hi
      have h1 := hat i hi
      rw [List.getElem?_eq_getElem (by omega), Option.bind_eq_some_iff] at h1
      obtain ⟨c, hc1, hc2⟩ := h1
      obtain ⟨_, hc3, hc4⟩ := World.cells?_some hc1
      obtain ⟨x, hx1, hx2⟩ := ih n (by omega) c (elems[i]).1 (elems[i]).2 hc2 fun m hm => hw m (.inr (.inl (by
        have : ∀ (l : List (DataW H)) (d : DataW H), d ∈ l → m ∈ d.weights P e → m ∈ DataW.weightsAll P e l := by
          intro l; induction l with
          | nil => intro d hd; simp at hd
          | cons y l ih => intro d hd hm; simp only [DataW.weightsAll, List.mem_append]; exact (List.mem_cons.1 hd).elim (fun e => .inl (e ▸ hm)) (fun hd => .inr (ih d hd hm))
        exact this _ _ (List.mem_map_of_mem (List.getElem_mem (l := elems) (by omega))) hm)))
      exact ⟨x, c, hx1, hx2, hc3, hc4⟩
    rcases Nat.eq_zero_or_pos len with h0 | h0
    · subst h0
      exact ⟨[], ⟨_, rfl, some a, cap, rfl, by simp, .inl rfl⟩, by simp [Wf]⟩
    · obtain ⟨x, c, _, _, hcl, hcc⟩ := key 0 h0
      have h00 := hcc 0 (by omega)
      rw [List.getElem?_eq_getElem (by omega)] at h00
      have ha : a.block < w.heap.size ∧ a.spot = none := by
        have h1 : (a.add (0 * P.cellsOf e)).add 0 = a := by simp [Addr.add]
        rw [h1] at h00
        exact cell_lt h00
      obtain ⟨xs, us, g1, g2, g3, g4, g5⟩ := rows_of (w := w) (R := Rep (All w) w ty) (W := Wf N ty) (sz := P.cellsOf e) (blk := a.block) len a.off fun i hi => by
        obtain ⟨x, c, h1, h2, h3, h4⟩ := key i hi
        refine ⟨x, c, h1, h2, h3, fun j hj => ?_⟩
        rw [← h4 j hj, add_spot ha.2, add_spot rfl]
      refine ⟨xs, ⟨_, rfl, some a, cap, by rw [g1], by omega, .inr ⟨a, us, rfl, ha.2, ha.1, ?_, g5⟩⟩, ?_⟩
      · intro j hj
        exact g4 j hj
      · simp only [Wf]; exact ⟨by omega, g2⟩

theorem mem_each : ∀ {ts : List TypeId} {ds : List (DataW H)} {t d} {m : Nat}, m ∈ DataW.weights P t d → m ∈ DataW.weightsEach P (t :: ts) (d :: ds) := by
  intro ts ds t d m h
  simp only [DataW.weightsEach, List.mem_append]; exact .inl h
theorem mem_each' : ∀ {ts : List TypeId} {ds : List (DataW H)} {t d} {m : Nat}, m ∈ DataW.weightsEach P ts ds → m ∈ DataW.weightsEach P (t :: ts) (d :: ds) := by
  intro ts ds t d m h
  simp only [DataW.weightsEach, List.mem_append]; exact .inr h

theorem fields_rep {f : Nat → Option Ty} {fuel total : Nat} {cs : List Value} (hlen : cs.length = total)
    (ih : ∀ t ty (cs : List Value) (d : DataW H) (ps : List MemPlace), f t = some ty → DataW.trod enc P w base spare held fuel t cs = some (d, ps) → (∀ m ∈ d.weights P t, m ≤ N) → ∃ x, Rep (All w) w ty x cs ∧ Wf N ty x) :
    ∀ (fs : List Field) (off : Nat) (ty : Ty) (xs : List (DataW H × List MemPlace)), layTys P f total off (fs.map fun f => (f.type, f.offset)) = some ty →
      (fs.mapM fun f => DataW.trod enc P w base spare held fuel f.type ((cs.drop f.offset).take (P.cellsOf f.type))) = some xs →
      (∀ m ∈ DataW.weightsEach P (fs.map (·.type)) (xs.map (·.1)), m ≤ N) → ∃ x, Rep (All w) w ty x (cs.drop off) ∧ Wf N ty x
  | [], off, ty, xs, hl, hm, hw => by
    simp only [List.map_nil, layTys] at hl
    split at hl
    · rename_i ho; cases hl
      exact ⟨(), by simp only [Rep]; exact List.drop_of_length_le (by omega), trivial⟩
    · cases hl
  | [fd], off, ty, xs, hl, hm, hw => by
    simp only [List.map_cons, List.map_nil, layTys] at hl
    split at hl
    · rename_i ho
      simp only [Option.bind_eq_some_iff] at hl
      obtain ⟨a, ha, hl⟩ := hl
      split at hl
      · rename_i hs; cases hl
        simp only [List.mapM_cons, List.mapM_nil, Option.pure_def, Option.bind_eq_bind, Option.bind_eq_some_iff, Option.some.injEq] at hm
        obtain ⟨y, hy, ys, rfl, rfl⟩ := hm
        obtain ⟨x, h1, h2⟩ := ih fd.type _ _ y.1 y.2 ha hy fun m hm => hw m (by simpa [DataW.weightsEach] using hm)
        refine ⟨x, ?_, h2⟩
        rw [ho.1] at h1
        rwa [List.take_of_length_le (by rw [List.length_drop]; omega)] at h1
      · cases hl
    · cases hl
  | fd :: fd2 :: fs, off, ty, xs, hl, hm, hw => by
    simp only [List.map_cons, layTys] at hl
    split at hl
    · rename_i ho
      simp only [Option.bind_eq_some_iff] at hl
      obtain ⟨a, ha, hl⟩ := hl
      split at hl
      · rename_i hs
        simp only [Option.bind_eq_some_iff, Option.some.injEq] at hl
        obtain ⟨b, hb, rfl⟩ := hl
        rw [List.mapM_cons] at hm
        simp only [Option.pure_def, Option.bind_eq_bind, Option.bind_eq_some_iff, Option.some.injEq] at hm
        obtain ⟨y, hy, ys, hys, rfl⟩ := hm
        obtain ⟨x, h1, h2⟩ := ih fd.type _ _ y.1 y.2 ha hy fun m hm => hw m (by simp only [List.map_cons]; exact mem_each hm)
        obtain ⟨x', h3, h4⟩ := fields_rep hlen ih (fd2 :: fs) (off + P.cellsOf fd.type) b ys (by simpa only [List.map_cons] using hb) hys fun m hm => hw m (by simp only [List.map_cons] at hm ⊢; exact mem_each' hm)
        refine ⟨(x, x'), ⟨_, _, ?_, h1, h3⟩, h2, h4⟩
        rw [ho, ← List.drop_drop, List.take_append_drop]
      · cases hl
    · cases hl

theorem trod_bool {t fuel : Nat} {cs : List Value} {d : DataW H} {ps} (ht : P.underlying t = some .bool) (h : DataW.trod enc P w base spare held fuel t cs = some (d, ps)) : ∃ b, cs = [.bool b] := by
  cases fuel with
  | zero => simp [DataW.trod] at h
  | succ n => unfold DataW.trod at h; rw [ht] at h; split at h <;> simp_all
theorem trod_int {t fuel : Nat} {cs : List Value} {d : DataW H} {ps} {k} (ht : P.underlying t = some (.int k)) (h : DataW.trod enc P w base spare held fuel t cs = some (d, ps)) : ∃ n, cs = [.int k n] ∧ (Lit.int k n).wf = true := by
  cases fuel with
  | zero => simp [DataW.trod] at h
  | succ n => unfold DataW.trod at h; rw [ht] at h; split at h <;> simp_all
theorem trod_str {t fuel : Nat} {cs : List Value} {d : DataW H} {ps} (ht : P.underlying t = some .string) (h : DataW.trod enc P w base spare held fuel t cs = some (d, ps)) : ∃ s : ByteArray, cs = [.string s] ∧ d = .lit (.string s.data.toList) := by
  cases fuel with
  | zero => simp [DataW.trod] at h
  | succ n => unfold DataW.trod at h; rw [ht] at h; split at h <;> simp_all
theorem trod_struct {t fuel : Nat} {cs : List Value} {d : DataW H} {ps} {fs : Array Field} (ht : P.underlying t = some (.struct fs)) (h : DataW.trod enc P w base spare held fuel t cs = some (d, ps)) :
    ∃ n xs, fuel = n + 1 ∧ cs.length = P.cellsOf t ∧ (fs.toList.mapM fun f => DataW.trod enc P w base spare held n f.type ((cs.drop f.offset).take (P.cellsOf f.type))) = some xs ∧ d = .agg (xs.map (·.1)) := by
  cases fuel with
  | zero => simp [DataW.trod] at h
  | succ n =>
    unfold DataW.trod at h
    rw [ht] at h
    simp only at h
    split at h
    · rename_i hc
      simp only [Option.map_eq_some_iff] at h
      obtain ⟨xs, hx, he⟩ := h
      exact ⟨n, xs, rfl, hc, hx, (congrArg Prod.fst he).symm⟩
    · cases h

theorem str_rep {t fuel : Nat} {cs : List Value} {d : DataW H} {ps} (ht : P.underlying t = some .string) (h : DataW.trod enc P w base spare held fuel t cs = some (d, ps)) (hw : ∀ m ∈ d.weights P t, m ≤ N) : ∃ x, Rep (All w) w .str x cs ∧ Wf N .str x := by
  obtain ⟨s, rfl, rfl⟩ := trod_str ht h
  exact ⟨s.data.toList, by simp [Rep], hw _ (by simp [DataW.weights])⟩

theorem beq_imp {a b : Nat} (h : Nat.beq a b = true) : a = b := Nat.eq_of_beq_eq_true h
theorem value_rep (hv : vtOk P vt = true) : ∀ (fuel : Nat) (cs : List Value) (d : DataW H) (ps : List MemPlace), DataW.trod enc P w base spare held fuel vt cs = some (d, ps) → (∀ m ∈ d.weights P vt, m ≤ N) →
    ∃ x, Rep (All w) w .value x cs ∧ Wf N .value x := by
  intro fuel
  induction fuel using Nat.strongRecOn with
  | _ fuel IH =>
  intro cs d ps h hw
  unfold vtOk at hv
  split at hv
  · rename_i fs hfs
    split at hv
    · rename_i t1 t2 t3 t4 t5 hl
      simp only [Bool.and_eq_true] at hv
      obtain ⟨⟨⟨⟨⟨⟨⟨⟨⟨⟨⟨v1, v2⟩, v3⟩, v4⟩, v5⟩, c1⟩, c2⟩, c3⟩, c4⟩, c5⟩, c6⟩, c7⟩ := hv
      have c1 := beq_imp c1; have c2 := beq_imp c2; have c3 := beq_imp c3; have c4 := beq_imp c4; have c5 := beq_imp c5; have c6 := beq_imp c6
      have c7 := Nat.le_of_ble_eq_true c7
      have u1 : P.underlying t1 = some (.int .i64) := by unfold isInt64 at v1; split at v1; assumption; cases v1
      have u2 : P.underlying t2 = some (.int .i64) := by unfold isInt64 at v2; split at v2; assumption; cases v2
      have u3 : P.underlying t3 = some .string := by unfold isString at v3; split at v3; assumption; cases v3
      have u4 : P.underlying t4 = some (.slice vt) := by
        unfold sliceEl at v4
        split at v4
        · rename_i e he
          split at he
          · rename_i e' hu; cases he; rw [hu, beq_imp v4]
          · cases he
        · cases v4
      obtain ⟨ts, u5, u6, c8, c9⟩ : ∃ ts, P.underlying t5 = some (.slice ts) ∧ P.underlying ts = some .string ∧ P.cellsOf ts = 1 ∧ 1 ≤ P.bytesOf ts := by
        unfold sliceEl at v5
        split at v5
        · rename_i e he
          split at he
          · rename_i e' hu; cases he
            simp only [Bool.and_eq_true] at v5
            refine ⟨e, hu, ?_, beq_imp v5.1.2, Nat.le_of_ble_eq_true v5.2⟩
            have v6 := v5.1.1
            unfold isString at v6; split at v6
            · assumption
            · cases v6
          · cases he
        · cases v5
      obtain ⟨n, xs, rfl, hlen, hm, rfl⟩ := trod_struct hfs h
      rcases fs with ⟨fl⟩
      have hl' : fl.map (fun f => (f.type, f.offset)) = [(t1, 0), (t2, 1), (t3, 2), (t4, 3), (t5, 4)] := hl
      rcases fl with _ | ⟨f1, _ | ⟨f2, _ | ⟨f3, _ | ⟨f4, _ | ⟨f5, _ | ⟨f6, fl⟩⟩⟩⟩⟩⟩ <;> simp only [List.map_cons, List.map_nil, List.cons.injEq, Prod.mk.injEq, reduceCtorEq, and_false, List.nil_eq, and_true] at hl'
      obtain ⟨⟨e1, o1⟩, ⟨e2, o2⟩, ⟨e3, o3⟩, ⟨e4, o4⟩, e5, o5⟩ := hl'
      simp only [List.mapM_cons, List.mapM_nil, Option.pure_def, Option.bind_eq_bind, Option.bind_eq_some_iff, Option.some.injEq, e1, e2, e3, e4, e5, o1, o2, o3, o4, o5, c1, c2, c3, c4, c5] at hm
      obtain ⟨y1, h1, z1, ⟨y2, h2, z2, ⟨y3, h3, z3, ⟨y4, h4, z4, ⟨y5, h5, z5, rfl, rfl⟩, rfl⟩, rfl⟩, rfl⟩, rfl⟩ := hm
      have hw' : ∀ m ∈ DataW.weightsEach P [t1, t2, t3, t4, t5] [y1.1, y2.1, y3.1, y4.1, y5.1], m ≤ N := by
        intro m hm
        apply hw
        simp only [DataW.weights, hfs]
        simpa [e1, e2, e3, e4, e5] using hm
      rw [c6] at hlen
      rcases cs with _ | ⟨a1, _ | ⟨a2, _ | ⟨a3, _ | ⟨a4, _ | ⟨a5, _ | ⟨a6, cs⟩⟩⟩⟩⟩⟩ <;> simp only [List.length_cons, List.length_nil] at hlen <;> try omega
      simp only [List.drop_succ_cons, List.drop_zero, List.take_succ_cons, List.take_zero] at h1 h2 h3 h4 h5
      obtain ⟨n1, q1, w1⟩ := trod_int u1 h1
      obtain ⟨n2, q2, w2⟩ := trod_int u2 h2
      obtain ⟨x3, r3, w3⟩ := str_rep (N := N) u3 h3 fun m hm => hw' m (by simp only [DataW.weightsEach, List.mem_append]; exact .inr (.inr (.inl hm)))
      obtain ⟨x4, r4, w4⟩ := slice_rep (N := N) (ty := .value) u4 c7 (by omega) (by rw [c6]; rfl) (fun m hm cs d ps h hw => IH m (by omega) cs d ps h hw) h4 fun m hm => hw' m (by simp only [DataW.weightsEach, List.mem_append]; exact .inr (.inr (.inr (.inl hm))))
      obtain ⟨x5, r5, w5⟩ := slice_rep (N := N) (ty := .str) u5 c9 (by omega) (by rw [c8]; rfl) (fun m hm cs d ps h hw => str_rep u6 h hw) h5 fun m hm => hw' m (by simp only [DataW.weightsEach, List.mem_append]; exact .inr (.inr (.inr (.inr (.inl hm)))))
      simp only [List.cons.injEq, and_true] at q1 q2
      subst q1; subst q2
      simp only [Rep, List.cons.injEq, and_true] at r3
      subst r3
      obtain ⟨v4', e4', a, cap, rfl, hcap, hmem⟩ := r4
      simp only [List.cons.injEq, and_true] at e4'
      subst e4'
      obtain ⟨v5', e5', hs5⟩ := r5
      simp only [List.cons.injEq, and_true] at e5'
      subst e5'
      have w4' : x4.length ≤ N ∧ ∀ x ∈ x4, WfV N x := by simpa only [Wf] using w4
      have w5' : x5.length ≤ N ∧ ∀ x ∈ x5, x.length ≤ N := by simpa only [Wf] using w5
      refine ⟨.mk n1 n2 x3 x4 x5, ?_, ?_⟩
      · simp only [Rep]
        have hs5' : SliceRep (All w) w (fun k vs => vs = [Value.string ⟨k.toArray⟩]) x5 a5 := by
          refine hs5.imp (fun _ h => h) (fun _ _ => rfl) fun x u h => by simpa only [Rep] using h
        rcases hmem with rfl | ⟨ad, us, rfl, hsp, hA, hcells, hall⟩
        · exact .mk n1 n2 x3 [] x5 a cap a5 (fun _ => []) hcap (.inl rfl) (fun i h => by simp at h) hs5'
        · have hsz : ∀ (x : V) (u : List Value), Rep (All w) w .value x u → u.length = 5 := fun x u h => RepV.length h
          have hul : us.length = x4.length * 5 := RepAll.length (sz := 5) hsz hall
          refine .mk n1 n2 x3 x4 x5 (some ad) cap a5 (fun i => (us.drop (i * 5)).take 5) hcap (.inr ⟨ad, rfl, hsp, hA, fun i hi => ⟨by simp [hul]; omega, fun j hj => ?_⟩⟩) (fun i hi => ?_) hs5'
          · rw [List.getElem?_take_of_lt hj, List.getElem?_drop]
            exact hcells (i * 5 + j) (by omega)
          · obtain ⟨p, u, q, he, hp, hr⟩ := RepAll.get (sz := 5) hsz i x4[i] hall (List.getElem?_eq_getElem hi)
            have hu := hsz _ _ hr
            rw [he, List.drop_append_of_le_length (by omega), List.drop_of_length_le (l := p) (by omega), List.nil_append, List.take_append_of_le_length (by omega), List.take_of_length_le (by omega)]
            simpa only [Rep] using hr
      · simp only [Wf]
        exact .mk _ _ _ _ _ w1 w2 w3 w4'.1 w5'.1 (fun i hi => w4'.2 _ (List.getElem_mem hi)) w5'.2
    · cases hv
  · cases hv

/-- Whatever its type. -/
theorem trod_rep : ∀ (fuel n t : Nat) (ty : Ty) (cs : List Value) (d : DataW H) (ps : List MemPlace), lay P vt n t = some ty → DataW.trod enc P w base spare held fuel t cs = some (d, ps) → (∀ m ∈ d.weights P t, m ≤ N) →
    ∃ x, Rep (All w) w ty x cs ∧ Wf N ty x := by
  intro fuel
  induction fuel using Nat.strongRecOn with
  | _ fuel IH =>
  intro n t ty cs d ps hl h hw
  cases n with
  | zero => simp [lay] at hl
  | succ n =>
    unfold lay at hl
    split at hl
    · rename_i e; subst e
      split at hl
      · rename_i hv; cases hl; exact value_rep hv fuel cs d ps h hw
      · cases hl
    · split at hl
      · rename_i ht; cases hl
        obtain ⟨b, rfl⟩ := trod_bool ht h
        exact ⟨b, rfl, trivial⟩
      · rename_i k ht; cases hl
        obtain ⟨m, rfl, h1⟩ := trod_int ht h
        exact ⟨m, rfl, h1⟩
      · rename_i ht; cases hl
        exact str_rep ht h hw
      · rename_i e ht
        split at hl
        · rename_i hb
          simp only [Option.bind_eq_some_iff] at hl
          obtain ⟨ty', h1, hl⟩ := hl
          split at hl
          · rename_i hs; cases hl
            exact slice_rep ht hb.1 hb.2 hs (fun m hm cs d ps h hw => IH m hm n e ty' cs d ps h1 h hw) h hw
          · cases hl
        · cases hl
      · rename_i fs ht
        obtain ⟨m, xs, rfl, hlen, hm, rfl⟩ := trod_struct ht h
        have := fields_rep (N := N) hlen (fun t ty cs d ps h1 h2 h3 => IH m (by omega) n t ty cs d ps h1 h2 h3) fs.toList 0 ty xs hl hm fun m hm => hw m (by simpa only [DataW.weights, ht] using hm)
        simpa only [List.drop_zero] using this
      · cases hl

/-- An argument that is no struct. -/
theorem open_one {t n : Nat} {v : Value} {ty : Ty} {d : DataW H} {ps} (hl : lay P vt n t = some ty) (h : DataW.Trod enc P w 0 spare held t v d ps) (hv : v.cells.toList = [v]) (hw : ∀ m ∈ d.weights P t, m ≤ N) :
    ∃ x, RepAV (c0 (All w) w) (.d ty x) v ∧ Wf N ty x := by
  obtain ⟨fuel, h⟩ := h
  obtain ⟨x, h1, h2⟩ := trod_rep fuel n t ty _ _ _ hl h hw
  refine ⟨x, ?_, h2⟩
  simp only [RepAV]
  rw [hv] at h1; exact h1
/-- A struct. -/
theorem open_agg {t n : Nat} {cs : Array Value} {ty : Ty} {d : DataW H} {ps} (hl : lay P vt n t = some ty) (h : DataW.Trod enc P w 0 spare held t (.agg cs) d ps) (hw : ∀ m ∈ d.weights P t, m ≤ N) :
    ∃ x, RepAV (c0 (All w) w) (.agg (unpack ty x)) (.agg cs) ∧ Wf N ty x := by
  obtain ⟨fuel, h⟩ := h
  obtain ⟨x, h1, h2⟩ := trod_rep fuel n t ty _ _ _ hl h hw
  refine ⟨x, ?_, h2⟩
  simp only [RepAV]
  exact ⟨cs, rfl, unpack_rep h1⟩
end
end Go.Pe
