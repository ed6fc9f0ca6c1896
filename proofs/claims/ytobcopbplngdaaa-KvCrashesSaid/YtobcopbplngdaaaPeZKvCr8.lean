/- Texts of the proof, what is used of them: Open2, GKqG, K16. -/
import Derived.SizedLaws
import Derived.WideShapes
import Derived.Test.YtobcopbplngdaaaPeZKvCr7
section
namespace Go.Pe
open Go.RowKit Go.ChangeShapes Go.WideShapes
set_option linter.unusedSectionVars false
variable [GI]

inductive WfV (N : Nat) : V → Prop
  | mk (kind n : Int) (s : List UInt8) (items : List V) (keys : List (List UInt8)) (hk : (Lit.int .i64 kind).wf = true) (hn : (Lit.int .i64 n).wf = true) (hs : s.length ≤ N) (hi : items.length ≤ N) (hks : keys.length ≤ N)
      (hit : ∀ i (h : i < items.length), WfV N items[i]) (hkl : ∀ k ∈ keys, k.length ≤ N) : WfV N (.mk kind n s items keys)
def Wf (N : Nat) : (t : Ty) → t.den → Prop
  | .bool, _ => True
  | .int k, n => (Lit.int k n).wf = true
  | .str, s => s.length ≤ N
  | .list e, xs => xs.length ≤ N ∧ ∀ x ∈ xs, Wf N e x
  | .unit, _ => True
  | .prod a b, x => Wf N a x.1 ∧ Wf N b x.2
  | .value, x => WfV N x

def layTys (P : Program) (f : Nat → Option Ty) (total : Nat) : Nat → List (Nat × Nat) → Option Ty
  | off, [] => if off = total then some .unit else none
  | off, [(t, o)] => if o = off ∧ off + P.cellsOf t = total then (f t).bind fun a => if a.size = P.cellsOf t then some a else none else none
  | off, (t, o) :: r => if o = off then (f t).bind fun a => if a.size = P.cellsOf t then (layTys P f total (off + P.cellsOf t) r).bind fun b => some (.prod a b) else none else none
def isInt64 (P : Program) (t : Nat) : Bool := match P.underlying t with | some (.int .i64) => true | _ => false
def isString (P : Program) (t : Nat) : Bool := match P.underlying t with | some .string => true | _ => false
def sliceEl (P : Program) (t : Nat) : Option Nat := match P.underlying t with | some (.slice e) => some e | _ => none
def vtOk (P : Program) (vt : Nat) : Bool :=
  match P.underlying vt with
  | some (.struct fs) => (match fs.toList.map fun f => (f.type, f.offset) with
    | [(t1, 0), (t2, 1), (t3, 2), (t4, 3), (t5, 4)] => isInt64 P t1 && isInt64 P t2 && isString P t3 && (match sliceEl P t4 with | some e => Nat.beq e vt | none => false) && (match sliceEl P t5 with | some e => isString P e && Nat.beq (P.cellsOf e) 1 && Nat.ble 1 (P.bytesOf e) | none => false) &&
      Nat.beq (P.cellsOf t1) 1 && Nat.beq (P.cellsOf t2) 1 && Nat.beq (P.cellsOf t3) 1 && Nat.beq (P.cellsOf t4) 1 && Nat.beq (P.cellsOf t5) 1 && Nat.beq (P.cellsOf vt) 5 && Nat.ble 1 (P.bytesOf vt)
    | _ => false)
  | _ => false
def lay (P : Program) (vt : Nat) : Nat → Nat → Option Ty
  | 0, _ => none
  | n + 1, t => if t = vt then (if vtOk P vt = true then some .value else none) else match P.underlying t with
    | some .bool => some .bool
    | some (.int k) => some (.int k)
    | some .string => some .str
    | some (.slice e) => if 1 ≤ P.bytesOf e ∧ 1 ≤ P.cellsOf e then (lay P vt n e).bind fun ty => if ty.size = P.cellsOf e then some (.list ty) else none else none
    | some (.struct fs) => layTys P (lay P vt n) (P.cellsOf t) 0 (fs.toList.map fun f => (f.type, f.offset))
    | _ => none

section
variable {H : Type} {enc : TypeId × Value → H} {P : Program} {w : World} {base : Nat} {spare : Nat → Bool} {held : Bool} {N vt : Nat}

theorem rows_of {α : Type} {R : α → List Value → Prop} {W : α → Prop} {sz blk : Nat} : ∀ (len off : Nat), (∀ i, i < len → ∃ x c, R x c ∧ W x ∧ c.length = sz ∧ ∀ j, j < sz → w.cell? ⟨blk, off + i * sz + j, none⟩ = c[j]?) →
    ∃ (xs : List α) (us : List Value), xs.length = len ∧ (∀ x ∈ xs, W x) ∧ us.length = len * sz ∧ CellsAt w ⟨blk, off, none⟩ us ∧ RepAll R xs us
  | 0, off, _ => ⟨[], [], rfl, by simp, by simp, fun j hj => by simp at hj, rfl⟩
  | len + 1, off, h => by
    obtain ⟨x, c, h1, h2, h3, h4⟩ := h 0 (by omega)
    obtain ⟨xs, us, g1, g2, g3, g4, g5⟩ := rows_of len (off + sz) fun i hi => by
      obtain ⟨x, c, h1, h2, h3, h4⟩ := h (i + 1) (by omega)
      refine ⟨x, c, h1, h2, h3, fun j hj => ?_⟩
      rw [← h4 j hj, show off + sz + i * sz + j = off + (i + 1) * sz + j by rw [Nat.succ_mul]; omega]
    refine ⟨x :: xs, c ++ us, by simp [g1], by simpa using ⟨h2, g2⟩, by simp [g3, h3, Nat.succ_mul]; omega, fun j hj => ?_, c, us, rfl, h1, g5⟩
    simp only [List.length_append] at hj
    rcases Nat.lt_or_ge j sz with hl | hl
    · rw [List.getElem?_append_left (by omega), ← h4 j hl]; simp
    · rw [List.getElem?_append_right (by omega)]
      have := g4 (j - c.length) (by omega)
      simp only at this
      rw [← this, show off + sz + (j - c.length) = off + j by omega]

theorem slice_rep {ty : Ty} {e t fuel : Nat} {cs : List Value} {d : DataW H} {ps : List MemPlace} (ht : P.underlying t = some (.slice e)) (hb : 1 ≤ P.bytesOf e) (hc : 1 ≤ P.cellsOf e) (hsz : ty.size = P.cellsOf e)
    (ih : ∀ m, m < fuel → ∀ (cs : List Value) (d : DataW H) (ps : List MemPlace), DataW.trod enc P w base spare held m e cs = some (d, ps) → (∀ m ∈ d.weights P e, m ≤ N) → ∃ x, Rep (All w) w ty x cs ∧ Wf N ty x)
    (h : DataW.trod enc P w base spare held fuel t cs = some (d, ps)) (hw : ∀ m ∈ d.weights P t, m ≤ N) : ∃ x, Rep (All w) w (.list ty) x cs ∧ Wf N (.list ty) x := by
  rcases DataW.trod_slice ht h with ⟨rfl, hx⟩ | ⟨a, len, cap, elems, rest, n, hf, rfl, hx, _, hlc, _, hel, hat, _, _⟩
  · exact ⟨[], ⟨_, rfl, none, 0, rfl, Nat.le_refl _, .inl rfl⟩, by simp [Wf]⟩
  · have hd : d = .slice (elems.map (·.1)) (rest.map (·.1)) := congrArg Prod.fst hx
    subst hd
    simp only [DataW.weights, ht, List.mem_cons, List.mem_append] at hw
    have hlen : len ≤ N := by
      have := hw _ (.inl rfl)
      have h2 : len * 1 ≤ (elems.length + rest.length) * P.bytesOf e := Nat.mul_le_mul (by omega) hb
      simp only [List.length_map] at this
      omega
    have key : ∀ i, i < len → ∃ x c, Rep (All w) w ty x c ∧ Wf N ty x ∧ c.length = P.cellsOf e ∧ ∀ j, j < P.cellsOf e → w.cell? ((a.add (i * P.cellsOf e)).add j) = c[j]? := by
      intro i hi
      have h1 := hat i hi
      rw [List.getElem?_eq_getElem (by omega), Option.bind_eq_some_iff] at h1
      obtain ⟨c, hc1, hc2⟩ := h1
      obtain ⟨_, hc3, hc4⟩ := World.cells?_some hc1
      obtain ⟨x, hx1, hx2⟩ := ih n (by omega) c (elems[i]).1 (elems[i]).2 hc2 fun m hm => hw m (.inr (.inl (by
        have : ∀ (l : List (DataW H)) (d : DataW H), d ∈ l → m ∈ d.weights P e → m ∈ DataW.weightsAll P e l := by
          intro l; induction l with
          | nil => intro d hd; simp at hd
          | cons y l ih => intro d hd hm; simp only [DataW.weightsAll, List.mem_append]; exact (List.mem_cons.1 hd).elim (fun e => .inl (e ▸ hm)) (fun hd => .inr (ih d hd hm))
        exact this _ _ (List.mem_map_of_mem (List.getElem_mem (l := elems) (by omega))) hm)))
      exact ⟨x, c, hx1, hx2, hc3, hc4⟩
    rcases Nat.eq_zero_or_pos len with h0 | h0
    · subst h0
      exact ⟨[], ⟨_, rfl, some a, cap, rfl, by simp, .inl rfl⟩, by simp [Wf]⟩
    · obtain ⟨x, c, _, _, hcl, hcc⟩ := key 0 h0
      have h00 := hcc 0 (by omega)
      rw [List.getElem?_eq_getElem (by omega)] at h00
      have ha : a.block < w.heap.size ∧ a.spot = none := by
        have h1 : (a.add (0 * P.cellsOf e)).add 0 = a := by simp [Addr.add]
        rw [h1] at h00
        exact cell_lt h00
      obtain ⟨xs, us, g1, g2, g3, g4, g5⟩ := rows_of (w := w) (R := Rep (All w) w ty) (W := Wf N ty) (sz := P.cellsOf e) (blk := a.block) len a.off fun i hi => by
        obtain ⟨x, c, h1, h2, h3, h4⟩ := key i hi
        refine ⟨x, c, h1, h2, h3, fun j hj => ?_⟩
        rw [← h4 j hj, add_spot ha.2, add_spot rfl]
      refine ⟨xs, ⟨_, rfl, some a, cap, by rw [g1], by omega, .inr ⟨a, us, rfl, ha.2, ha.1, ?_, g5⟩⟩, ?_⟩
      · intro j hj
        exact g4 j hj
      · simp only [Wf]; exact ⟨by omega, g2⟩

theorem mem_each : ∀ {ts : List TypeId} {ds : List (DataW H)} {t d} {m : Nat}, m ∈ DataW.weights P t d → m ∈ DataW.weightsEach P (t :: ts) (d :: ds) := by
  intro ts ds t d m h
  simp only [DataW.weightsEach, List.mem_append]; exact .inl h
theorem mem_each' : ∀ {ts : List TypeId} {ds : List (DataW H)} {t d} {m : Nat}, m ∈ DataW.weightsEach P ts ds → m ∈ DataW.weightsEach P (t :: ts) (d :: ds) := by
  intro ts ds t d m h
  simp only [DataW.weightsEach, List.mem_append]; exact .inr h

theorem fields_rep {f : Nat → Option Ty} {fuel total : Nat} {cs : List Value} (hlen : cs.length = total)
    (ih : ∀ t ty (cs : List Value) (d : DataW H) (ps : List MemPlace), f t = some ty → DataW.trod enc P w base spare held fuel t cs = some (d, ps) → (∀ m ∈ d.weights P t, m ≤ N) → ∃ x, Rep (All w) w ty x cs ∧ Wf N ty x) :
    ∀ (fs : List Field) (off : Nat) (ty : Ty) (xs : List (DataW H × List MemPlace)), layTys P f total off (fs.map fun f => (f.type, f.offset)) = some ty →
      (fs.mapM fun f => DataW.trod enc P w base spare held fuel f.type ((cs.drop f.offset).take (P.cellsOf f.type))) = some xs →
      (∀ m ∈ DataW.weightsEach P (fs.map (·.type)) (xs.map (·.1)), m ≤ N) → ∃ x, Rep (All w) w ty x (cs.drop off) ∧ Wf N ty x
  | [], off, ty, xs, hl, hm, hw => by
    simp only [List.map_nil, layTys] at hl
    split at hl
    · rename_i ho; cases hl
      exact ⟨(), by simp only [Rep]; exact List.drop_of_length_le (by omega), trivial⟩
    · cases hl
  | [fd], off, ty, xs, hl, hm, hw => by
    simp only [List.map_cons, List.map_nil, layTys] at hl
    split at hl
    · rename_i ho
      simp only [Option.bind_eq_some_iff] at hl
      obtain ⟨a, ha, hl⟩ := hl
      split at hl
      · rename_i hs; cases hl
        simp only [List.mapM_cons, List.mapM_nil, Option.pure_def, Option.bind_eq_bind, Option.bind_eq_some_iff, Option.some.injEq] at hm
        obtain ⟨y, hy, ys, rfl, rfl⟩ := hm
        obtain ⟨x, h1, h2⟩ := ih fd.type _ _ y.1 y.2 ha hy fun m hm => hw m (by simpa [DataW.weightsEach] using hm)
        refine ⟨x, ?_, h2⟩
        rw [ho.1] at h1
        rwa [List.take_of_length_le (by rw [List.length_drop]; omega)] at h1
      · cases hl
    · cases hl
  | fd :: fd2 :: fs, off, ty, xs, hl, hm, hw => by
    simp only [List.map_cons, layTys] at hl
    split at hl
    · rename_i ho
      simp only [Option.bind_eq_some_iff] at hl
      obtain ⟨a, ha, hl⟩ := hl
      split at hl
      · rename_i hs
        simp only [Option.bind_eq_some_iff, Option.some.injEq] at hl
        obtain ⟨b, hb, rfl⟩ := hl
        rw [List.mapM_cons] at hm
        simp only [Option.pure_def, Option.bind_eq_bind, Option.bind_eq_some_iff, Option.some.injEq] at hm
        obtain ⟨y, hy, ys, hys, rfl⟩ := hm
        obtain ⟨x, h1, h2⟩ := ih fd.type _ _ y.1 y.2 ha hy fun m hm => hw m (by simp only [List.map_cons]; exact mem_each hm)
        obtain ⟨x', h3, h4⟩ := fields_rep hlen ih (fd2 :: fs) (off + P.cellsOf fd.type) b ys (by simpa only [List.map_cons] using hb) hys fun m hm => hw m (by simp only [List.map_cons] at hm ⊢; exact mem_each' hm)
        refine ⟨(x, x'), ⟨_, _, ?_, h1, h3⟩, h2, h4⟩
        rw [ho, ← List.drop_drop, List.take_append_drop]
      · cases hl
    · cases hl

theorem trod_bool {t fuel : Nat} {cs : List Value} {d : DataW H} {ps} (ht : P.underlying t = some .bool) (h : DataW.trod enc P w base spare held fuel t cs = some (d, ps)) : ∃ b, cs = [.bool b] := by
  cases fuel with
  | zero => simp [DataW.trod] at h
  | succ n => unfold DataW.trod at h; rw [ht] at h; split at h <;> simp_all
theorem trod_int {t fuel : Nat} {cs : List Value} {d : DataW H} {ps} {k} (ht : P.underlying t = some (.int k)) (h : DataW.trod enc P w base spare held fuel t cs = some (d, ps)) : ∃ n, cs = [.int k n] ∧ (Lit.int k n).wf = true := by
  cases fuel with
  | zero => simp [DataW.trod] at h
  | succ n => unfold DataW.trod at h; rw [ht] at h; split at h <;> simp_all
theorem trod_str {t fuel : Nat} {cs : List Value} {d : DataW H} {ps} (ht : P.underlying t = some .string) (h : DataW.trod enc P w base spare held fuel t cs = some (d, ps)) : ∃ s : ByteArray, cs = [.string s] ∧ d = .lit (.string s.data.toList) := by
  cases fuel with
  | zero => simp [DataW.trod] at h
  | succ n => unfold DataW.trod at h; rw [ht] at h; split at h <;> simp_all
theorem trod_struct {t fuel : Nat} {cs : List Value} {d : DataW H} {ps} {fs : Array Field} (ht : P.underlying t = some (.struct fs)) (h : DataW.trod enc P w base spare held fuel t cs = some (d, ps)) :
    ∃ n xs, fuel = n + 1 ∧ cs.length = P.cellsOf t ∧ (fs.toList.mapM fun f => DataW.trod enc P w base spare held n f.type ((cs.drop f.offset).take (P.cellsOf f.type))) = some xs ∧ d = .agg (xs.map (·.1)) := by
  cases fuel with
  | zero => simp [DataW.trod] at h
  | succ n =>
    unfold DataW.trod at h
    rw [ht] at h
    simp only at h
    split at h
    · rename_i hc
      simp only [Option.map_eq_some_iff] at h
      obtain ⟨xs, hx, he⟩ := h
      exact ⟨n, xs, rfl, hc, hx, (congrArg Prod.fst he).symm⟩
    · cases h

theorem str_rep {t fuel : Nat} {cs : List Value} {d : DataW H} {ps} (ht : P.underlying t = some .string) (h : DataW.trod enc P w base spare held fuel t cs = some (d, ps)) (hw : ∀ m ∈ d.weights P t, m ≤ N) : ∃ x, Rep (All w) w .str x cs ∧ Wf N .str x := by
  obtain ⟨s, rfl, rfl⟩ := trod_str ht h
  exact ⟨s.data.toList, by simp [Rep], hw _ (by simp [DataW.weights])⟩

theorem beq_imp {a b : Nat} (h : Nat.beq a b = true) : a = b := Nat.eq_of_beq_eq_true h
theorem value_rep (hv : vtOk P vt = true) : ∀ (fuel : Nat) (cs : List Value) (d : DataW H) (ps : List MemPlace), DataW.trod enc P w base spare held fuel vt cs = some (d, ps) → (∀ m ∈ d.weights P vt, m ≤ N) →
    ∃ x, Rep (All w) w .value x cs ∧ Wf N .value x := by
  intro fuel
  induction fuel using Nat.strongRecOn with
  | _ fuel IH =>
  intro cs d ps h hw
  unfold vtOk at hv
  split at hv
  · rename_i fs hfs
    split at hv
    · rename_i t1 t2 t3 t4 t5 hl
      simp only [Bool.and_eq_true] at hv
      obtain ⟨⟨⟨⟨⟨⟨⟨⟨⟨⟨⟨v1, v2⟩, v3⟩, v4⟩, v5⟩, c1⟩, c2⟩, c3⟩, c4⟩, c5⟩, c6⟩, c7⟩ := hv
      have c1 := beq_imp c1; have c2 := beq_imp c2; have c3 := beq_imp c3; have c4 := beq_imp c4; have c5 := beq_imp c5; have c6 := beq_imp c6
      have c7 := Nat.le_of_ble_eq_true c7
      have u1 : P.underlying t1 = some (.int .i64) := by unfold isInt64 at v1; split at v1; assumption; cases v1
      have u2 : P.underlying t2 = some (.int .i64) := by unfold isInt64 at v2; split at v2; assumption; cases v2
      have u3 : P.underlying t3 = some .string := by unfold isString at v3; split at v3; assumption; cases v3
      have u4 : P.underlying t4 = some (.slice vt) := by
        unfold sliceEl at v4
        split at v4
        · rename_i e he
          split at he
          · rename_i e' hu; cases he; rw [hu, beq_imp v4]
          · cases he
        · cases v4
      obtain ⟨ts, u5, u6, c8, c9⟩ : ∃ ts, P.underlying t5 = some (.slice ts) ∧ P.underlying ts = some .string ∧ P.cellsOf ts = 1 ∧ 1 ≤ P.bytesOf ts := by
        unfold sliceEl at v5
        split at v5
        · rename_i e he
          split at he
          · rename_i e' hu; cases he
            simp only [Bool.and_eq_true] at v5
            refine ⟨e, hu, ?_, beq_imp v5.1.2, Nat.le_of_ble_eq_true v5.2⟩
            have v6 := v5.1.1
            unfold isString at v6; split at v6
            · assumption
            · cases v6
          · cases he
        · cases v5
      obtain ⟨n, xs, rfl, hlen, hm, rfl⟩ := trod_struct hfs h
      rcases fs with ⟨fl⟩
      have hl' : fl.map (fun f => (f.type, f.offset)) = [(t1, 0), (t2, 1), (t3, 2), (t4, 3), (t5, 4)] := hl
      rcases fl with _ | ⟨f1, _ | ⟨f2, _ | ⟨f3, _ | ⟨f4, _ | ⟨f5, _ | ⟨f6, fl⟩⟩⟩⟩⟩⟩ <;> simp only [List.map_cons, List.map_nil, List.cons.injEq, Prod.mk.injEq, reduceCtorEq, and_false, List.nil_eq, and_true] at hl'
      obtain ⟨⟨e1, o1⟩, ⟨e2, o2⟩, ⟨e3, o3⟩, ⟨e4, o4⟩, e5, o5⟩ := hl'
      simp only [List.mapM_cons, List.mapM_nil, Option.pure_def, Option.bind_eq_bind, Option.bind_eq_some_iff, Option.some.injEq, e1, e2, e3, e4, e5, o1, o2, o3, o4, o5, c1, c2, c3, c4, c5] at hm
      obtain ⟨y1, h1, z1, ⟨y2, h2, z2, ⟨y3, h3, z3, ⟨y4, h4, z4, ⟨y5, h5, z5, rfl, rfl⟩, rfl⟩, rfl⟩, rfl⟩, rfl⟩ := hm
      have hw' : ∀ m ∈ DataW.weightsEach P [t1, t2, t3, t4, t5] [y1.1, y2.1, y3.1, y4.1, y5.1], m ≤ N := by
        intro m hm
        apply hw
        simp only [DataW.weights, hfs]
        simpa [e1, e2, e3, e4, e5] using hm
      rw [c6] at hlen
      rcases cs with _ | ⟨a1, _ | ⟨a2, _ | ⟨a3, _ | ⟨a4, _ | ⟨a5, _ | ⟨a6, cs⟩⟩⟩⟩⟩⟩ <;> simp only [List.length_cons, List.length_nil] at hlen <;> try omega
      simp only [List.drop_succ_cons, List.drop_zero, List.take_succ_cons, List.take_zero] at h1 h2 h3 h4 h5
      obtain ⟨n1, q1, w1⟩ := trod_int u1 h1
      obtain ⟨n2, q2, w2⟩ := trod_int u2 h2
      obtain ⟨x3, r3, w3⟩ := str_rep (N := N) u3 h3 fun m hm => hw' m (by simp only [DataW.weightsEach, List.mem_append]; exact .inr (.inr (.inl hm)))
      obtain ⟨x4, r4, w4⟩ := slice_rep (N := N) (ty := .value) u4 c7 (by omega) (by rw [c6]; rfl) (fun m hm cs d ps h hw => IH m (by omega) cs d ps h hw) h4 fun m hm => hw' m (by simp only [DataW.weightsEach, List.mem_append]; exact .inr (.inr (.inr (.inl hm))))
      obtain ⟨x5, r5, w5⟩ := slice_rep (N := N) (ty := .str) u5 c9 (by omega) (by rw [c8]; rfl) (fun m hm cs d ps h hw => str_rep u6 h hw) h5 fun m hm => hw' m (by simp only [DataW.weightsEach, List.mem_append]; exact .inr (.inr (.inr (.inr (.inl hm)))))
      simp only [List.cons.injEq, and_true] at q1 q2
      subst q1; subst q2
      simp only [Rep, List.cons.injEq, and_true] at r3
      subst r3
      obtain ⟨v4', e4', a, cap, rfl, hcap, hmem⟩ := r4
      simp only [List.cons.injEq, and_true] at e4'
      subst e4'
      obtain ⟨v5', e5', hs5⟩ := r5
      simp only [List.cons.injEq, and_true] at e5'
      subst e5'
      have w4' : x4.length ≤ N ∧ ∀ x ∈ x4, WfV N x := by simpa only [Wf] using w4
      have w5' : x5.length ≤ N ∧ ∀ x ∈ x5, x.length ≤ N := by simpa only [Wf] using w5
      refine ⟨.mk n1 n2 x3 x4 x5, ?_, ?_⟩
      · simp only [Rep]
        have hs5' : SliceRep (All w) w (fun k vs => vs = [Value.string ⟨k.toArray⟩]) x5 a5 := by
          refine hs5.imp (fun _ h => h) (fun _ _ => rfl) fun x u h => by simpa only [Rep] using h
        rcases hmem with rfl | ⟨ad, us, rfl, hsp, hA, hcells, hall⟩
        · exact .mk n1 n2 x3 [] x5 a cap a5 (fun _ => []) hcap (.inl rfl) (fun i h => by simp at h) hs5'
        · have hsz : ∀ (x : V) (u : List Value), Rep (All w) w .value x u → u.length = 5 := fun x u h => RepV.length h
          have hul : us.length = x4.length * 5 := RepAll.length (sz := 5) hsz hall
          refine .mk n1 n2 x3 x4 x5 (some ad) cap a5 (fun i => (us.drop (i * 5)).take 5) hcap (.inr ⟨ad, rfl, hsp, hA, fun i hi => ⟨by simp [hul]; omega, fun j hj => ?_⟩⟩) (fun i hi => ?_) hs5'
          · rw [List.getElem?_take_of_lt hj, List.getElem?_drop]
            exact hcells (i * 5 + j) (by omega)
          · obtain ⟨p, u, q, he, hp, hr⟩ := RepAll.get (sz := 5) hsz i x4[i] hall (List.getElem?_eq_getElem hi)
            have hu := hsz _ _ hr
            rw [he, List.drop_append_of_le_length (by omega), List.drop_of_length_le (l := p) (by omega), List.nil_append, List.take_append_of_le_length (by omega), List.take_of_length_le (by omega)]
            simpa only [Rep] using hr
      · simp only [Wf]
        exact .mk _ _ _ _ _ w1 w2 w3 w4'.1 w5'.1 (fun i hi => w4'.2 _ (List.getElem_mem hi)) w5'.2
    · cases hv
  · cases hv

theorem trod_rep : ∀ (fuel n t : Nat) (ty : Ty) (cs : List Value) (d : DataW H) (ps : List MemPlace), lay P vt n t = some ty → DataW.trod enc P w base spare held fuel t cs = some (d, ps) → (∀ m ∈ d.weights P t, m ≤ N) →
    ∃ x, Rep (All w) w ty x cs ∧ Wf N ty x := by
  intro fuel
  induction fuel using Nat.strongRecOn with
  | _ fuel IH =>
  intro n t ty cs d ps hl h hw
  cases n with
  | zero => simp [lay] at hl
  | succ n =>
    unfold lay at hl
    split at hl
    · rename_i e; subst e
      split at hl
      · rename_i hv; cases hl; exact value_rep hv fuel cs d ps h hw
      · cases hl
    · split at hl
      · rename_i ht; cases hl
        obtain ⟨b, rfl⟩ := trod_bool ht h
        exact ⟨b, rfl, trivial⟩
      · rename_i k ht; cases hl
        obtain ⟨m, rfl, h1⟩ := trod_int ht h
        exact ⟨m, rfl, h1⟩
      · rename_i ht; cases hl
        exact str_rep ht h hw
      · rename_i e ht
        split at hl
        · rename_i hb
          simp only [Option.bind_eq_some_iff] at hl
          obtain ⟨ty', h1, hl⟩ := hl
          split at hl
          · rename_i hs; cases hl
            exact slice_rep ht hb.1 hb.2 hs (fun m hm cs d ps h hw => IH m hm n e ty' cs d ps h1 h hw) h hw
          · cases hl
        · cases hl
      · rename_i fs ht
        obtain ⟨m, xs, rfl, hlen, hm, rfl⟩ := trod_struct ht h
        have := fields_rep (N := N) hlen (fun t ty cs d ps h1 h2 h3 => IH m (by omega) n t ty cs d ps h1 h2 h3) fs.toList 0 ty xs hl hm fun m hm => hw m (by simpa only [DataW.weights, ht] using hm)
        simpa only [List.drop_zero] using this
      · cases hl

theorem open_one {t n : Nat} {v : Value} {ty : Ty} {d : DataW H} {ps} (hl : lay P vt n t = some ty) (h : DataW.Trod enc P w 0 spare held t v d ps) (hv : v.cells.toList = [v]) (hw : ∀ m ∈ d.weights P t, m ≤ N) :
    ∃ x, RepAV (c0 (All w) w) (.d ty x) v ∧ Wf N ty x := by
  obtain ⟨fuel, h⟩ := h
  obtain ⟨x, h1, h2⟩ := trod_rep fuel n t ty _ _ _ hl h hw
  refine ⟨x, ?_, h2⟩
  simp only [RepAV]
  rw [hv] at h1; exact h1
end
end Go.Pe
end
section
namespace Go.Pe.Try
open Go.Proofs Go.RowKit
set_option maxRecDepth 100000
set_option linter.unusedVariables false
theorem f6_p0_eq rec x3 x4 x19 x22 x24 x114 x115 x116 x121 x122 x123 r0_0 r0_1 r0_2 r0_3 r0_4 r0_5 r0_6 r1_0 r1_1 : f6_p0_st rec (f6_p0_y x3 x4 x19 x22 x24 x114 x115 x116 x121 x122 x123 r0_0 r0_1 r0_2 r0_3 r0_4 r0_5 r0_6 r1_0 r1_1) = (bif (decide (x123 < x122)) then ((nth x121 x123).bind fun y309 => (f19_F ((r1_0, (r1_1, ())), (y309.1, (y309.2, ())))).bind fun r310 => bif (r310.2.1 != (0 : Int)) then (some (.inr ((f6_p0_o1_y false)))) else (rec (f6_p0_y x3 x4 x19 x22 x24 x114 x115 x116 x121 x122 (IntKind.i64.wrap (x123 + (1 : Int))) r0_0 r0_1 r0_2 r0_3 r0_4 r0_5 r0_6 r310.1.1 r310.1.2.1))) else (some (.inl (f6_p0_o0_y x3 x4 x19 x22 x24 x114 x115 x116 r0_0 r0_1 r0_2 r0_3 r0_4 r0_5 r0_6 r1_0 r1_1)))) := by kernel_rfl
theorem f6_p1_eq rec x3 x19 x22 x170 x171 x172 r0_0 r0_1 r0_2 r0_3 r0_4 r0_5 r0_6 r2_0 r2_1 r2_2 r2_3 r2_4 r2_5 r2_6 l0 : f6_p1_st rec (f6_p1_y x3 x19 x22 x170 x171 x172 r0_0 r0_1 r0_2 r0_3 r0_4 r0_5 r0_6 r2_0 r2_1 r2_2 r2_3 r2_4 r2_5 r2_6 l0) = (bif (decide (x172 < x171)) then ((nth x170 x172).bind fun y311 => (nth r2_3 x172).bind fun y312 => appOk (l0.length + [y311, y312].length) (rec (f6_p1_y x3 x19 x22 x170 x171 (IntKind.i64.wrap (x172 + (1 : Int))) r0_0 r0_1 r0_2 r0_3 r0_4 r0_5 r0_6 r2_0 r2_1 r2_2 r2_3 r2_4 r2_5 r2_6 (l0 ++ [y311, y312])))) else (some ((f6_p1_o0_y x3 x19 x22 r0_0 r0_1 r0_2 r0_3 r0_4 r0_5 r0_6 r2_0 r2_1 r2_2 r2_3 r2_4 r2_5 r2_6 l0)))) := by kernel_rfl
theorem f6_p2_eq x3 x19 x22 r0_0 r0_1 r0_2 r0_3 r0_4 r0_5 r0_6 r2_0 r2_1 r2_2 r2_3 r2_4 r2_5 r2_6 l0 : f6_p2_F (f6_p2_y x3 x19 x22 r0_0 r0_1 r0_2 r0_3 r0_4 r0_5 r0_6 r2_0 r2_1 r2_2 r2_3 r2_4 r2_5 r2_6 l0) = ((f16_F (l0, (x19, ()))).bind fun r313 => bif r313.1 then (some ((f6_p2_o0_y x3 x22 (r2_5 == r0_5) l0))) else (some ((f6_p2_o0_y x3 x22 false l0)))) := by kernel_rfl
theorem f6_p3_eq x3 x4 x19 x22 x114 x115 x116 r0_0 r0_1 r0_2 r0_3 r0_4 r0_5 r0_6 r1_0 r1_1 : f6_p3_F (f6_p3_y x3 x4 x19 x22 x114 x115 x116 r0_0 r0_1 r0_2 r0_3 r0_4 r0_5 r0_6 r1_0 r1_1) = ((nth x114 x116).bind fun y314 => (go f6_p0_st (f6_p0_y x3 x4 x19 x22 x116 x114 x115 x116 y314 (y314.length : Int) (0 : Int) r0_0 r0_1 r0_2 r0_3 r0_4 r0_5 r0_6 r1_0 r1_1)).bind fun o315 => (match o315 with | .inl z316 => bif (decide ((f6_p0_o0_x24 z316) < (f6_p0_o0_x3 z316))) then ((f20_F (((f6_p0_o0_r1_0 z316), ((f6_p0_o0_r1_1 z316), ())), ())).bind fun r318 => bif (r318.2.1 != (0 : Int)) then (some (.inl (f6_p3_o0_y false))) else (some (.inr ((f6_p3_o1_y (f6_p0_o0_x3 z316) (f6_p0_o0_x4 z316) (f6_p0_o0_x19 z316) (f6_p0_o0_x22 z316) (f6_p0_o0_x114 z316) (f6_p0_o0_x115 z316) (f6_p0_o0_x116 z316) (f6_p0_o0_r0_0 z316) (f6_p0_o0_r0_1 z316) (f6_p0_o0_r0_2 z316) (f6_p0_o0_r0_3 z316) (f6_p0_o0_r0_4 z316) (f6_p0_o0_r0_5 z316) (f6_p0_o0_r0_6 z316) r318.1.1 r318.1.2.1))))) else (some (.inr ((f6_p3_o1_y (f6_p0_o0_x3 z316) (f6_p0_o0_x4 z316) (f6_p0_o0_x19 z316) (f6_p0_o0_x22 z316) (f6_p0_o0_x114 z316) (f6_p0_o0_x115 z316) (f6_p0_o0_x116 z316) (f6_p0_o0_r0_0 z316) (f6_p0_o0_r0_1 z316) (f6_p0_o0_r0_2 z316) (f6_p0_o0_r0_3 z316) (f6_p0_o0_r0_4 z316) (f6_p0_o0_r0_5 z316) (f6_p0_o0_r0_6 z316) (f6_p0_o0_r1_0 z316) (f6_p0_o0_r1_1 z316))))) | .inr o317 => some (.inl (f6_p3_o0_y (f6_p0_o1_x10 o317))))) := by kernel_rfl
theorem f6_p4_eq x3 x19 x22 x32 x34 r0_0 r0_1 r0_2 r0_3 r0_4 r0_5 r0_6 r2_0 r2_1 r2_2 r2_3 r2_4 r2_5 r2_6 : f6_p4_F (f6_p4_y x3 x19 x22 x32 x34 r0_0 r0_1 r0_2 r0_3 r0_4 r0_5 r0_6 r2_0 r2_1 r2_2 r2_3 r2_4 r2_5 r2_6) = (bif (x32 != (0 : Int)) then (some ((f6_p4_o0_y x3 x19 x22 true r0_0 r0_1 r0_2 r0_3 r0_4 r0_5 r0_6 r2_0 r2_1 r2_2 r2_3 r2_4 r2_5 r2_6))) else (some ((f6_p4_o0_y x3 x19 x22 (x34 != (0 : Int)) r0_0 r0_1 r0_2 r0_3 r0_4 r0_5 r0_6 r2_0 r2_1 r2_2 r2_3 r2_4 r2_5 r2_6)))) := by kernel_rfl
theorem f6_p5_eq rec x3 x4 x19 x22 x114 x115 x116 r0_0 r0_1 r0_2 r0_3 r0_4 r0_5 r0_6 r1_0 r1_1 : f6_p5_st rec (f6_p5_y x3 x4 x19 x22 x114 x115 x116 r0_0 r0_1 r0_2 r0_3 r0_4 r0_5 r0_6 r1_0 r1_1) = (bif (decide (x116 < x115)) then ((f6_p3_F (f6_p3_y x3 x4 x19 x22 x114 x115 x116 r0_0 r0_1 r0_2 r0_3 r0_4 r0_5 r0_6 r1_0 r1_1)).bind fun o319 => (match o319 with | .inl z320 => some (.inr ((f6_p5_o1_y (f6_p3_o0_x10 z320)))) | .inr o321 => rec (f6_p5_y (f6_p3_o1_x3 o321) (f6_p3_o1_x4 o321) (f6_p3_o1_x19 o321) (f6_p3_o1_x22 o321) (f6_p3_o1_x114 o321) (f6_p3_o1_x115 o321) (IntKind.i64.wrap ((f6_p3_o1_x116 o321) + (1 : Int))) (f6_p3_o1_r0_0 o321) (f6_p3_o1_r0_1 o321) (f6_p3_o1_r0_2 o321) (f6_p3_o1_r0_3 o321) (f6_p3_o1_r0_4 o321) (f6_p3_o1_r0_5 o321) (f6_p3_o1_r0_6 o321) (f6_p3_o1_r1_0 o321) (f6_p3_o1_r1_1 o321)))) else (some (.inl (f6_p5_o0_y x3 x4 x19 x22 r0_0 r0_1 r0_2 r0_3 r0_4 r0_5 r0_6 r1_0 r1_1)))) := by kernel_rfl
theorem f6_p6_eq x2 x3 x4 x13 x16 x52 x53 x54 r0_0 r0_1 r0_2 r0_3 r0_4 r0_5 r0_6 r1_0 r1_1 r1_2 r1_3 r1_4 r1_5 r1_6 : f6_p6_F (f6_p6_y x2 x3 x4 x13 x16 x52 x53 x54 r0_0 r0_1 r0_2 r0_3 r0_4 r0_5 r0_6 r1_0 r1_1 r1_2 r1_3 r1_4 r1_5 r1_6) = (bif (x16 == (0 : Int)) then (some ((f6_p6_o0_y x2 x3 x4 x52 x53 x54 (decide (x13 < (12 : Int))) r0_0 r0_1 r0_2 r0_3 r0_4 r0_5 r0_6 r1_0 r1_1 r1_2 r1_3 r1_4 r1_5 r1_6))) else (some ((f6_p6_o0_y x2 x3 x4 x52 x53 x54 false r0_0 r0_1 r0_2 r0_3 r0_4 r0_5 r0_6 r1_0 r1_1 r1_2 r1_3 r1_4 r1_5 r1_6)))) := by kernel_rfl
theorem f6_p7_eq x3 x4 x19 x22 x114 x115 x116 r0_0 r0_1 r0_2 r0_3 r0_4 r0_5 r0_6 r1_0 r1_1 : f6_p7_F (f6_p7_y x3 x4 x19 x22 x114 x115 x116 r0_0 r0_1 r0_2 r0_3 r0_4 r0_5 r0_6 r1_0 r1_1) = ((go f6_p5_st (f6_p5_y x3 x4 x19 x22 x114 x115 x116 r0_0 r0_1 r0_2 r0_3 r0_4 r0_5 r0_6 r1_0 r1_1)).bind fun o322 => (match o322 with | .inl z323 => some (.inr ((f6_p7_o1_y (f6_p5_o0_x3 z323) (f6_p5_o0_x4 z323) (f6_p5_o0_x19 z323) (f6_p5_o0_x22 z323) (f6_p5_o0_r0_0 z323) (f6_p5_o0_r0_1 z323) (f6_p5_o0_r0_2 z323) (f6_p5_o0_r0_3 z323) (f6_p5_o0_r0_4 z323) (f6_p5_o0_r0_5 z323) (f6_p5_o0_r0_6 z323) (f6_p5_o0_r1_0 z323) (f6_p5_o0_r1_1 z323)))) | .inr o324 => some (.inl (f6_p7_o0_y (f6_p5_o1_x10 o324))))) := by kernel_rfl
theorem f6_p8_eq x3 x4 x19 x22 r0_0 r0_1 r0_2 r0_3 r0_4 r0_5 r0_6 r1_0 r1_1 : f6_p8_F (f6_p8_y x3 x4 x19 x22 r0_0 r0_1 r0_2 r0_3 r0_4 r0_5 r0_6 r1_0 r1_1) = ((f21_F ((r1_0, (r1_1, ())), (x4, ()))).bind fun r325 => (f13_F ((r325.1.1, (r325.1.2.1, ())), ())).bind fun r326 => (f6_p4_F (f6_p4_y x3 x19 x22 r325.2.1 r326.2.1 r0_0 r0_1 r0_2 r0_3 r0_4 r0_5 r0_6 r326.1.1 r326.1.2.1 r326.1.2.2.1 r326.1.2.2.2.1 r326.1.2.2.2.2.1 r326.1.2.2.2.2.2.1 r326.1.2.2.2.2.2.2.1)).bind fun o327 => bif (f6_p4_o0_x168 o327) then (some ((f6_p8_o0_y false))) else ((go f6_p1_st (f6_p1_y (f6_p4_o0_x3 o327) (f6_p4_o0_x19 o327) (f6_p4_o0_x22 o327) (f6_p4_o0_r2_2 o327) ((f6_p4_o0_r2_2 o327).length : Int) (0 : Int) (f6_p4_o0_r0_0 o327) (f6_p4_o0_r0_1 o327) (f6_p4_o0_r0_2 o327) (f6_p4_o0_r0_3 o327) (f6_p4_o0_r0_4 o327) (f6_p4_o0_r0_5 o327) (f6_p4_o0_r0_6 o327) (f6_p4_o0_r2_0 o327) (f6_p4_o0_r2_1 o327) (f6_p4_o0_r2_2 o327) (f6_p4_o0_r2_3 o327) (f6_p4_o0_r2_4 o327) (f6_p4_o0_r2_5 o327) (f6_p4_o0_r2_6 o327) ([] : List (List UInt8)))).bind fun o328 => (f6_p2_F (f6_p2_y (f6_p1_o0_x3 o328) (f6_p1_o0_x19 o328) (f6_p1_o0_x22 o328) (f6_p1_o0_r0_0 o328) (f6_p1_o0_r0_1 o328) (f6_p1_o0_r0_2 o328) (f6_p1_o0_r0_3 o328) (f6_p1_o0_r0_4 o328) (f6_p1_o0_r0_5 o328) (f6_p1_o0_r0_6 o328) (f6_p1_o0_r2_0 o328) (f6_p1_o0_r2_1 o328) (f6_p1_o0_r2_2 o328) (f6_p1_o0_r2_3 o328) (f6_p1_o0_r2_4 o328) (f6_p1_o0_r2_5 o328) (f6_p1_o0_r2_6 o328) (f6_p1_o0_l0 o328))).bind fun o329 => bif (f6_p2_o0_x196 o329) then (some ((f6_p8_o0_y true))) else (bif ((f6_p2_o0_x3 o329) == (1 : Int)) then ((f16_F ((f6_p2_o0_l0 o329), ((f6_p2_o0_x22 o329), ()))).bind fun r330 => some ((f6_p8_o0_y r330.1))) else (some ((f6_p8_o0_y false)))))) := by kernel_rfl
theorem f6_p9_eq rec x2 x3 x4 x17 x85 x86 x87 r0_0 r0_1 r0_2 r0_3 r0_4 r0_5 r0_6 l0 : f6_p9_st rec (f6_p9_y x2 x3 x4 x17 x85 x86 x87 r0_0 r0_1 r0_2 r0_3 r0_4 r0_5 r0_6 l0) = (bif (decide (x87 < x86)) then ((nth x85 x87).bind fun y331 => (nth r0_3 x87).bind fun y332 => appOk (l0.length + [y331, y332].length) (rec (f6_p9_y x2 x3 x4 x17 x85 x86 (IntKind.i64.wrap (x87 + (1 : Int))) r0_0 r0_1 r0_2 r0_3 r0_4 r0_5 r0_6 (l0 ++ [y331, y332])))) else (some ((f6_p9_o0_y x2 x3 x4 x17 r0_0 r0_1 r0_2 r0_3 r0_4 r0_5 r0_6 l0)))) := by kernel_rfl
theorem f6_p10_eq x2 x3 x4 x52 x53 x54 r0_0 r0_1 r0_2 r0_3 r0_4 r0_5 r0_6 : f6_p10_F (f6_p10_y x2 x3 x4 x52 x53 x54 r0_0 r0_1 r0_2 r0_3 r0_4 r0_5 r0_6) = ((nth x52 x54).bind fun y333 => (f9_F (y333, ())).bind fun r334 => (f10_F ((r0_0, (r0_1, (r0_2, (r0_3, (r0_4, (r0_5, (r0_6, ()))))))), (r334.1, ()))).bind fun r335 => (f6_p6_F (f6_p6_y x2 x3 x4 x54 r335.2.1 x52 x53 x54 r0_0 r0_1 r0_2 r0_3 r0_4 r0_5 r0_6 r335.1.1 r335.1.2.1 r335.1.2.2.1 r335.1.2.2.2.1 r335.1.2.2.2.2.1 r335.1.2.2.2.2.2.1 r335.1.2.2.2.2.2.2.1)).bind fun o336 => bif (f6_p6_o0_x71 o336) then (some ((f6_p10_o0_y (f6_p6_o0_x2 o336) (f6_p6_o0_x3 o336) (f6_p6_o0_x4 o336) (f6_p6_o0_x52 o336) (f6_p6_o0_x53 o336) (f6_p6_o0_x54 o336) (f6_p6_o0_r1_0 o336) (f6_p6_o0_r1_1 o336) (f6_p6_o0_r1_2 o336) (f6_p6_o0_r1_3 o336) (f6_p6_o0_r1_4 o336) (f6_p6_o0_r1_5 o336) (f6_p6_o0_r1_6 o336)))) else (some ((f6_p10_o0_y (f6_p6_o0_x2 o336) (f6_p6_o0_x3 o336) (f6_p6_o0_x4 o336) (f6_p6_o0_x52 o336) (f6_p6_o0_x53 o336) (f6_p6_o0_x54 o336) (f6_p6_o0_r0_0 o336) (f6_p6_o0_r0_1 o336) (f6_p6_o0_r0_2 o336) (f6_p6_o0_r0_3 o336) (f6_p6_o0_r0_4 o336) (f6_p6_o0_r0_5 o336) (f6_p6_o0_r0_6 o336))))) := by kernel_rfl
theorem f6_p11_eq rec x2 x3 x4 x52 x53 x54 r0_0 r0_1 r0_2 r0_3 r0_4 r0_5 r0_6 : f6_p11_st rec (f6_p11_y x2 x3 x4 x52 x53 x54 r0_0 r0_1 r0_2 r0_3 r0_4 r0_5 r0_6) = (bif (decide (x54 < x53)) then ((f6_p10_F (f6_p10_y x2 x3 x4 x52 x53 x54 r0_0 r0_1 r0_2 r0_3 r0_4 r0_5 r0_6)).bind fun o337 => rec (f6_p11_y (f6_p10_o0_x2 o337) (f6_p10_o0_x3 o337) (f6_p10_o0_x4 o337) (f6_p10_o0_x52 o337) (f6_p10_o0_x53 o337) (IntKind.i64.wrap ((f6_p10_o0_x54 o337) + (1 : Int))) (f6_p10_o0_r0_0 o337) (f6_p10_o0_r0_1 o337) (f6_p10_o0_r0_2 o337) (f6_p10_o0_r0_3 o337) (f6_p10_o0_r0_4 o337) (f6_p10_o0_r0_5 o337) (f6_p10_o0_r0_6 o337))) else (some ((f6_p11_o0_y x2 x3 x4 r0_0 r0_1 r0_2 r0_3 r0_4 r0_5 r0_6)))) := by kernel_rfl
theorem f6_p12_eq x1 x2 x3 x4 x12 r0_0 r0_1 r0_2 r0_3 r0_4 r0_5 r0_6 : f6_p12_F (f6_p12_y x1 x2 x3 x4 x12 r0_0 r0_1 r0_2 r0_3 r0_4 r0_5 r0_6) = (bif (x12 != (0 : Int)) then (some ((f6_p12_o0_y x1 x2 x3 x4 true r0_0 r0_1 r0_2 r0_3 r0_4 r0_5 r0_6))) else ((f8_F ()).bind fun r338 => some ((f6_p12_o0_y x1 x2 x3 x4 (!r338.1) r0_0 r0_1 r0_2 r0_3 r0_4 r0_5 r0_6)))) := by kernel_rfl
theorem f6_eq a0 a1 a2 a3 a4 : f6_F (a0, (a1, (a2, (a3, (a4, ()))))) = ((f7_F ((minI (maxI a0 (4 : Int)) (64 : Int)), ())).bind fun r339 => (f6_p12_F (f6_p12_y a1 a2 a3 a4 r339.2.1 r339.1.1 r339.1.2.1 r339.1.2.2.1 r339.1.2.2.2.1 r339.1.2.2.2.2.1 r339.1.2.2.2.2.2.1 r339.1.2.2.2.2.2.2.1)).bind fun o340 => bif (f6_p12_o0_x51 o340) then (some (false, ())) else ((go f6_p11_st (f6_p11_y (f6_p12_o0_x2 o340) (f6_p12_o0_x3 o340) (f6_p12_o0_x4 o340) (f6_p12_o0_x1 o340) ((f6_p12_o0_x1 o340).length : Int) (0 : Int) (f6_p12_o0_r0_0 o340) (f6_p12_o0_r0_1 o340) (f6_p12_o0_r0_2 o340) (f6_p12_o0_r0_3 o340) (f6_p12_o0_r0_4 o340) (f6_p12_o0_r0_5 o340) (f6_p12_o0_r0_6 o340))).bind fun o341 => (f9_F ((f6_p11_o0_x2 o341), ())).bind fun r342 => (f18_F (((f6_p11_o0_r0_0 o341), ((f6_p11_o0_r0_1 o341), ((f6_p11_o0_r0_2 o341), ((f6_p11_o0_r0_3 o341), ((f6_p11_o0_r0_4 o341), ((f6_p11_o0_r0_5 o341), ((f6_p11_o0_r0_6 o341), ()))))))), (r342.1, ()))).bind fun r343 => bif (r343.2.1 != (0 : Int)) then (some (true, ())) else ((go f6_p9_st (f6_p9_y r342.1 (f6_p11_o0_x3 o341) (f6_p11_o0_x4 o341) r343.1 (f6_p11_o0_r0_2 o341) ((f6_p11_o0_r0_2 o341).length : Int) (0 : Int) (f6_p11_o0_r0_0 o341) (f6_p11_o0_r0_1 o341) (f6_p11_o0_r0_2 o341) (f6_p11_o0_r0_3 o341) (f6_p11_o0_r0_4 o341) (f6_p11_o0_r0_5 o341) (f6_p11_o0_r0_6 o341) ([] : List (List UInt8)))).bind fun o344 => (f12_F ((f6_p9_o0_l0 o344), ((f6_p9_o0_x2 o344), ()))).bind fun r345 => cutHi (f6_p9_o0_x17 o344) (IntKind.i64.wrap ((Int.tmod (IntKind.i64.wrap ((Int.tmod (f6_p9_o0_x3 o344) (2 : Int)) + (2 : Int))) (2 : Int)) + (1 : Int))) fun s346 => (f6_p7_F (f6_p7_y (Int.tmod (IntKind.i64.wrap ((Int.tmod (f6_p9_o0_x3 o344) (2 : Int)) + (2 : Int))) (2 : Int)) (f6_p9_o0_x4 o344) (f6_p9_o0_l0 o344) r345.1 s346 (s346.length : Int) (0 : Int) (f6_p9_o0_r0_0 o344) (f6_p9_o0_r0_1 o344) (f6_p9_o0_r0_2 o344) (f6_p9_o0_r0_3 o344) (f6_p9_o0_r0_4 o344) (f6_p9_o0_r0_5 o344) (f6_p9_o0_r0_6 o344) (f6_p9_o0_r0_0 o344) (f6_p9_o0_r0_1 o344))).bind fun o347 => (match o347 with | .inl z348 => some ((f6_p7_o0_x10 z348), ()) | .inr o349 => (f6_p8_F (f6_p8_y (f6_p7_o1_x3 o349) (f6_p7_o1_x4 o349) (f6_p7_o1_x19 o349) (f6_p7_o1_x22 o349) (f6_p7_o1_r0_0 o349) (f6_p7_o1_r0_1 o349) (f6_p7_o1_r0_2 o349) (f6_p7_o1_r0_3 o349) (f6_p7_o1_r0_4 o349) (f6_p7_o1_r0_5 o349) (f6_p7_o1_r0_6 o349) (f6_p7_o1_r1_0 o349) (f6_p7_o1_r1_1 o349))).bind fun o350 => some ((f6_p8_o0_x10 o350), ()))))) := by kernel_rfl
end Go.Pe.Try
end
section
namespace Go.Pe.Try
open Go.Proofs Go.RowKit Go.Pe.Kv Go.Pe.X17
set_option maxRecDepth 100000
set_option linter.unusedSimpArgs false
set_option linter.unusedVariables false
def sel (keep : List Bool) : Nat → List PWr → List PWr
  | _, [] => []
  | i, w :: l => (bif keep.getD i false then [w] else []) ++ sel keep (i + 1) l
theorem sel_kept (keep : List Bool) : ∀ (D : List PWr) (i : Nat) (S : List Str), foldi (keptS keep) i S D = (sel keep i D).foldl X17.put S
  | [], _, _ => rfl
  | w :: D, i, S => by
    rw [foldi, sel_kept keep D]
    unfold keptS
    simp only [sel, List.foldl_append]
    cases keep.getD i false <;> rfl
theorem sel_placed (keep : List Bool) (a : Nat) : ∀ (W : List PWr) (i : Nat), sel keep i (placed a W) = placed a (sel keep i W)
  | [], _ => rfl
  | w :: W, i => by
    have ih := sel_placed keep a W (i + 1)
    show (bif keep.getD i false then _ else _) ++ sel keep (i + 1) (placed a W) = placed a ((bif keep.getD i false then [w] else []) ++ sel keep (i + 1) W)
    rw [ih]
    cases keep.getD i false <;> rfl
theorem sel_mem (keep : List Bool) : ∀ (W : List PWr) (i : Nat), ∀ w ∈ sel keep i W, w ∈ W
  | [], _, w, h => by cases h
  | x :: W, i, w, h => by
    rcases List.mem_append.1 h with h | h
    · cases hk : keep.getD i false <;> rw [hk] at h
      · cases h
      · simp only [cond_true, List.mem_singleton] at h; simp [h]
    · simp [sel_mem keep W (i + 1) w h]
theorem sel_len (keep : List Bool) : ∀ (W : List PWr) (i : Nat), (sel keep i W).length ≤ W.length
  | [], _ => by simp [sel]
  | x :: W, i => by
    have := sel_len keep W (i + 1)
    simp only [sel, List.length_append, List.length_cons]
    cases keep.getD i false <;> simp <;> omega
theorem tmod2 (x : Int) : Int.tmod (IntKind.i64.wrap (Int.tmod x 2 + 2)) 2 = 0 ∨ Int.tmod (IntKind.i64.wrap (Int.tmod x 2 + 2)) 2 = 1 := by
  have h1 := Int.tmod_lt_of_pos x (show (0 : Int) < 2 by decide)
  have h2 := Int.lt_tmod_of_pos x (show (0 : Int) < 2 by decide)
  have : Int.tmod x 2 = -1 ∨ Int.tmod x 2 = 0 ∨ Int.tmod x 2 = 1 := by omega
  rcases this with e | e | e <;> rw [e]
  · right; decide
  · left; decide
  · right; decide
theorem crash_step {S A h t u} (s : Store S A h t u) (x2 : List Str) (x3 : Int) (x4 : List Bool) (rows : List (List Str)) (n2 : Int) (i : Nat) (hi : i < rows.length) : ∃ S' A' h' t' u', Store S' A' h' t' u' ∧
    f6_p10_F (f6_p10_y x2 x3 x4 rows n2 i S [] (A.map (·.1)) (A.map (·.2)) h t u) = some (f6_p10_o0_y x2 x3 x4 rows n2 i S' [] (A'.map (·.1)) (A'.map (·.2)) h' t' u') := by
  obtain ⟨t1, t2⟩ := texts_len rows[i]
  rw [f6_p10_eq, nth_lt hi, Option.bind_some, texts_eq, Option.bind_some]
  dsimp only
  rcases put_cases s (l := texts rows[i]) (by omega) with ⟨hp, hst⟩ | ⟨hp, e, he, hst, _⟩ | ⟨hp, h', t', u', W, p, hst⟩
  · rw [put_err s (by omega) hst, Option.bind_some, f6_p6_eq, show ((1 : Int) == 0) = false from rfl, cond_false, Option.bind_some]
    simp only [f6_p6_o0_x2_y, f6_p6_o0_x3_y, f6_p6_o0_x4_y, f6_p6_o0_x52_y, f6_p6_o0_x53_y, f6_p6_o0_x54_y, f6_p6_o0_x71_y, f6_p6_o0_r0_0_y, f6_p6_o0_r0_1_y, f6_p6_o0_r0_2_y, f6_p6_o0_r0_3_y, f6_p6_o0_r0_4_y, f6_p6_o0_r0_5_y, f6_p6_o0_r0_6_y, f6_p6_o0_r1_0_y, f6_p6_o0_r1_1_y, f6_p6_o0_r1_2_y, f6_p6_o0_r1_3_y, f6_p6_o0_r1_4_y, f6_p6_o0_r1_5_y, f6_p6_o0_r1_6_y, cond_false]
    exact ⟨S, A, h, t, u, s, rfl⟩
  · rw [put_err s (by omega) hst, Option.bind_some, f6_p6_eq, show (e == (0 : Int)) = false from by rcases he with rfl | rfl <;> rfl, cond_false, Option.bind_some]
    simp only [f6_p6_o0_x2_y, f6_p6_o0_x3_y, f6_p6_o0_x4_y, f6_p6_o0_x52_y, f6_p6_o0_x53_y, f6_p6_o0_x54_y, f6_p6_o0_x71_y, f6_p6_o0_r0_0_y, f6_p6_o0_r0_1_y, f6_p6_o0_r0_2_y, f6_p6_o0_r0_3_y, f6_p6_o0_r0_4_y, f6_p6_o0_r0_5_y, f6_p6_o0_r0_6_y, f6_p6_o0_r1_0_y, f6_p6_o0_r1_1_y, f6_p6_o0_r1_2_y, f6_p6_o0_r1_3_y, f6_p6_o0_r1_4_y, f6_p6_o0_r1_5_y, f6_p6_o0_r1_6_y, cond_false]
    exact ⟨S, A, h, t, u, s, rfl⟩
  · rw [put_ok s p hst, Option.bind_some, f6_p6_eq, beq0, cond_true, Option.bind_some]
    simp only [f6_p6_o0_x2_y, f6_p6_o0_x3_y, f6_p6_o0_x4_y, f6_p6_o0_x52_y, f6_p6_o0_x53_y, f6_p6_o0_x54_y, f6_p6_o0_x71_y, f6_p6_o0_r0_0_y, f6_p6_o0_r0_1_y, f6_p6_o0_r0_2_y, f6_p6_o0_r0_3_y, f6_p6_o0_r0_4_y, f6_p6_o0_r0_5_y, f6_p6_o0_r0_6_y, f6_p6_o0_r1_0_y, f6_p6_o0_r1_1_y, f6_p6_o0_r1_2_y, f6_p6_o0_r1_3_y, f6_p6_o0_r1_4_y, f6_p6_o0_r1_5_y, f6_p6_o0_r1_6_y]
    cases decide ((i : Int) < 12)
    · rw [cond_false]; exact ⟨S, A, h, t, u, s, rfl⟩
    · rw [cond_true]; exact ⟨_, _, _, _, _, plan_store s p, rfl⟩
theorem crash_loop (x2 : List Str) (x3 : Int) (x4 : List Bool) (rows : List (List Str)) (hb : rows.length < 4611686018427387904) : ∀ (d i : Nat), i + d = rows.length → ∀ n, d + 1 ≤ n → ∀ {S A h t u}, Store S A h t u →
    ∃ S' A' h' t' u', Store S' A' h' t' u' ∧ iter f6_p11_st n (f6_p11_y x2 x3 x4 rows rows.length i S [] (A.map (·.1)) (A.map (·.2)) h t u) = some (f6_p11_o0_y x2 x3 x4 S' [] (A'.map (·.1)) (A'.map (·.2)) h' t' u') := by
  intro d
  induction d with
  | zero =>
    intro i hi n hn S A h t u s
    obtain ⟨n, rfl⟩ : ∃ k, n = k + 1 := ⟨n - 1, by omega⟩
    rw [iter, f6_p11_eq, show decide ((i : Int) < (rows.length : Int)) = false from by simp; omega, cond_false]
    exact ⟨S, A, h, t, u, s, rfl⟩
  | succ d ih =>
    intro i hi n hn S A h t u s
    obtain ⟨n, rfl⟩ : ∃ k, n = k + 1 := ⟨n - 1, by omega⟩
    obtain ⟨S', A', h', t', u', s', e⟩ := crash_step s x2 x3 x4 rows rows.length i (by omega)
    rw [iter, f6_p11_eq, show decide ((i : Int) < (rows.length : Int)) = true from by simp; omega, cond_true, e, Option.bind_some]
    simp only [f6_p10_o0_x2_y, f6_p10_o0_x3_y, f6_p10_o0_x4_y, f6_p10_o0_x52_y, f6_p10_o0_x53_y, f6_p10_o0_x54_y, f6_p10_o0_r0_0_y, f6_p10_o0_r0_1_y, f6_p10_o0_r0_2_y, f6_p10_o0_r0_3_y, f6_p10_o0_r0_4_y, f6_p10_o0_r0_5_y, f6_p10_o0_r0_6_y]
    rw [show IntKind.i64.wrap ((i : Int) + (1 : Int)) = ((i + 1 : Nat) : Int) from wrap_add i 1 (by omega) (by omega)]
    exact ih (i + 1) (by omega) n (by omega) s'
theorem flat_take (A : List PR) (i : Nat) (h : i < A.length) : flat (A.take (i + 1)) = flat (A.take i) ++ [A[i].1, A[i].2] := by
  rw [List.take_succ_eq_append_getElem h, flat_app]; rfl
theorem all_loop9 (x2 : List Str) (x3 : Int) (x4 : List Bool) (x17 : List (List PWr)) (S : List Str) (D : List PWr) (h t u : Int) (A : List PR) (hA : A.length ≤ 256000) : ∀ (d i : Nat), i + d = A.length → ∀ n, d + 1 ≤ n →
    iter f6_p9_st n (f6_p9_y x2 x3 x4 x17 (A.map (·.1)) A.length i S D (A.map (·.1)) (A.map (·.2)) h t u (flat (A.take i))) = some (f6_p9_o0_y x2 x3 x4 x17 S D (A.map (·.1)) (A.map (·.2)) h t u (flat A)) := by
  intro d
  induction d with
  | zero =>
    intro i hi n hn
    obtain ⟨n, rfl⟩ : ∃ k, n = k + 1 := ⟨n - 1, by omega⟩
    rw [iter, f6_p9_eq, show decide ((i : Int) < (A.length : Int)) = false from by simp; omega, cond_false, List.take_of_length_le (by omega)]
  | succ d ih =>
    intro i hi n hn
    obtain ⟨n, rfl⟩ : ∃ k, n = k + 1 := ⟨n - 1, by omega⟩
    have hil : i < A.length := by omega
    have hk1 : nth (A.map (·.1)) (i : Int) = some A[i].1 := by rw [nth_lt (by simpa using hil), List.getElem_map]
    have hk2 : nth (A.map (·.2)) (i : Int) = some A[i].2 := by rw [nth_lt (by simpa using hil), List.getElem_map]
    have hfl := Kv.flat_len (A.take i)
    rw [List.length_take] at hfl
    rw [iter, f6_p9_eq, show decide ((i : Int) < (A.length : Int)) = true from by simp; omega, cond_true, hk1, Option.bind_some, hk2, Option.bind_some, appOk_lt (by simp only [List.length_cons, List.length_nil]; omega), show IntKind.i64.wrap ((i : Int) + (1 : Int)) = ((i + 1 : Nat) : Int) from wrap_add i 1 (by omega) (by omega), ← flat_take A i hil, ih (i + 1) (by omega) n (by omega)]
theorem now_loop (x3 : Int) (x19 x22 : List Str) (S0 : List Str) (D0 : List PWr) (K0 V0 : List Str) (h0 t0 u0 : Int) (S : List Str) (D : List PWr) (h t u : Int) (A : List PR) (hA : A.length ≤ 256000) : ∀ (d i : Nat), i + d = A.length → ∀ n, d + 1 ≤ n →
    iter f6_p1_st n (f6_p1_y x3 x19 x22 (A.map (·.1)) A.length i S0 D0 K0 V0 h0 t0 u0 S D (A.map (·.1)) (A.map (·.2)) h t u (flat (A.take i))) = some (f6_p1_o0_y x3 x19 x22 S0 D0 K0 V0 h0 t0 u0 S D (A.map (·.1)) (A.map (·.2)) h t u (flat A)) := by
  intro d
  induction d with
  | zero =>
    intro i hi n hn
    obtain ⟨n, rfl⟩ : ∃ k, n = k + 1 := ⟨n - 1, by omega⟩
    rw [iter, f6_p1_eq, show decide ((i : Int) < (A.length : Int)) = false from by simp; omega, cond_false, List.take_of_length_le (by omega)]
  | succ d ih =>
    intro i hi n hn
    obtain ⟨n, rfl⟩ : ∃ k, n = k + 1 := ⟨n - 1, by omega⟩
    have hil : i < A.length := by omega
    have hk1 : nth (A.map (·.1)) (i : Int) = some A[i].1 := by rw [nth_lt (by simpa using hil), List.getElem_map]
    have hk2 : nth (A.map (·.2)) (i : Int) = some A[i].2 := by rw [nth_lt (by simpa using hil), List.getElem_map]
    have hfl := Kv.flat_len (A.take i)
    rw [List.length_take] at hfl
    rw [iter, f6_p1_eq, show decide ((i : Int) < (A.length : Int)) = true from by simp; omega, cond_true, hk1, Option.bind_some, hk2, Option.bind_some, appOk_lt (by simp only [List.length_cons, List.length_nil]; omega), show IntKind.i64.wrap ((i : Int) + (1 : Int)) = ((i + 1 : Nat) : Int) from wrap_add i 1 (by omega) (by omega), ← flat_take A i hil, ih (i + 1) (by omega) n (by omega)]
theorem put_loop6 (x3 : Int) (x4 : List Bool) (x19 x22 : List Str) (x24 : Int) (x114 : List (List PWr)) (x115 x116 : Int) (S0 : List Str) (D0 : List PWr) (K0 V0 : List Str) (h0 t0 u0 : Int) (S : List Str) (W : List PWr) (hr : Right S []) (hW : GoodW S W) (hf : W.length ≤ 199) : ∀ (d i : Nat), i + d = W.length → ∀ n, d + 1 ≤ n →
    iter f6_p0_st n (f6_p0_y x3 x4 x19 x22 x24 x114 x115 x116 W W.length i S0 D0 K0 V0 h0 t0 u0 S (W.take i)) = some (.inl (f6_p0_o0_y x3 x4 x19 x22 x24 x114 x115 x116 S0 D0 K0 V0 h0 t0 u0 S W)) := by
  intro d
  induction d with
  | zero =>
    intro i hi n hn
    obtain ⟨n, rfl⟩ : ∃ k, n = k + 1 := ⟨n - 1, by omega⟩
    rw [iter, f6_p0_eq, show decide ((i : Int) < (W.length : Int)) = false from by simp; omega, cond_false, List.take_of_length_le (by omega)]
  | succ d ih =>
    intro i hi n hn
    obtain ⟨n, rfl⟩ : ∃ k, n = k + 1 := ⟨n - 1, by omega⟩
    have hil : i < W.length := by omega
    obtain ⟨w0, w1, w2⟩ := hW _ (List.getElem_mem hil)
    have hrd : Right S (W.take i) := right_one hr (fun w hw => hW w (List.mem_of_mem_take hw)) (by simp; omega)
    rw [iter, f6_p0_eq, show decide ((i : Int) < (W.length : Int)) = true from by simp; omega, cond_true, nth_lt hil, Option.bind_some, put_one hrd w0 w1 w2 (by simp; omega), Option.bind_some]
    dsimp only
    rw [bne0, cond_false, show IntKind.i64.wrap ((i : Int) + (1 : Int)) = ((i + 1 : Nat) : Int) from wrap_add i 1 (by omega) (by omega), ← List.take_succ_eq_append_getElem hil, ih (i + 1) (by omega) n (by omega)]
theorem put_go6 (x3 : Int) (x4 : List Bool) (x19 x22 : List Str) (x24 : Int) (x114 : List (List PWr)) (x115 x116 : Int) (S0 : List Str) (D0 : List PWr) (K0 V0 : List Str) (h0 t0 u0 : Int) (S : List Str) (W : List PWr) (hr : Right S []) (hW : GoodW S W) (hf : W.length ≤ 199) :
    go f6_p0_st (f6_p0_y x3 x4 x19 x22 x24 x114 x115 x116 W W.length 0 S0 D0 K0 V0 h0 t0 u0 S []) = some (.inl (f6_p0_o0_y x3 x4 x19 x22 x24 x114 x115 x116 S0 D0 K0 V0 h0 t0 u0 S W)) := by
  refine go_le (m := W.length + 1) (fun n hn => ?_) (by rw [fuel_def]; omega)
  exact put_loop6 x3 x4 x19 x22 x24 x114 x115 x116 S0 D0 K0 V0 h0 t0 u0 S W hr hW hf W.length 0 (by omega) n hn
theorem found {S0 A h t u} (s0 : Store S0 A h t u) {S' A' h' t' u'} (s : Store S' A' h' t' u') (x3 : Int) (x4 : List Bool) (then_ : List Str) (Sd : List Str) (D : List PWr) (hd : Right Sd D) (hc : foldi (keptS x4) 0 Sd D = S') (hh : (A' = A ∧ t' = t) ∨ (x3 = 1 ∧ flat A' = then_)) :
    f6_p8_F (f6_p8_y x3 x4 (flat A) then_ S0 [] (A.map (·.1)) (A.map (·.2)) h t u Sd D) = some (f6_p8_o0_y true) := by
  obtain ⟨z1, z2, z3⟩ := s.sizes
  have hfl := Kv.flat_len A'
  rw [f6_p8_eq, crash_is hd x4, hc, Option.bind_some]
  dsimp only
  rw [open_eq s, Option.bind_some]
  dsimp only
  rw [f6_p4_eq, bne0, cond_false, Option.bind_some]
  simp only [f6_p4_o0_x3_y, f6_p4_o0_x19_y, f6_p4_o0_x22_y, f6_p4_o0_x168_y, f6_p4_o0_r0_0_y, f6_p4_o0_r0_1_y, f6_p4_o0_r0_2_y, f6_p4_o0_r0_3_y, f6_p4_o0_r0_4_y, f6_p4_o0_r0_5_y, f6_p4_o0_r0_6_y, f6_p4_o0_r2_0_y, f6_p4_o0_r2_1_y, f6_p4_o0_r2_2_y, f6_p4_o0_r2_3_y, f6_p4_o0_r2_4_y, f6_p4_o0_r2_5_y, f6_p4_o0_r2_6_y, cond_false]
  have hgo : go f6_p1_st (f6_p1_y x3 (flat A) then_ (A'.map (·.1)) (A'.map (·.1)).length 0 S0 [] (A.map (·.1)) (A.map (·.2)) h t u S' [] (A'.map (·.1)) (A'.map (·.2)) h' t' u' []) = some (f6_p1_o0_y x3 (flat A) then_ S0 [] (A.map (·.1)) (A.map (·.2)) h t u S' [] (A'.map (·.1)) (A'.map (·.2)) h' t' u' (flat A')) := by
    refine go_le (m := A'.length + 1) (fun n hn => ?_) (by rw [fuel_def]; omega)
    rw [List.length_map]
    exact now_loop x3 (flat A) then_ S0 [] _ _ h t u S' [] h' t' u' A' z1 A'.length 0 (by omega) n hn
  rw [hgo, Option.bind_some]
  simp only [f6_p1_o0_x3_y, f6_p1_o0_x19_y, f6_p1_o0_x22_y, f6_p1_o0_r0_0_y, f6_p1_o0_r0_1_y, f6_p1_o0_r0_2_y, f6_p1_o0_r0_3_y, f6_p1_o0_r0_4_y, f6_p1_o0_r0_5_y, f6_p1_o0_r0_6_y, f6_p1_o0_r2_0_y, f6_p1_o0_r2_1_y, f6_p1_o0_r2_2_y, f6_p1_o0_r2_3_y, f6_p1_o0_r2_4_y, f6_p1_o0_r2_5_y, f6_p1_o0_r2_6_y, f6_p1_o0_l0_y]
  rw [f6_p2_eq, same_eq _ _ (by omega), Option.bind_some]
  dsimp only
  rcases hh with ⟨rfl, rfl⟩ | ⟨h3, ht⟩
  · rw [decide_eq_true rfl, cond_true, Option.bind_some]
    simp only [f6_p2_o0_x3_y, f6_p2_o0_x22_y, f6_p2_o0_x196_y, f6_p2_o0_l0_y]
    rw [show (((t' : Nat) : Int) == (t' : Int)) = true from by simp, cond_true]
  · have tail : ∀ b : Bool, ((some (f6_p2_o0_y x3 then_ b (flat A'))).bind fun o329 => bif (f6_p2_o0_x196 o329) then (some ((f6_p8_o0_y true))) else (bif ((f6_p2_o0_x3 o329) == (1 : Int)) then ((f16_F ((f6_p2_o0_l0 o329), ((f6_p2_o0_x22 o329), ()))).bind fun r330 => some ((f6_p8_o0_y r330.1))) else (some ((f6_p8_o0_y false))))) = some (f6_p8_o0_y true) := by
      intro b
      rw [Option.bind_some]
      simp only [f6_p2_o0_x3_y, f6_p2_o0_x22_y, f6_p2_o0_x196_y, f6_p2_o0_l0_y]
      rw [h3, show ((1 : Int) == 1) = true from rfl, cond_true, same_eq _ _ (by omega), decide_eq_true ht, Option.bind_some]
      cases b <;> rfl
    cases decide (flat A' = flat A)
    · rw [cond_false]; exact tail false
    · rw [cond_true]; exact tail _
theorem good_head {S A h t u l h' t' u' W} (s : Store S A h t u) (p : Plan S A h t u l h' t' u' W) : Right (diskW S h' W) [] ∧ GoodW (diskW S h' W) [(((atH S h' : Nat) : Int), head t' u')] := by
  have hfew := p.few
  have hlen : (diskW S h' W).length = S.length := (p.view s (W' := W) fun _ h => h).len
  have hlt := atH_lt S h' p.hh s.right.lo
  refine ⟨right_diskW s.right (p.good s (W' := W) fun _ h => h) (by simp [placed]; omega), fun w hw => ?_⟩
  simp only [List.mem_singleton] at hw; subst hw
  exact ⟨by simp, by rw [hlen]; omega, head_len _ _⟩
theorem steps0 {S A h t u l h' t' u' W} (s : Store S A h t u) (p : Plan S A h t u l h' t' u' W) (x4 : List Bool) (x19 x22 : List Str) (n : Nat) : iter f6_p5_st (n + 2) (f6_p5_y 0 x4 x19 x22 [placed (atH S h') W] 1 0 S [] (A.map (·.1)) (A.map (·.2)) h t u S []) = some (.inl (f6_p5_o0_y 0 x4 x19 x22 S [] (A.map (·.1)) (A.map (·.2)) h t u S (placed (atH S h') W))) := by
  have hgW := p.good s (W' := W) fun _ h => h
  have hfew := p.few
  rw [iter, f6_p5_eq, show decide ((0 : Int) < 1) = true from rfl, cond_true, f6_p3_eq, show nth [placed (atH S h') W] (0 : Int) = some (placed (atH S h') W) from rfl, Option.bind_some, put_go6 _ _ _ _ _ _ _ _ _ _ _ _ _ _ _ _ _ s.right hgW (by simp [placed]; omega), Option.bind_some]
  dsimp only
  simp only [f6_p0_o0_x3_y, f6_p0_o0_x4_y, f6_p0_o0_x19_y, f6_p0_o0_x22_y, f6_p0_o0_x24_y, f6_p0_o0_x114_y, f6_p0_o0_x115_y, f6_p0_o0_x116_y, f6_p0_o0_r0_0_y, f6_p0_o0_r0_1_y, f6_p0_o0_r0_2_y, f6_p0_o0_r0_3_y, f6_p0_o0_r0_4_y, f6_p0_o0_r0_5_y, f6_p0_o0_r0_6_y, f6_p0_o0_r1_0_y, f6_p0_o0_r1_1_y]
  rw [show decide ((0 : Int) < 0) = false from rfl, cond_false, Option.bind_some]
  dsimp only
  simp only [f6_p3_o1_x3_y, f6_p3_o1_x4_y, f6_p3_o1_x19_y, f6_p3_o1_x22_y, f6_p3_o1_x114_y, f6_p3_o1_x115_y, f6_p3_o1_x116_y, f6_p3_o1_r0_0_y, f6_p3_o1_r0_1_y, f6_p3_o1_r0_2_y, f6_p3_o1_r0_3_y, f6_p3_o1_r0_4_y, f6_p3_o1_r0_5_y, f6_p3_o1_r0_6_y, f6_p3_o1_r1_0_y, f6_p3_o1_r1_1_y]
  rw [show IntKind.i64.wrap ((0 : Int) + 1) = 1 from by decide, iter, f6_p5_eq, show decide ((1 : Int) < 1) = false from rfl, cond_false]
theorem steps1 {S A h t u l h' t' u' W} (s : Store S A h t u) (p : Plan S A h t u l h' t' u' W) (x4 : List Bool) (x19 x22 : List Str) (n : Nat) : iter f6_p5_st (n + 3) (f6_p5_y 1 x4 x19 x22 (stepsOf S h' t' u' W) 2 0 S [] (A.map (·.1)) (A.map (·.2)) h t u S []) = some (.inl (f6_p5_o0_y 1 x4 x19 x22 S [] (A.map (·.1)) (A.map (·.2)) h t u (diskW S h' W) [(((atH S h' : Nat) : Int), head t' u')])) := by
  have hgW := p.good s (W' := W) fun _ h => h
  have hfew := p.few
  obtain ⟨g1, g2⟩ := good_head s p
  rw [iter, f6_p5_eq, show decide ((0 : Int) < 2) = true from rfl, cond_true, f6_p3_eq, show nth (stepsOf S h' t' u' W) (0 : Int) = some (placed (atH S h') W) from rfl, Option.bind_some, put_go6 _ _ _ _ _ _ _ _ _ _ _ _ _ _ _ _ _ s.right hgW (by simp [placed]; omega), Option.bind_some]
  dsimp only
  simp only [f6_p0_o0_x3_y, f6_p0_o0_x4_y, f6_p0_o0_x19_y, f6_p0_o0_x22_y, f6_p0_o0_x24_y, f6_p0_o0_x114_y, f6_p0_o0_x115_y, f6_p0_o0_x116_y, f6_p0_o0_r0_0_y, f6_p0_o0_r0_1_y, f6_p0_o0_r0_2_y, f6_p0_o0_r0_3_y, f6_p0_o0_r0_4_y, f6_p0_o0_r0_5_y, f6_p0_o0_r0_6_y, f6_p0_o0_r1_0_y, f6_p0_o0_r1_1_y]
  rw [show decide ((0 : Int) < 1) = true from rfl, cond_true, sync_is (right_one s.right hgW (by simp [placed]; omega)), Option.bind_some]
  dsimp only
  rw [bne0, cond_false, Option.bind_some]
  dsimp only
  simp only [f6_p3_o1_x3_y, f6_p3_o1_x4_y, f6_p3_o1_x19_y, f6_p3_o1_x22_y, f6_p3_o1_x114_y, f6_p3_o1_x115_y, f6_p3_o1_x116_y, f6_p3_o1_r0_0_y, f6_p3_o1_r0_1_y, f6_p3_o1_r0_2_y, f6_p3_o1_r0_3_y, f6_p3_o1_r0_4_y, f6_p3_o1_r0_5_y, f6_p3_o1_r0_6_y, f6_p3_o1_r1_0_y, f6_p3_o1_r1_1_y]
  rw [show IntKind.i64.wrap ((0 : Int) + 1) = 1 from by decide]
  show iter f6_p5_st (n + 2) (f6_p5_y 1 x4 x19 x22 (stepsOf S h' t' u' W) 2 1 S [] (A.map (·.1)) (A.map (·.2)) h t u (diskW S h' W) []) = _
  rw [iter, f6_p5_eq, show decide ((1 : Int) < 2) = true from rfl, cond_true, f6_p3_eq, show nth (stepsOf S h' t' u' W) (1 : Int) = some [(((atH S h' : Nat) : Int), head t' u')] from rfl, Option.bind_some, put_go6 _ _ _ _ _ _ _ _ _ _ _ _ _ _ _ _ _ g1 g2 (by simp), Option.bind_some]
  dsimp only
  simp only [f6_p0_o0_x3_y, f6_p0_o0_x4_y, f6_p0_o0_x19_y, f6_p0_o0_x22_y, f6_p0_o0_x24_y, f6_p0_o0_x114_y, f6_p0_o0_x115_y, f6_p0_o0_x116_y, f6_p0_o0_r0_0_y, f6_p0_o0_r0_1_y, f6_p0_o0_r0_2_y, f6_p0_o0_r0_3_y, f6_p0_o0_r0_4_y, f6_p0_o0_r0_5_y, f6_p0_o0_r0_6_y, f6_p0_o0_r1_0_y, f6_p0_o0_r1_1_y]
  rw [show decide ((1 : Int) < 1) = false from rfl, cond_false, Option.bind_some]
  dsimp only
  simp only [f6_p3_o1_x3_y, f6_p3_o1_x4_y, f6_p3_o1_x19_y, f6_p3_o1_x22_y, f6_p3_o1_x114_y, f6_p3_o1_x115_y, f6_p3_o1_x116_y, f6_p3_o1_r0_0_y, f6_p3_o1_r0_1_y, f6_p3_o1_r0_2_y, f6_p3_o1_r0_3_y, f6_p3_o1_r0_4_y, f6_p3_o1_r0_5_y, f6_p3_o1_r0_6_y, f6_p3_o1_r1_0_y, f6_p3_o1_r1_1_y]
  rw [show IntKind.i64.wrap ((1 : Int) + 1) = 2 from by decide, iter, f6_p5_eq, show decide ((2 : Int) < 2) = false from rfl, cond_false]
theorem lawCrashes (a0 : Int) (a1 : List (List Str)) (a2 : List Str) (a3 : Int) (a4 : List Bool) (_ : Wf reachBytes (.int .i64) a0) (hw : Wf reachBytes (.list (.list .str)) a1) (_ : Wf reachBytes (.list .str) a2) (_ : Wf reachBytes (.int .i64) a3) (_ : Wf reachBytes (.list .bool) a4) : f6_F (a0, (a1, (a2, (a3, (a4, ()))))) = some (true, ()) := by
  have hb : a1.length ≤ 140737488355328 := by have := hw.1; unfold reachBytes at this; omega
  obtain ⟨n, e, n1, n2⟩ := clamp a0 4 (by omega) (by omega)
  have e' : minI (maxI a0 (4 : Int)) (64 : Int) = (n : Int) := e
  have s0 := format_store n1 n2
  rw [f6_eq, e', format_eq n1 n2, Option.bind_some]
  dsimp only
  rw [f6_p12_eq, bne0, cond_false, alive_eq, Option.bind_some, Option.bind_some]
  simp only [f6_p12_o0_x1_y, f6_p12_o0_x2_y, f6_p12_o0_x3_y, f6_p12_o0_x4_y, f6_p12_o0_x51_y, f6_p12_o0_r0_0_y, f6_p12_o0_r0_1_y, f6_p12_o0_r0_2_y, f6_p12_o0_r0_3_y, f6_p12_o0_r0_4_y, f6_p12_o0_r0_5_y, f6_p12_o0_r0_6_y, Bool.not_true, cond_false]
  obtain ⟨S, A, h, t, u, s, hit⟩ := crash_loop a2 a3 a4 a1 (by omega) a1.length 0 (by omega) (fuelOf f6_p11_sh (f6_p11_y a2 a3 a4 a1 a1.length 0 (disk0 n) [] [] [] 0 1 0)) (by
    simp only [fuelOf, fuelL, SAV.fuel, Ty.fuel, fuelR, fuelT, f6_p11_y]; omega) s0
  have hgo : go f6_p11_st (f6_p11_y a2 a3 a4 a1 a1.length 0 (disk0 n) [] [] [] 0 1 0) = some (f6_p11_o0_y a2 a3 a4 S [] (A.map (·.1)) (A.map (·.2)) h t u) := hit
  show ((go f6_p11_st (f6_p11_y a2 a3 a4 a1 a1.length 0 (disk0 n) [] [] [] 0 1 0)).bind _) = _
  rw [hgo, Option.bind_some]
  simp only [f6_p11_o0_x2_y, f6_p11_o0_x3_y, f6_p11_o0_x4_y, f6_p11_o0_r0_0_y, f6_p11_o0_r0_1_y, f6_p11_o0_r0_2_y, f6_p11_o0_r0_3_y, f6_p11_o0_r0_4_y, f6_p11_o0_r0_5_y, f6_p11_o0_r0_6_y]
  obtain ⟨z1, z2, z3⟩ := s.sizes
  obtain ⟨t1, t2⟩ := texts_len a2
  rw [texts_eq, Option.bind_some]
  dsimp only
  rcases put_cases s (l := texts a2) (by omega) with ⟨hp, hst⟩ | ⟨hp, er, he, hst, _⟩ | ⟨hp, h', t', u', W, p, hst⟩
  · rw [hst, Option.bind_some]; rfl
  · rw [hst, Option.bind_some]
    dsimp only
    rw [show (er != (0 : Int)) = true from by rcases he with rfl | rfl <;> rfl, cond_true]
  · obtain ⟨_, p2, _, _⟩ := pairs_spec hp
    rw [hst, Option.bind_some]
    dsimp only
    rw [bne0, cond_false]
    have hgo9 : go f6_p9_st (f6_p9_y (texts a2) a3 a4 (stepsOf S h' t' u' W) (A.map (·.1)) (A.map (·.1)).length 0 S [] (A.map (·.1)) (A.map (·.2)) h t u []) = some (f6_p9_o0_y (texts a2) a3 a4 (stepsOf S h' t' u' W) S [] (A.map (·.1)) (A.map (·.2)) h t u (flat A)) := by
      refine go_le (m := A.length + 1) (fun k hk => ?_) (by rw [fuel_def]; omega)
      rw [List.length_map]
      exact all_loop9 (texts a2) a3 a4 _ S [] h t u A z1 A.length 0 (by omega) k hk
    rw [hgo9, Option.bind_some]
    simp only [f6_p9_o0_x2_y, f6_p9_o0_x3_y, f6_p9_o0_x4_y, f6_p9_o0_x17_y, f6_p9_o0_r0_0_y, f6_p9_o0_r0_1_y, f6_p9_o0_r0_2_y, f6_p9_o0_r0_3_y, f6_p9_o0_r0_4_y, f6_p9_o0_r0_5_y, f6_p9_o0_r0_6_y, f6_p9_o0_l0_y]
    rw [All_eq A (by omega) (fun x hx => by have := z2 x hx; omega) _ (by omega) p2 (fun x hx => by have := t2 x hx; omega), Option.bind_some]
    dsimp only
    have hfew := p.few
    have hgW := p.good s (W' := W) fun _ h => h
    obtain ⟨g1, g2⟩ := good_head s p
    rcases tmod2 a3 with hs | hs
    · rw [hs, show IntKind.i64.wrap ((0 : Int) + 1) = ((1 : Nat) : Int) from by decide, cutHi_nat' _ _ _ (by simp)]
      show ((f6_p7_F (f6_p7_y 0 a4 (flat A) (flat (Kv.all A (texts a2))) [placed (atH S h') W] 1 0 S [] (A.map (·.1)) (A.map (·.2)) h t u S [])).bind _) = _
      rw [f6_p7_eq]
      have hgo5 : go f6_p5_st (f6_p5_y 0 a4 (flat A) (flat (Kv.all A (texts a2))) [placed (atH S h') W] 1 0 S [] (A.map (·.1)) (A.map (·.2)) h t u S []) = some (.inl (f6_p5_o0_y 0 a4 (flat A) (flat (Kv.all A (texts a2))) S [] (A.map (·.1)) (A.map (·.2)) h t u S (placed (atH S h') W))) := by
        refine go_le (m := 2) (fun k hk => ?_) (by rw [fuel_def]; omega)
        obtain ⟨k, rfl⟩ : ∃ j, k = j + 2 := ⟨k - 2, by omega⟩
        exact steps0 s p a4 _ _ k
      rw [hgo5, Option.bind_some]
      dsimp only
      simp only [f6_p5_o0_x3_y, f6_p5_o0_x4_y, f6_p5_o0_x19_y, f6_p5_o0_x22_y, f6_p5_o0_r0_0_y, f6_p5_o0_r0_1_y, f6_p5_o0_r0_2_y, f6_p5_o0_r0_3_y, f6_p5_o0_r0_4_y, f6_p5_o0_r0_5_y, f6_p5_o0_r0_6_y, f6_p5_o0_r1_0_y, f6_p5_o0_r1_1_y, Option.bind_some]
      simp only [f6_p7_o1_x3_y, f6_p7_o1_x4_y, f6_p7_o1_x19_y, f6_p7_o1_x22_y, f6_p7_o1_r0_0_y, f6_p7_o1_r0_1_y, f6_p7_o1_r0_2_y, f6_p7_o1_r0_3_y, f6_p7_o1_r0_4_y, f6_p7_o1_r0_5_y, f6_p7_o1_r0_6_y, f6_p7_o1_r1_0_y, f6_p7_o1_r1_1_y]
      have hsub : ∀ w ∈ sel a4 0 W, w ∈ W := sel_mem a4 W 0
      have hsl := sel_len a4 W 0
      rw [found s (plan_partial s p hsub (by omega)) 0 a4 (flat (Kv.all A (texts a2))) S (placed (atH S h') W) (right_one s.right hgW (by simp [placed]; omega)) (by rw [sel_kept, sel_placed]; rfl) (.inl ⟨rfl, rfl⟩), Option.bind_some]
      rfl
    · rw [hs, show IntKind.i64.wrap ((1 : Int) + 1) = ((2 : Nat) : Int) from by decide, cutHi_nat' _ _ _ (by simp)]
      show ((f6_p7_F (f6_p7_y 1 a4 (flat A) (flat (Kv.all A (texts a2))) (stepsOf S h' t' u' W) 2 0 S [] (A.map (·.1)) (A.map (·.2)) h t u S [])).bind _) = _
      rw [f6_p7_eq]
      have hgo5 : go f6_p5_st (f6_p5_y 1 a4 (flat A) (flat (Kv.all A (texts a2))) (stepsOf S h' t' u' W) 2 0 S [] (A.map (·.1)) (A.map (·.2)) h t u S []) = some (.inl (f6_p5_o0_y 1 a4 (flat A) (flat (Kv.all A (texts a2))) S [] (A.map (·.1)) (A.map (·.2)) h t u (diskW S h' W) [(((atH S h' : Nat) : Int), head t' u')])) := by
        refine go_le (m := 3) (fun k hk => ?_) (by rw [fuel_def]; omega)
        obtain ⟨k, rfl⟩ : ∃ j, k = j + 3 := ⟨k - 3, by omega⟩
        exact steps1 s p a4 _ _ k
      rw [hgo5, Option.bind_some]
      dsimp only
      simp only [f6_p5_o0_x3_y, f6_p5_o0_x4_y, f6_p5_o0_x19_y, f6_p5_o0_x22_y, f6_p5_o0_r0_0_y, f6_p5_o0_r0_1_y, f6_p5_o0_r0_2_y, f6_p5_o0_r0_3_y, f6_p5_o0_r0_4_y, f6_p5_o0_r0_5_y, f6_p5_o0_r0_6_y, f6_p5_o0_r1_0_y, f6_p5_o0_r1_1_y, Option.bind_some]
      simp only [f6_p7_o1_x3_y, f6_p7_o1_x4_y, f6_p7_o1_x19_y, f6_p7_o1_x22_y, f6_p7_o1_r0_0_y, f6_p7_o1_r0_1_y, f6_p7_o1_r0_2_y, f6_p7_o1_r0_3_y, f6_p7_o1_r0_4_y, f6_p7_o1_r0_5_y, f6_p7_o1_r0_6_y, f6_p7_o1_r1_0_y, f6_p7_o1_r1_1_y]
      have hrd := right_one g1 g2 (by simp)
      cases hk : a4.getD 0 false
      · have hc : foldi (keptS a4) 0 (diskW S h' W) [(((atH S h' : Nat) : Int), head t' u')] = diskW S h' W := by
          rw [sel_kept]; simp only [sel, hk]; rfl
        rw [found s (plan_partial s p (W' := W) (fun _ h => h) (by omega)) 1 a4 (flat (Kv.all A (texts a2))) (diskW S h' W) _ hrd hc (.inl ⟨rfl, rfl⟩), Option.bind_some]
        rfl
      · have hc : foldi (keptS a4) 0 (diskW S h' W) [(((atH S h' : Nat) : Int), head t' u')] = diskH S h' t' u' W := by
          rw [sel_kept]; simp only [sel, hk]; rfl
        rw [found s (plan_store s p) 1 a4 (flat (Kv.all A (texts a2))) (diskW S h' W) _ hrd hc (.inr ⟨rfl, rfl⟩), Option.bind_some]
        rfl
end Go.Pe.Try
end
