/- How data read in memory. -/
import Derived.Test.YtgghmllnhaahgaaPeEv
namespace Go.Pe
open Go.RowKit

def CellsAt (w : World) (ad : Addr) (us : List Value) : Prop := ∀ j, j < us.length → w.cell? ⟨ad.block, ad.off + j, none⟩ = us[j]?

def RepAll {α : Type} (R : α → List Value → Prop) : List α → List Value → Prop
  | [], us => us = []
  | x :: xs, us => ∃ u1 u2, us = u1 ++ u2 ∧ R x u1 ∧ RepAll R xs u2

def SliceRep {α : Type} (A : Nat → Prop) (w : World) (R : α → List Value → Prop) (xs : List α) (v : Value) : Prop :=
  ∃ a cap, v = .slice a xs.length cap ∧ xs.length ≤ cap ∧ (xs = [] ∨ ∃ ad us, a = some ad ∧ ad.spot = none ∧ A ad.block ∧ CellsAt w ad us ∧ RepAll R xs us)

inductive RepV (A : Nat → Prop) (w : World) : V → List Value → Prop
  | mk (kind n : Int) (s : List UInt8) (items : List V) (keys : List (List UInt8)) (a : Option Addr) (cap : Nat) (kv : Value) (us : Nat → List Value)
      (hcap : items.length ≤ cap)
      (hmem : items = [] ∨ ∃ ad, a = some ad ∧ ad.spot = none ∧ A ad.block ∧ ∀ i, i < items.length → (us i).length = 5 ∧ ∀ j, j < 5 → w.cell? ⟨ad.block, ad.off + (i * 5 + j), none⟩ = (us i)[j]?)
      (hit : ∀ i (h : i < items.length), RepV A w items[i] (us i))
      (hkeys : SliceRep A w (fun k vs => vs = [Value.string ⟨k.toArray⟩]) keys kv) :
      RepV A w (.mk kind n s items keys) [.int .i64 kind, .int .i64 n, .string ⟨s.toArray⟩, .slice a items.length cap, kv]

def Rep (A : Nat → Prop) (w : World) : (t : Ty) → t.den → List Value → Prop
  | .bool, b, vs => vs = [.bool b]
  | .int k, n, vs => vs = [.int k n]
  | .str, s, vs => vs = [.string ⟨s.toArray⟩]
  | .list e, xs, vs => ∃ v, vs = [v] ∧ SliceRep A w (Rep A w e) xs v
  | .unit, _, vs => vs = []
  | .prod a b, x, vs => ∃ u1 u2, vs = u1 ++ u2 ∧ Rep A w a x.1 u1 ∧ Rep A w b x.2 u2
  | .value, x, vs => RepV A w x vs

theorem RepV.length {A w x vs} (h : RepV A w x vs) : vs.length = 5 := by cases h; rfl
theorem Rep.length {A w} : ∀ {t : Ty} {x : t.den} {vs}, Rep A w t x vs → vs.length = t.size
  | .bool, _, _, h | .int _, _, _, h | .str, _, _, h | .unit, _, _, h => by simp only [Rep] at h; subst h; rfl
  | .list _, _, _, h => by obtain ⟨v, rfl, _⟩ := h; rfl
  | .prod a b, _, _, h => by obtain ⟨u1, u2, rfl, h1, h2⟩ := h; simp [Ty.size, Rep.length h1, Rep.length h2]
  | .value, _, _, h => RepV.length h

theorem RepAll.imp {α : Type} {R R' : α → List Value → Prop} (h : ∀ x u, R x u → R' x u) : ∀ {xs us}, RepAll R xs us → RepAll R' xs us
  | [], _, hr => hr
  | _ :: _, _, ⟨u1, u2, e, h1, h2⟩ => ⟨u1, u2, e, h _ _ h1, RepAll.imp h h2⟩
theorem cell?_of_heap {w w' : World} {a : Addr} (h : w'.heap[a.block]? = w.heap[a.block]?) : w'.cell? a = w.cell? a := World.cell?_of_block (w := w) h
theorem CellsAt.mono {w w' : World} {ad : Addr} {us} (h : w'.heap[ad.block]? = w.heap[ad.block]?) (hc : CellsAt w ad us) : CellsAt w' ad us := fun j hj => by
  rw [← hc j hj]; exact cell?_of_heap (a := ⟨ad.block, ad.off + j, none⟩) h
theorem SliceRep.imp {α : Type} {A A' : Nat → Prop} {w w' : World} {R R' : α → List Value → Prop} {xs v} (hA : ∀ b, A b → A' b) (hw : ∀ b, A b → w'.heap[b]? = w.heap[b]?)
    (h : ∀ x u, R x u → R' x u) (hs : SliceRep A w R xs v) : SliceRep A' w' R' xs v := by
  obtain ⟨a, cap, e, hc, hm⟩ := hs
  refine ⟨a, cap, e, hc, ?_⟩
  rcases hm with hm | ⟨ad, us, ha, hsp, hAb, hcells, hr⟩
  · exact .inl hm
  · exact .inr ⟨ad, us, ha, hsp, hA _ hAb, hcells.mono (hw _ hAb), hr.imp h⟩
theorem RepV.mono {A A' : Nat → Prop} {w w' : World} (hA : ∀ b, A b → A' b) (hw : ∀ b, A b → w'.heap[b]? = w.heap[b]?) {x vs} (h : RepV A w x vs) : RepV A' w' x vs := by
  induction h with
  | mk kind n s items keys a cap kv us hcap hmem hit hkeys ih =>
    refine .mk kind n s items keys a cap kv us hcap ?_ ih (hkeys.imp hA hw fun _ _ h => h)
    rcases hmem with hm | ⟨ad, ha, hsp, hAb, hc⟩
    · exact .inl hm
    · exact .inr ⟨ad, ha, hsp, hA _ hAb, fun i hi => ⟨(hc i hi).1, fun j hj => by rw [← (hc i hi).2 j hj]; exact cell?_of_heap (a := ⟨ad.block, _, none⟩) (hw _ hAb)⟩⟩
theorem Rep.mono {A A' : Nat → Prop} {w w' : World} (hA : ∀ b, A b → A' b) (hw : ∀ b, A b → w'.heap[b]? = w.heap[b]?) : ∀ {t : Ty} {x : t.den} {vs}, Rep A w t x vs → Rep A' w' t x vs
  | .bool, _, _, h | .int _, _, _, h | .str, _, _, h | .unit, _, _, h => h
  | .list _, _, _, ⟨v, e, h⟩ => ⟨v, e, h.imp hA hw fun _ _ h => Rep.mono hA hw h⟩
  | .prod _ _, _, _, ⟨u1, u2, e, h1, h2⟩ => ⟨u1, u2, e, Rep.mono hA hw h1, Rep.mono hA hw h2⟩
  | .value, _, _, h => RepV.mono hA hw h

section all
variable {α : Type} {R : α → List Value → Prop} {sz : Nat}
theorem RepAll.length (hs : ∀ x u, R x u → u.length = sz) : ∀ {xs us}, RepAll R xs us → us.length = xs.length * sz
  | [], _, h => by simp only [RepAll] at h; subst h; simp
  | x :: xs, _, ⟨u1, u2, e, h1, h2⟩ => by subst e; simp only [List.length_append, hs _ _ h1, RepAll.length hs h2, List.length_cons, Nat.succ_mul]; omega
theorem RepAll.get (hs : ∀ x u, R x u → u.length = sz) : ∀ {xs us} (i : Nat) (y : α), RepAll R xs us → xs[i]? = some y → ∃ p u q, us = p ++ (u ++ q) ∧ p.length = i * sz ∧ R y u
  | [], _, _, _, _, h => by simp at h
  | x :: xs, _, 0, y, ⟨u1, u2, e, h1, _⟩, h => by simp at h; subst h; exact ⟨[], u1, u2, by simpa using e, by simp, h1⟩
  | x :: xs, _, i + 1, y, ⟨u1, u2, e, h1, h2⟩, h => by
    obtain ⟨p, u, q, e2, hp, hu⟩ := RepAll.get hs i y h2 (by simpa using h)
    exact ⟨u1 ++ p, u, q, by rw [e, e2, List.append_assoc], by simp [hp, hs _ _ h1, Nat.succ_mul]; omega, hu⟩
theorem RepAll.set (hs : ∀ x u, R x u → u.length = sz) : ∀ {xs us} (i : Nat) (y' : α) (p u u' q : List Value), RepAll R xs us → i < xs.length → us = p ++ (u ++ q) → p.length = i * sz → u.length = sz → R y' u' → RepAll R (xs.set i y') (p ++ (u' ++ q))
  | [], _, _, _, _, _, _, _, _, h, _, _, _, _ => by simp at h
  | x :: xs, _, 0, y', p, u, u', q, ⟨u1, u2, e, h1, h2⟩, _, e2, hp, hu, hy => by
    have : p = [] := by cases p <;> simp_all
    subst this
    rw [e, List.nil_append] at e2
    have hl : u1.length = u.length := by rw [hs _ _ h1, hu]
    obtain ⟨rfl, rfl⟩ := List.append_inj e2 hl
    exact ⟨u', _, by simp, hy, h2⟩
  | x :: xs, _, i + 1, y', p, u, u', q, ⟨u1, u2, e, h1, h2⟩, hi, e2, hp, hu, hy => by
    have h1l := hs _ _ h1
    have hsplit : p = u1 ++ p.drop sz := by
      rw [e] at e2
      have h3 := congrArg (List.take sz) e2
      rw [List.take_append_of_le_length (by omega), List.take_of_length_le (by omega), List.take_append_of_le_length (by rw [hp, Nat.succ_mul]; omega)] at h3
      rw [h3]; simp
    have e3 : u2 = p.drop sz ++ (u ++ q) := by
      rw [e, hsplit, List.append_assoc] at e2
      have := (List.append_inj e2 rfl).2
      simpa [h1l] using this
    refine ⟨u1, p.drop sz ++ (u' ++ q), by rw [← List.append_assoc u1, ← hsplit], h1, ?_⟩
    exact RepAll.set hs i y' (p.drop sz) u u' q h2 (by simpa using hi) e3 (by rw [List.length_drop, hp, Nat.succ_mul]; omega) hu hy
theorem RepAll.append : ∀ {xs ys us vs}, RepAll R xs us → RepAll R ys vs → RepAll R (xs ++ ys) (us ++ vs)
  | [], _, _, _, h, h' => by simp only [RepAll] at h; subst h; simpa using h'
  | x :: xs, _, _, _, ⟨u1, u2, e, h1, h2⟩, h' => ⟨u1, u2 ++ _, by rw [e, List.append_assoc], h1, RepAll.append h2 h'⟩
theorem RepAll.take (hs : ∀ x u, R x u → u.length = sz) : ∀ (n : Nat) {xs us}, RepAll R xs us → RepAll R (xs.take n) (us.take (n * sz))
  | 0, xs, _, _ => by simp [RepAll]
  | n + 1, [], _, h => by simp only [RepAll] at h; subst h; simp [RepAll]
  | n + 1, x :: xs, _, ⟨u1, u2, e, h1, h2⟩ => by
    refine ⟨u1, u2.take (n * sz), ?_, h1, RepAll.take hs n h2⟩
    rw [e, List.take_append, hs _ _ h1, List.take_of_length_le (l := u1) (by rw [hs _ _ h1, Nat.succ_mul]; omega)]
    congr 2; rw [Nat.succ_mul]; omega
theorem RepAll.drop (hs : ∀ x u, R x u → u.length = sz) : ∀ (n : Nat) {xs us}, RepAll R xs us → RepAll R (xs.drop n) (us.drop (n * sz))
  | 0, xs, _, h => by simpa using h
  | n + 1, [], _, h => by simp only [RepAll] at h; subst h; simp [RepAll]
  | n + 1, x :: xs, _, ⟨u1, u2, e, h1, h2⟩ => by
    have := RepAll.drop hs n h2
    rw [List.drop_succ_cons, e, List.drop_append, List.drop_of_length_le (l := u1) (by rw [hs _ _ h1, Nat.succ_mul]; omega), hs _ _ h1, List.nil_append]
    have e2 : (n + 1) * sz - sz = n * sz := by rw [Nat.succ_mul]; omega
    rw [e2]; exact this
end all
theorem CellsAt.take {w : World} {ad : Addr} {us} (n : Nat) (h : CellsAt w ad us) : CellsAt w ad (us.take n) := fun j hj => by
  rw [List.length_take] at hj
  rw [h j (by omega), List.getElem?_take_of_lt (by omega)]
theorem CellsAt.drop {w : World} {ad : Addr} {us} (n : Nat) (h : CellsAt w ad us) : CellsAt w ⟨ad.block, ad.off + n, none⟩ (us.drop n) := fun j hj => by
  rw [List.length_drop] at hj
  have := h (n + j) (by omega)
  simp only [List.getElem?_drop, ← this, Nat.add_assoc]
theorem CellsAt.mid {w : World} {ad : Addr} {p u q} (h : CellsAt w ad (p ++ (u ++ q))) : CellsAt w ⟨ad.block, ad.off + p.length, none⟩ u := fun j hj => by
  have := h (p.length + j) (by simp; omega)
  rw [List.getElem?_append_right (by omega), List.getElem?_append_left (by omega)] at this
  simpa [Nat.add_assoc] using this

/-! ### Values of slots -/
/-- A row of values that hold lists of their own: which record stands behind it, how many it has room for, what they are. -/
structure DP where
  top : Option Nat
  cap : Nat
  fs : List V
structure Mu where
  at_ : Loc → Option Nat
  cap : Nat → Nat
  dp : Option DP
structure Cx where
  A : Nat → Prop
  w : World
  μ : Mu
  recs : List (Option (List AV))
  lsts : List (Option LObj)
  keep : Value

def hdrV (μ : Mu) (n cap : Nat) : Value := match μ.at_ (.n 0) with
  | none => .slice none 0 0
  | some b => .slice (some ⟨b, 0, none⟩) n cap
theorem hdrV_one (μ : Mu) (n cap : Nat) : (hdrV μ n cap).oneCell' = true := by unfold hdrV; split <;> rfl
def RepSX (μ : Mu) (keep : Value) : SX → Value → Prop
  | .stk fs, v => ∃ cap, μ.dp = some ⟨none, cap, fs⟩ ∧ v = hdrV μ fs.length cap ∧ (μ.at_ (.n 0) = none → fs = [])
  | .foc r fs, v => ∃ cap b, μ.dp = some ⟨some r, cap, fs⟩ ∧ μ.at_ (.n 0) = some b ∧ v = .slice (some ⟨b, 0, none⟩) (fs.length + 1) cap ∧ fs.length + 1 ≤ cap
  | .cut r fs, v => ∃ cap b, μ.dp = some ⟨some r, cap, fs⟩ ∧ μ.at_ (.n 0) = some b ∧ v = .slice (some ⟨b, 0, none⟩) fs.length cap
  | .tp r off, v => ∃ cap fs b, μ.dp = some ⟨some r, cap, fs⟩ ∧ μ.at_ (.n 0) = some b ∧ v = .pointer (some ⟨b, fs.length * 5 + off, none⟩)
  | .mark, _ => False
  | .same, v => v = keep ∧ v.oneCell' = true
theorem RepSX.one {μ : Mu} {keep : Value} {x : SX} {v : Value} (h : RepSX μ keep x v) : v.oneCell' = true := by
  cases x <;> simp only [RepSX] at h
  · obtain ⟨_, _, rfl, _⟩ := h; exact hdrV_one ..
  · obtain ⟨_, _, _, _, rfl, _⟩ := h; rfl
  · obtain ⟨_, _, _, _, rfl⟩ := h; rfl
  · obtain ⟨_, _, _, _, _, rfl⟩ := h; rfl
  · exact h.2

def WholeAt (μ : Mu) (t : Nat) (o : LObj) (v : Value) : Prop :=
  (μ.at_ (.l t) = none ∧ v = .slice none 0 0) ∨ ∃ b, μ.at_ (.l t) = some b ∧ v = .slice (some ⟨b, 0, none⟩) o.xs.length (μ.cap t)

mutual
def RepAV (c : Cx) : AV → Value → Prop
  | .d t x, v => Rep c.A c.w t x [v]
  | .full e x, v => (∃ a, v = .slice a x.length x.length) ∧ Rep c.A c.w (.list e) x [v]
  | .nilS, v => v = .slice none 0 0
  | .whole t, v => t < c.lsts.length ∧ v.oneCell' = true ∧ ∀ o, getL c.lsts t = some o → WholeAt c.μ t o v
  | .ptr r off, v => r < c.recs.length ∧ v.oneCell' = true ∧ ((getL c.recs r).isSome = true → ∃ b, c.μ.at_ (.r r) = some b ∧ v = .pointer (some ⟨b, off, none⟩))
  | .bld r, v => r < c.recs.length ∧ v.oneCell' = true ∧ ((getL c.recs r).isSome = true → ∃ b, c.μ.at_ (.r r) = some b ∧ (v = .pointer none ∨ v = .pointer (some ⟨b, 0, none⟩)))
  | .eptr t i off, v => t < c.lsts.length ∧ v.oneCell' = true ∧ ∀ o, getL c.lsts t = some o → ∃ b, c.μ.at_ (.l t) = some b ∧ v = .pointer (some ⟨b, i * o.e.size + off, none⟩)
  | .pim cells, v => ∃ ad us, v = .pointer (some ad) ∧ ad.spot = none ∧ c.A ad.block ∧ CellsAt c.w ad us ∧ RepAVs c cells us
  | .agg l, v => ∃ us : Array Value, v = .agg us ∧ RepAVs c l us.toList
  | .ifc q l, v => ∃ u : Value, v = .iface q u ∧ RepAVs c l [u]
  | .tup l, v => ∃ us : Array Value, v = .tuple us ∧ RepAVs c l us.toList
  | .fn f a b, v => ∃ a' b' : Array Value, v = .func f a' b' ∧ RepAVs c a a'.toList ∧ RepAVs c b b'.toList
  | .nilP, v => v = .pointer none
  | .sx x, v => RepSX c.μ c.keep x v
  | .dead, _ => True
def RepAVs (c : Cx) : List AV → List Value → Prop
  | [], vs => vs = []
  | x :: xs, vs => ∃ v us, vs = v :: us ∧ RepAV c x v ∧ RepAVs c xs us
end

structure Cx.Le (c c' : Cx) : Prop where
  A : ∀ b, c.A b → c'.A b
  w : ∀ b, c.A b → c'.w.heap[b]? = c.w.heap[b]?
  nr : c.recs.length ≤ c'.recs.length
  nl : c.lsts.length ≤ c'.lsts.length
  r : ∀ r, r < c.recs.length → (getL c'.recs r).isSome = true → (getL c.recs r).isSome = true ∧ c'.μ.at_ (.r r) = c.μ.at_ (.r r)
  l : ∀ t o', t < c.lsts.length → getL c'.lsts t = some o' → ∃ o, getL c.lsts t = some o ∧ o'.e = o.e ∧ o'.xs.length = o.xs.length ∧ c'.μ.at_ (.l t) = c.μ.at_ (.l t) ∧ c'.μ.cap t = c.μ.cap t
  s : ∀ x v, RepSX c.μ c.keep x v → RepSX c'.μ c'.keep x v

mutual
theorem RepAV.mono {c c' : Cx} (h : c.Le c') : ∀ {av v}, RepAV c av v → RepAV c' av v
  | .d t x, v, hr => by simp only [RepAV] at hr ⊢; exact hr.mono h.A h.w
  | .full e x, v, hr => by simp only [RepAV] at hr ⊢; exact ⟨hr.1, hr.2.mono h.A h.w⟩
  | .nilS, v, hr => by simpa only [RepAV] using hr
  | .whole t, v, hr => by
    simp only [RepAV] at hr ⊢
    refine ⟨Nat.lt_of_lt_of_le hr.1 h.nl, hr.2.1, fun o' ho' => ?_⟩
    obtain ⟨o, ho, he, hl, hμ, hcap⟩ := h.l t o' hr.1 ho'
    have := hr.2.2 o ho
    unfold WholeAt at this ⊢
    rw [hμ, hcap, hl]; exact this
  | .ptr r off, v, hr => by
    simp only [RepAV] at hr ⊢
    refine ⟨Nat.lt_of_lt_of_le hr.1 h.nr, hr.2.1, fun hs => ?_⟩
    obtain ⟨h1, h2⟩ := h.r r hr.1 hs
    rw [h2]; exact hr.2.2 h1
  | .bld r, v, hr => by
    simp only [RepAV] at hr ⊢
    refine ⟨Nat.lt_of_lt_of_le hr.1 h.nr, hr.2.1, fun hs => ?_⟩
    obtain ⟨h1, h2⟩ := h.r r hr.1 hs
    rw [h2]; exact hr.2.2 h1
  | .eptr t i off, v, hr => by
    simp only [RepAV] at hr ⊢
    refine ⟨Nat.lt_of_lt_of_le hr.1 h.nl, hr.2.1, fun o' ho' => ?_⟩
    obtain ⟨o, ho, he, hl, hμ, hcap⟩ := h.l t o' hr.1 ho'
    rw [hμ, he]; exact hr.2.2 o ho
  | .pim cells, v, hr => by
    simp only [RepAV] at hr ⊢
    obtain ⟨ad, us, e, hsp, hA, hc, hu⟩ := hr
    exact ⟨ad, us, e, hsp, h.A _ hA, hc.mono (h.w _ hA), hu.mono h⟩
  | .agg l, v, hr => by simp only [RepAV] at hr ⊢; obtain ⟨us, e, hu⟩ := hr; exact ⟨us, e, hu.mono h⟩
  | .ifc q l, v, hr => by simp only [RepAV] at hr ⊢; obtain ⟨us, e, hu⟩ := hr; exact ⟨us, e, hu.mono h⟩
  | .tup l, v, hr => by simp only [RepAV] at hr ⊢; obtain ⟨us, e, hu⟩ := hr; exact ⟨us, e, hu.mono h⟩
  | .fn f a b, v, hr => by simp only [RepAV] at hr ⊢; obtain ⟨a', b', e, h1, h2⟩ := hr; exact ⟨a', b', e, h1.mono h, h2.mono h⟩
  | .nilP, v, hr => by simpa only [RepAV] using hr
  | .sx x, v, hr => by simp only [RepAV] at hr ⊢; exact h.s x v hr
  | .dead, v, _ => by simp only [RepAV]
theorem RepAVs.mono {c c' : Cx} (h : c.Le c') : ∀ {l vs}, RepAVs c l vs → RepAVs c' l vs
  | [], _, hr => by simpa only [RepAVs] using hr
  | x :: xs, _, hr => by
    simp only [RepAVs] at hr ⊢
    obtain ⟨v, us, e, h1, h2⟩ := hr
    exact ⟨v, us, e, h1.mono h, h2.mono h⟩
end
/-- From one state to another in which the records and lists have other numbers. -/
structure Cx.Ren (c c' : Cx) (fr fl : Nat → Option Nat) (fx : SX → AV) : Prop where
  A : ∀ b, c.A b → c'.A b
  w : ∀ b, c.A b → c'.w.heap[b]? = c.w.heap[b]?
  r : ∀ r r', r < c.recs.length → fr r = some r' → r' < c'.recs.length ∧ ((getL c'.recs r').isSome = true → (getL c.recs r).isSome = true ∧ c'.μ.at_ (.r r') = c.μ.at_ (.r r))
  l : ∀ t t', t < c.lsts.length → fl t = some t' → t' < c'.lsts.length ∧ ∀ o', getL c'.lsts t' = some o' → ∃ o, getL c.lsts t = some o ∧ o'.e = o.e ∧ o'.xs.length = o.xs.length ∧ c'.μ.at_ (.l t') = c.μ.at_ (.l t) ∧ c'.μ.cap t' = c.μ.cap t
  s : ∀ x v, RepSX c.μ c.keep x v → RepAV c' (fx x) v
mutual
theorem RepAV.ren {c c' : Cx} {fr fl : Nat → Option Nat} {fx : SX → AV} (h : c.Ren c' fr fl fx) : ∀ {av v}, RepAV c av v → RepAV c' (av.ren fr fl fx) v
  | .d t x, v, hr => by simp only [AV.ren, RepAV] at hr ⊢; exact hr.mono h.A h.w
  | .full e x, v, hr => by simp only [AV.ren, RepAV] at hr ⊢; exact ⟨hr.1, hr.2.mono h.A h.w⟩
  | .nilS, v, hr => by simpa only [AV.ren, RepAV] using hr
  | .whole t, v, hr => by
    simp only [AV.ren]
    split
    · rename_i t' ht
      simp only [RepAV] at hr ⊢
      obtain ⟨h1, h2⟩ := h.l t t' hr.1 ht
      refine ⟨h1, hr.2.1, fun o' ho' => ?_⟩
      obtain ⟨o, ho, he, hl, hμ, hcap⟩ := h2 o' ho'
      have := hr.2.2 o ho
      unfold WholeAt at this ⊢
      rw [hμ, hcap, hl]; exact this
    · simp only [RepAV]
  | .ptr r off, v, hr => by
    simp only [AV.ren]
    split
    · rename_i r' ht
      simp only [RepAV] at hr ⊢
      obtain ⟨h1, h2⟩ := h.r r r' hr.1 ht
      refine ⟨h1, hr.2.1, fun hs => ?_⟩
      obtain ⟨h3, h4⟩ := h2 hs
      rw [h4]; exact hr.2.2 h3
    · simp only [RepAV]
  | .bld r, v, hr => by
    simp only [AV.ren]
    split
    · rename_i r' ht
      simp only [RepAV] at hr ⊢
      obtain ⟨h1, h2⟩ := h.r r r' hr.1 ht
      refine ⟨h1, hr.2.1, fun hs => ?_⟩
      obtain ⟨h3, h4⟩ := h2 hs
      rw [h4]; exact hr.2.2 h3
    · simp only [RepAV]
  | .eptr t i off, v, hr => by
    simp only [AV.ren]
    split
    · rename_i t' ht
      simp only [RepAV] at hr ⊢
      obtain ⟨h1, h2⟩ := h.l t t' hr.1 ht
      refine ⟨h1, hr.2.1, fun o' ho' => ?_⟩
      obtain ⟨o, ho, he, hl, hμ, hcap⟩ := h2 o' ho'
      rw [hμ, he]; exact hr.2.2 o ho
    · simp only [RepAV]
  | .pim cells, v, hr => by
    simp only [AV.ren, RepAV] at hr ⊢
    obtain ⟨ad, us, e, hsp, hA, hc, hu⟩ := hr
    exact ⟨ad, us, e, hsp, h.A _ hA, hc.mono (h.w _ hA), hu.ren h⟩
  | .agg l, v, hr => by simp only [AV.ren, RepAV] at hr ⊢; obtain ⟨us, e, hu⟩ := hr; exact ⟨us, e, hu.ren h⟩
  | .ifc q l, v, hr => by simp only [AV.ren, RepAV] at hr ⊢; obtain ⟨us, e, hu⟩ := hr; exact ⟨us, e, hu.ren h⟩
  | .tup l, v, hr => by simp only [AV.ren, RepAV] at hr ⊢; obtain ⟨us, e, hu⟩ := hr; exact ⟨us, e, hu.ren h⟩
  | .fn f a b, v, hr => by simp only [AV.ren, RepAV] at hr ⊢; obtain ⟨a', b', e, h1, h2⟩ := hr; exact ⟨a', b', e, h1.ren h, h2.ren h⟩
  | .nilP, v, hr => by simpa only [AV.ren, RepAV] using hr
  | .sx x, v, hr => by simp only [AV.ren]; simp only [RepAV] at hr; exact h.s x v hr
  | .dead, v, _ => by simp only [AV.ren, RepAV]
theorem RepAVs.ren {c c' : Cx} {fr fl : Nat → Option Nat} {fx : SX → AV} (h : c.Ren c' fr fl fx) : ∀ {l vs}, RepAVs c l vs → RepAVs c' (renL fr fl fx l) vs
  | [], _, hr => by simpa only [renL, RepAVs] using hr
  | x :: xs, _, hr => by
    simp only [renL, RepAVs] at hr ⊢
    obtain ⟨v, us, e, h1, h2⟩ := hr
    exact ⟨v, us, e, h1.ren h, h2.ren h⟩
end
theorem RepAVs.length {c : Cx} : ∀ {l vs}, RepAVs c l vs → vs.length = l.length
  | [], _, h => by simp only [RepAVs] at h; subst h; rfl
  | x :: xs, _, h => by simp only [RepAVs] at h; obtain ⟨v, us, rfl, _, h2⟩ := h; simp [RepAVs.length h2]
theorem RepAVs.get {c : Cx} : ∀ {l vs} (i : Nat) (av : AV), RepAVs c l vs → l[i]? = some av → ∃ v, vs[i]? = some v ∧ RepAV c av v
  | [], _, _, _, _, h => by simp at h
  | x :: xs, _, 0, av, hr, h => by simp only [RepAVs] at hr; obtain ⟨v, us, rfl, h1, _⟩ := hr; simp at h; subst h; exact ⟨v, rfl, h1⟩
  | x :: xs, _, i + 1, av, hr, h => by
    simp only [RepAVs] at hr; obtain ⟨v, us, rfl, _, h2⟩ := hr
    simpa using RepAVs.get i av h2 (by simpa using h)
theorem RepAVs.set {c : Cx} : ∀ {l vs} (i : Nat) {av : AV} {v : Value}, RepAVs c l vs → RepAV c av v → RepAVs c (l.set i av) (vs.set i v)
  | [], _, _, _, _, h, _ => by simp only [RepAVs] at h; subst h; simp [RepAVs]
  | x :: xs, _, 0, av, v, hr, h => by simp only [RepAVs] at hr; obtain ⟨v0, us, rfl, h1, h2⟩ := hr; simp only [List.set_cons_zero, RepAVs]; exact ⟨_, _, rfl, h, h2⟩
  | x :: xs, _, i + 1, av, v, hr, h => by simp only [RepAVs] at hr; obtain ⟨v0, us, rfl, h1, h2⟩ := hr; simp only [List.set_cons_succ, RepAVs]; exact ⟨_, _, rfl, h1, h2.set i h⟩
theorem RepAVs.append {c : Cx} : ∀ {l l' vs vs'}, RepAVs c l vs → RepAVs c l' vs' → RepAVs c (l ++ l') (vs ++ vs')
  | [], _, _, _, h, h' => by simp only [RepAVs] at h; subst h; simpa using h'
  | x :: xs, _, _, _, h, h' => by simp only [RepAVs, List.cons_append] at h ⊢; obtain ⟨v, us, rfl, h1, h2⟩ := h; exact ⟨v, us ++ _, rfl, h1, h2.append h'⟩
theorem RepAVs.drop {c : Cx} : ∀ (n : Nat) {l vs}, RepAVs c l vs → RepAVs c (l.drop n) (vs.drop n)
  | 0, _, _, h => by simpa using h
  | n + 1, [], _, h => by simp only [RepAVs] at h; subst h; simp [RepAVs]
  | n + 1, x :: xs, _, h => by simp only [RepAVs] at h; obtain ⟨v, us, rfl, h1, h2⟩ := h; simpa using RepAVs.drop n h2
theorem RepAVs.take {c : Cx} : ∀ (n : Nat) {l vs}, RepAVs c l vs → RepAVs c (l.take n) (vs.take n)
  | 0, _, _, h => by simp [RepAVs]
  | n + 1, [], _, h => by simp only [RepAVs] at h; subst h; simp [RepAVs]
  | n + 1, x :: xs, _, h => by simp only [RepAVs] at h; obtain ⟨v, us, rfl, h1, h2⟩ := h; simp only [List.take_succ_cons, RepAVs]; exact ⟨v, _, rfl, h1, RepAVs.take n h2⟩
theorem RepAVs.splice {c : Cx} {cells new : List AV} {vs us : List Value} {off : Nat} (h : RepAVs c cells vs) (h' : RepAVs c new us) :
    RepAVs c (splice cells off new) (vs.take off ++ us ++ vs.drop (off + us.length)) := by
  unfold Pe.splice; rw [h'.length]
  exact ((h.take _).append h').append (h.drop _)
theorem RepAVs.one {c : Cx} {av : AV} {v : Value} (h : RepAV c av v) : RepAVs c [av] [v] := by simp only [RepAVs]; exact ⟨v, [], rfl, h, rfl⟩
theorem RepAVs.one' {c : Cx} {av : AV} {vs} (h : RepAVs c [av] vs) : ∃ v, vs = [v] ∧ RepAV c av v := by simp only [RepAVs] at h; obtain ⟨v, us, rfl, h1, h2⟩ := h; subst h2; exact ⟨v, rfl, h1⟩
end Go.Pe
