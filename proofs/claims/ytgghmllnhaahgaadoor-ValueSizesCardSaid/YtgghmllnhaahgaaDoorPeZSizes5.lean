/- Texts of the proof, what is used of them: SortK, SortTryd, GV5, GV5q, Tac, LoopT, XV1, XV2, XV3, XV4, Open, Open2, XV5, XV6, XV7, XV8, XV9, XV11, XV13, XM1, XM2, CardTryd. -/
import Derived.Shelf.SlSortCmp.WholeK
import Derived.Shelf.SlSortCmp.NoneTotal
import Derived.Shelf.SlGeneric
import Derived.WalkKit
import Derived.ProofKit
import Derived.Test.YtgghmllnhaahgaaDoorProg
import Derived.SliceStrings
import Derived.SizedLaws
import Derived.WideShapes
import Derived.Lib.LaidU8
import Derived.Lib.LaidTab
import Derived.Shelf.Vars
import Derived.HandedShaped
import Derived.Handed
import Derived.Lay
import Derived.MakeChecks
import Derived.Test.YtgghmllnhaahgaaDoorPeZSizes4
section
set_option linter.unusedSectionVars false
set_option linter.unusedVariables false
set_option linter.unusedSimpArgs false
namespace Go.Pe
open Go.RowKit Go.Proofs Go.Lib Go.Sort Go.Shelf
/-- Go's own order of a list, by what tells which of two comes first: sorted by places. -/
noncomputable def sortF {α : Type} (cf : α → α → Int) (xs : List α) : List α := match xs with
  | [] => []
  | x :: l => (pdq (ltOf fun i j : Nat => cf ((x :: l).getD i x) ((x :: l).getD j x)) (Array.range (l.length + 1)) 0 (l.length + 1) (Lib.bitLen (l.length + 1)) true true).toList.map fun i => (x :: l).getD i x
theorem sortF_cons {α : Type} (cf : α → α → Int) (x : α) (l : List α) : sortF cf (x :: l) = (pdq (ltOf fun i j : Nat => cf ((x :: l).getD i x) ((x :: l).getD j x)) (Array.range (l.length + 1)) 0 (l.length + 1) (Lib.bitLen (l.length + 1)) true true).toList.map fun i => (x :: l).getD i x := rfl
theorem swo_getD {α : Type} {cf : α → α → Int} (h : SWO (ltOf cf)) (xs : List α) (x : α) : SWO (ltOf fun i j : Nat => cf (xs.getD i x) (xs.getD j x)) :=
  ⟨fun i => h.irrefl (xs.getD i x), fun i j k => h.trans (xs.getD i x) (xs.getD j x) (xs.getD k x), fun i j k => h.ntrans (xs.getD i x) (xs.getD j x) (xs.getD k x)⟩
theorem sort_sorts' {cf : Nat → Nat → Int} (h : SWO (ltOf cf)) (n lim : Nat) : PermIn 0 n (Array.range n) (pdq (ltOf cf) (Array.range n) 0 n lim true true) ∧ SortedIn (ltOf cf) 0 n (pdq (ltOf cf) (Array.range n) 0 n lim true true) :=
  pdq_sorts (ltOf cf) h (Array.range n) 0 n lim true true (Nat.zero_le _) (by simp) (Or.inl rfl)
theorem range_getD {α : Type} : ∀ (xs : List α) (x : α), (List.range xs.length).map (fun i => xs.getD i x) = xs := fun xs x => by
  apply List.ext_getElem?
  intro i
  rcases Nat.lt_or_ge i xs.length with h | h
  · rw [List.getElem?_map, List.getElem?_range h]; simp [List.getD_eq_getElem?_getD, h]
  · rw [List.getElem?_eq_none (by simpa using h), List.getElem?_eq_none h]
theorem sortF_len {α : Type} {cf : α → α → Int} (h : SWO (ltOf cf)) (xs : List α) : (sortF cf xs).length = xs.length := by
  cases xs with
  | nil => rfl
  | cons x l =>
    have := (sort_sorts' (swo_getD h (x :: l) x) (l.length + 1) (Lib.bitLen (l.length + 1))).1.1
    simp only [sortF, List.length_map, Array.length_toList, this]; simp
/-- It holds the same, in order. -/
theorem sortF_perm {α : Type} {cf : α → α → Int} (h : SWO (ltOf cf)) (xs : List α) : (sortF cf xs).Perm xs := by
  cases xs with
  | nil => exact List.Perm.refl _
  | cons x l =>
    have h1 := (sort_sorts' (swo_getD h (x :: l) x) (l.length + 1) (Lib.bitLen (l.length + 1))).1
    rw [sortF_cons]
    generalize pdq (ltOf fun i j : Nat => cf ((x :: l).getD i x) ((x :: l).getD j x)) (Array.range (l.length + 1)) 0 (l.length + 1) (Lib.bitLen (l.length + 1)) true true = D at h1
    have hp := h1.2.2
    have e1 : D.extract 0 (l.length + 1) = D := by
      have : D.size = l.length + 1 := by rw [h1.1]; simp
      rw [← this]; simp
    have e2 : (Array.range (l.length + 1)).extract 0 (l.length + 1) = Array.range (l.length + 1) := by
      have : (Array.range (l.length + 1)).size = l.length + 1 := by simp
      conv => lhs; arg 3; rw [← this]
      simp
    rw [e1, e2] at hp
    have hm := hp.map fun i => (x :: l).getD i x
    have := range_getD (x :: l) x
    rw [List.length_cons] at this
    rw [Array.toList_range, this] at hm
    exact hm
theorem flat_get {α : Type} (enc : α → List Value) (k : Nat) (hk : ∀ x, (enc x).length = k) : ∀ (l : List α) (t : Nat), t < l.length * k → ∃ (h : t / k < l.length), (l.flatMap enc)[t]? = (enc l[t / k])[t % k]?
  | [], t, h => by simp at h
  | x :: l, t, h => by
    have hk0 : 0 < k := by
      rcases Nat.eq_zero_or_pos k with h0 | h0
      · subst h0; simp at h
      · exact h0
    rw [List.flatMap_cons]
    rcases Nat.lt_or_ge t k with hlt | hge
    · refine ⟨by rw [Nat.div_eq_of_lt hlt]; simp, ?_⟩
      rw [List.getElem?_append_left (by rw [hk]; exact hlt)]
      simp only [Nat.div_eq_of_lt hlt, Nat.mod_eq_of_lt hlt, List.getElem_cons_zero]
    · simp only [List.length_cons, Nat.succ_mul] at h
      obtain ⟨h1, h2⟩ := flat_get enc k hk l (t - k) (by omega)
      have hd : t / k = (t - k) / k + 1 := Nat.div_eq_sub_div hk0 hge
      have hm : t % k = (t - k) % k := Nat.mod_eq_sub_mod hge
      refine ⟨by rw [hd]; simpa using h1, ?_⟩
      rw [List.getElem?_append_right (by rw [hk]; exact hge), hk, h2]
      simp only [hd, hm, List.getElem_cons_succ]
theorem flatK_list {α : Type} [Inhabited α] (enc : α → List Value) (k : Nat) (hk : ∀ x, (enc x).length = k) (d : Array α) : (flatK enc k d).toList = d.toList.flatMap enc := by
  apply List.ext_getElem?
  intro t
  rcases Nat.lt_or_ge t (d.size * k) with h | h
  · have hs : t < (flatK enc k d).size := by rw [size_flatK]; exact h
    obtain ⟨h1, h2⟩ := flat_get enc k hk d.toList t (by simpa using h)
    rw [h2, Array.getElem?_toList, Array.getElem?_eq_getElem hs, ← getElem!_pos (flatK enc k d) t hs, get_flatK enc k d t h]
    have h1' : t / k < d.size := by simpa using h1
    have hk0 : 0 < k := by
      rcases Nat.eq_zero_or_pos k with h0 | h0
      · subst h0; simp at h
      · exact h0
    have hm : t % k < (enc d[t / k]).length := by rw [hk]; exact Nat.mod_lt _ hk0
    rw [getElem!_pos d (t / k) h1', getElem!_pos (enc d[t / k]) (t % k) hm]
    simp [hm]
  · rw [List.getElem?_eq_none (by simp; exact h), List.getElem?_eq_none]
    rw [List.length_flatMap]
    have : (d.toList.map fun a => (enc a).length).sum = d.size * k := by
      have e : (d.toList.map fun a => (enc a).length) = List.replicate d.size k := by
        apply List.ext_getElem?
        intro i
        rcases Nat.lt_or_ge i d.size with h | h <;> simp [h, hk]
      rw [e]; simp
    rw [this]; exact h
theorem putCells_list (F vs : Array Value) (us rest : List Value) (hvs : vs.toList = us ++ rest) (hl : us.length = F.size) : (putCells id 0 F vs).toList = F.toList ++ rest := by
  apply List.ext_getElem?
  intro t
  unfold putCells
  have hv : ∀ t, vs[t]? = (us ++ rest)[t]? := fun t => by rw [← hvs, Array.getElem?_toList]
  rw [Array.getElem?_toList, Array.getElem?_mapIdx]
  rcases Nat.lt_or_ge t F.size with h | h
  · rw [hv, List.getElem?_append_left (by omega), List.getElem?_append_left (by simpa using h)]
    have hu : t < us.length := by omega
    rw [List.getElem?_eq_getElem hu]
    simp [h, getElem!_pos F t h]
  · rw [hv, List.getElem?_append_right (by omega), List.getElem?_append_right (by simpa using h), hl]
    have : ¬ (0 ≤ t ∧ t < 0 + F.size) := by omega
    simp only [Array.length_toList]
    cases rest[t - F.size]? with
    | none => rfl
    | some x =>
      simp [this]
      intro h'; omega
theorem mapBlock_row {w : World} {b : Nat} {vs : Array Value} (ho : Own w b vs) (f : Array Value → Array Value) : mapBlock w b f = w.setRow b (f vs) := by
  obtain ⟨el, h⟩ := ho
  unfold mapBlock World.setRow
  congr 1
  apply Array.ext_getElem?
  intro k
  simp only [Array.getElem?_modify]
  split
  · rename_i e; subst e
    rw [h]; rfl
  · rfl
/-- A list of pairs: the cells, and what they are. -/
theorem pairs_of {e : Ty} {R : e.den → List Value → Prop} : ∀ {xs : List e.den} {us : List Value}, RepAll R xs us → ∃ d : List {p : List Value × e.den // R p.2 p.1}, d.map (fun p => p.1.2) = xs ∧ d.flatMap (fun p => p.1.1) = us
  | [], us, h => ⟨[], rfl, by simp only [RepAll] at h; subst h; rfl⟩
  | x :: xs, us, h => by
    obtain ⟨u1, u2, e1, h1, h2⟩ := h
    obtain ⟨d, e2, e3⟩ := pairs_of h2
    exact ⟨⟨(u1, x), h1⟩ :: d, by simp [e2], by simp [e3, e1]⟩
theorem pairs_to {e : Ty} {R : e.den → List Value → Prop} : ∀ d : List {p : List Value × e.den // R p.2 p.1}, RepAll R (d.map fun p => p.1.2) (d.flatMap fun p => p.1.1)
  | [] => rfl
  | p :: d => ⟨p.1.1, _, rfl, p.2, pairs_to d⟩
/-- A list of the call's own, sorted in its place. -/
noncomputable def sortExt (e : Ty) (g : Nat) (cf : e.den → e.den → Int) : Ext := fun st args K => match args with
  | [.whole t, .fn (.func g') [] []] => (match Nat.beq g' g with
    | true => (match getL st.lsts t with
      | some o => if h : Ty.list o.e = Ty.list e then appOk (h ▸ (o.xs : (Ty.list o.e).den) : (Ty.list e).den).length (K (.tup []) { st with lsts := st.lsts.set t (some ⟨e, sortF cf (h ▸ (o.xs : (Ty.list o.e).den) : (Ty.list e).den)⟩) }) else none
      | none => none)
    | false => none)
  | _ => none
section
variable [GI]
theorem below_growK (w : World) (k : Nat) (os : Array Obj) : Below w.heap.size w (grow (w.drewN k) os) :=
  ⟨rfl, rfl, rfl, by simp [grow, World.drewN], fun j hj => by simp only [grow, World.drewN]; rw [Array.getElem?_append_left hj]⟩
theorem set_same {lsts : List (Option LObj)} {t : Nat} {o : LObj} (h : getL lsts t = some o) : lsts.set t (some o) = lsts := by
  apply List.ext_getElem?
  intro i
  rw [List.getElem?_set]
  split
  · rename_i e; subst e
    have htl := getL_lt h
    unfold getL at h
    split at h
    · rename_i h2; cases h; rw [if_pos htl, h2]
    · cases h
  · rfl
theorem sort_ok {P : Program} {ρ : Ren} (L : SlLaysF0.n6 P ρ) (e : Ty) (aE : ∀ w, (isAgg (ρ.t 24)).run P w = .ok true w) (zE : ∀ w, (Go.sizeOf (ρ.t 24)).run P w = .ok e.size w)
    (cf : e.den → e.den → Int) (hO : SWO (ltOf cf)) (g : Nat) (eg : ∀ args w, (callFunc g args).run P w = .ok (.enter g args) w)
    (hfn : ∃ fn, P.funcs[ρ.f 6]? = some fn ∧ (fn.name == "runtime.NumGoroutine") = false ∧ fn.body.isSome = true)
    (hg : ∀ (A : Nat → Prop) (w : World) (x y : e.den) (us vs : List Value), Rep A w e x us → Rep A w e y vs → ∀ W : World, Calls P g #[.agg us.toArray, .agg vs.toArray] W fun e w' => e = .returned (.int .i64 (cf x y)) ∧ ∃ q os', w' = grow (W.drewN q) os') :
    ExtOk P (ρ.f 6) (sortExt e g cf) := by
  refine ⟨hfn, ?_⟩
  intro S st args K r h
  unfold sortExt at h
  dsimp only at h
  split at h
  · rename_i t g'
    split at h
    · rename_i hgb
      have hgg : g' = g := Nat.eq_of_beq_eq_true hgb
      subst hgg
      split at h
      · rename_i o ho
        split at h
        · rename_i he
          obtain ⟨oe, oxs⟩ := o
          have he' : oe = e := by cases he; rfl
          subst he'
          unfold appOk at h
          split at h
          · rename_i h12
            simp only at h12 h
            refine ⟨_, _, h, ?_⟩
            intro A0 w0 w tmps μ vs hs hargs
            obtain ⟨v1, us1, rfl, r1, hargs⟩ := hargs.cons'
            obtain ⟨v2, us2, rfl, r2, hargs⟩ := hargs.cons'
            obtain rfl := hargs.nil
            simp only [RepAV, cx] at r1 r2
            obtain ⟨a', b', rfl, ra, rb⟩ := r2
            have ha' : a' = #[] := by apply Array.ext'; simpa using ra.nil
            have hb' : b' = #[] := by apply Array.ext'; simpa using rb.nil
            subst ha'; subst hb'
            obtain ⟨htl, _, hwh⟩ := r1
            have hW := hwh _ ho
            cases hxs : oxs with
            | nil =>
              subst hxs
              have hset : st.lsts.set t (some ⟨oe, sortF cf []⟩) = st.lsts := set_same ho
              have hlen : ∃ p cap, v1 = .slice p 0 cap := by
                rcases hW with ⟨_, rfl⟩ | ⟨b, _, rfl⟩
                · exact ⟨_, _, rfl⟩
                · exact ⟨_, _, rfl⟩
              obtain ⟨p, cap, rfl⟩ := hlen
              refine (AnyF.slices_SortFunc_none (P := P) (ρ := ρ) { L with } p cap (.func (.func g') #[] #[]) w).mono ?_
              rintro e w' ⟨rfl, rfl⟩
              refine ⟨.tuple #[], μ, rfl, ⟨#[], rfl, rfl⟩, ?_⟩
              rw [hset]; exact hs
            | cons x0 l0 =>
              rw [← hxs]
              rcases hs.mem.hlst t _ ho with ⟨hn, hx⟩ | ⟨b, vs, hb, hown, hsz, hcap, us, rest, hvs, hrep⟩
              · simp only [cx] at hx
                rw [hxs] at hx; cases hx
              · simp only [cx] at hb hsz hcap hrep hown
                rcases hW with ⟨hn, _⟩ | ⟨b2, hb2, rfl⟩
                · rw [hn] at hb; cases hb
                · try simp only at hb2
                  rw [hb] at hb2; cases hb2
                  obtain ⟨d, hd1, hd2⟩ := pairs_of hrep
                  have hd0 : d ≠ [] := by rintro rfl; rw [hxs] at hd1; cases hd1
                  obtain ⟨p0, d1, hdd⟩ : ∃ p0 d1, d = p0 :: d1 := by cases d with | nil => exact absurd rfl hd0 | cons p q => exact ⟨p, q, rfl⟩
                  have hp0 : p0.1.2 = x0 := by rw [hdd, hxs] at hd1; simp only [List.map_cons, List.cons.injEq] at hd1; exact hd1.1
                  have hdl : d.length = oxs.length := by rw [← hd1]; simp
                  -- the places
                  have hget : ∀ i : Nat, (d.getD i p0).1.2 = oxs.getD i x0 := fun i => by
                    rw [← hd1, List.getD_eq_getElem?_getD, List.getD_eq_getElem?_getD, List.getElem?_map]
                    cases d[i]? with
                    | none => exact hp0
                    | some y => rfl
                  let enc : Nat → List Value := fun i => (d.getD i p0).1.1
                  have hk : ∀ i, (enc i).length = oe.size := fun i => Rep.length (d.getD i p0).2
                  have hus : (List.range oxs.length).flatMap enc = us := by
                    rw [← hd2, ← hdl]
                    conv => rhs; rw [← range_getD d p0, List.flatMap_map]
                  have hfl := flatK_list enc oe.size hk (Array.range oxs.length)
                  rw [Array.toList_range, hus] at hfl
                  have hul : us.length = oxs.length * oe.size := by rw [← hfl]; simp
                  obtain ⟨el, hheap⟩ := hown
                  have hH : HoldsK enc oe.size w b 0 (Array.range oxs.length) := by
                    intro j hj
                    constructor
                    · have : w.cell? ⟨b, 0 + j, none⟩ = vs[j]? := by simp [World.cell?, hheap]
                      rw [this, ← Array.getElem?_toList, hvs, ← hfl, List.getElem?_append_left (by simpa using hj), Array.getElem?_toList, Array.getElem?_eq_getElem hj, getElem!_pos _ j hj]
                      rfl
                    · simp [World.frozen?, hheap]
                  have hcf : (fun i j : Nat => cf (d.getD i p0).1.2 (d.getD j p0).1.2) = fun i j : Nat => cf (oxs.getD i x0) (oxs.getD j x0) := by
                    funext i j; rw [hget, hget]
                  have hcon := AnyQ.slices_SortFunc_eq L oe.size aE zE enc hk (fun i => Rep.one (d.getD i p0).2) (fun i j : Nat => cf (d.getD i p0).1.2 (d.getD j p0).1.2) (by rw [hcf]; exact swo_getD hO oxs x0) g' #[] b 0 (μ.cap t) (Array.range oxs.length) w eg
                    (fun m os dk hdk i j => by rw [Array.append_empty]; exact hg _ _ _ _ _ _ (d.getD i p0).2 (d.getD j p0).2 _) hH (hs.mem.live _ _ hb).2.1 (by simp only [Array.size_range]; omega)
                  rw [hcf] at hcon
                  simp only [Array.size_range] at hcon
                  refine hcon.mono ?_
                  rintro e w' ⟨rfl, n, os, rfl⟩
                  have hF : sortF cf oxs = (pdq (ltOf fun i j : Nat => cf (oxs.getD i x0) (oxs.getD j x0)) (Array.range oxs.length) 0 oxs.length (Lib.bitLen oxs.length) true true).toList.map fun i => oxs.getD i x0 := by
                    rw [hxs]; rfl
                  have hsz2 : (pdq (ltOf fun i j : Nat => cf (oxs.getD i x0) (oxs.getD j x0)) (Array.range oxs.length) 0 oxs.length (Lib.bitLen oxs.length) true true).size = oxs.length := by
                    rw [(sort_sorts' (swo_getD hO oxs x0) oxs.length (Lib.bitLen oxs.length)).1.1]; simp
                  generalize pdq (ltOf fun i j : Nat => cf (oxs.getD i x0) (oxs.getD j x0)) (Array.range oxs.length) 0 oxs.length (Lib.bitLen oxs.length) true true = D at hF hsz2 ⊢
                  have hDf := flatK_list enc oe.size hk D
                  have hcs := putCells_list (flatK enc oe.size D) vs us rest hvs (by rw [size_flatK, hsz2, hul])
                  rw [hDf] at hcs
                  have hww : sortWorldK enc oe.size w b 0 n D os = grow ((w.setRow b (putCells id 0 (flatK enc oe.size D) vs)).drewN n) os := by
                    unfold sortWorldK putRowK putRow
                    rw [mapBlock_row (w := Sort.ahead w n) (b := b) (vs := vs) ⟨el, hheap⟩]
                    rfl
                  have hxl : (sortF cf oxs).length = oxs.length := sortF_len hO oxs
                  have hrep2 := pairs_to (D.toList.map fun i => d.getD i p0)
                  have e1 : (D.toList.map fun i => d.getD i p0).map (fun p => p.1.2) = sortF cf oxs := by
                    rw [hF, List.map_map]
                    apply List.map_congr_left
                    intro i _
                    exact hget i
                  have e2 : (D.toList.map fun i => d.getD i p0).flatMap (fun p => p.1.1) = D.toList.flatMap enc := by
                    rw [List.flatMap_map]
                  rw [e1, e2] at hrep2
                  have hm := hs.mem.setLst (o := ⟨oe, oxs⟩) ho hxl hb ⟨el, hheap⟩ (cs := putCells id 0 (flatK enc oe.size D) vs) (by simp [putCells]) hsz hcap hcs hrep2
                  have hle := le_setLst (A0 := A0) (w0 := w0) (w := w) (recs := st.recs) (lsts := st.lsts) (μ := μ) (cs := putCells id 0 (flatK enc oe.size D) vs) (o := ⟨oe, oxs⟩) ho hxl hb
                  have hsim : Sim A0 w0 { st with lsts := st.lsts.set t (some ⟨oe, sortF cf oxs⟩) } tmps (w.setRow b (putCells id 0 (flatK enc oe.size D) vs)) μ := ⟨hs.slots.mono hle, hm⟩
                  rw [hww]
                  exact ⟨.tuple #[], μ, rfl, ⟨#[], rfl, rfl⟩, hsim.ext (below_growK _ n os)⟩
          · cases h
        · cases h
      · cases h
    · cases h
  · cases h
end
end Go.Pe
end
section
set_option linter.unusedSectionVars false
set_option linter.unusedVariables false
set_option linter.unusedSimpArgs false
namespace Go.Proofs
open Go.Shelf
def Tryd.sortP_ren : Go.Shelf.Ren := ⟨fun | 6 => 48 | 15 => 69 | 14 => 68 | 28 => 95 | 29 => 96 | 20 => 87 | 21 => 88 | 22 => 89 | 23 => 90 | 24 => 91 | 25 => 92 | 26 => 93 | 27 => 94 | 46 => 105 | 47 => 106 | 48 => 107 | 49 => 108 | 50 => 109 | 57 => 116 | n => n, fun | 22 => 47 | 24 => 49 | 25 => 80 | 3 => 3 | 39 => 97 | 0 => 0 | 53 => 122 | 55 => 104 | 4 => 4 | 46 => 115 | 45 => 114 | 50 => 119 | 5 => 5 | 9 => 9 | 66 => 133 | 70 => 137 | 76 => 142 | 77 => 143 | n => n, fun | n => n⟩
theorem Tryd.sortP : Go.Proofs.SlLaysF0.n6 Tryd.prog Tryd.sortP_ren := {
  mixed := by kernel_rfl
  f6 := ⟨Tryd.f48.name, by decide, Tryd.func48.trans (congrArg some (by kernel_rfl))⟩
  f14 := ⟨Tryd.f68.name, by decide, Tryd.func68.trans (congrArg some (by kernel_rfl))⟩
  f15 := Tryd.func69.trans (congrArg some (by kernel_rfl))
  f20 := ⟨Tryd.f87.name, by decide, Tryd.func87.trans (congrArg some (by kernel_rfl))⟩
  f21 := ⟨Tryd.f88.name, by decide, Tryd.func88.trans (congrArg some (by kernel_rfl))⟩
  f22 := ⟨Tryd.f89.name, by decide, Tryd.func89.trans (congrArg some (by kernel_rfl))⟩
  f23 := ⟨Tryd.f90.name, by decide, Tryd.func90.trans (congrArg some (by kernel_rfl))⟩
  f24 := ⟨Tryd.f91.name, by decide, Tryd.func91.trans (congrArg some (by kernel_rfl))⟩
  f25 := ⟨Tryd.f92.name, by decide, Tryd.func92.trans (congrArg some (by kernel_rfl))⟩
  f26 := ⟨Tryd.f93.name, by decide, Tryd.func93.trans (congrArg some (by kernel_rfl))⟩
  f27 := ⟨Tryd.f94.name, by decide, Tryd.func94.trans (congrArg some (by kernel_rfl))⟩
  f28 := Tryd.func95.trans (congrArg some (by kernel_rfl))
  f29 := Tryd.func96.trans (congrArg some (by kernel_rfl))
  f46 := ⟨Tryd.f105.name, by decide, Tryd.func105.trans (congrArg some (by kernel_rfl))⟩
  f47 := Tryd.func106.trans (congrArg some (by kernel_rfl))
  f48 := Tryd.func107.trans (congrArg some (by kernel_rfl))
  f49 := ⟨Tryd.f108.name, by decide, Tryd.func108.trans (congrArg some (by kernel_rfl))⟩
  f50 := ⟨Tryd.f109.name, by decide, Tryd.func109.trans (congrArg some (by kernel_rfl))⟩
  f57 := ⟨Tryd.f116.name, by decide, Tryd.func116.trans (congrArg some (by kernel_rfl))⟩
  t0 := Tryd.underlying0
  a0 := Tryd.isAgg0
  z0 := Tryd.sizeOf0
  v0 := Tryd.zeroValue0
  t3 := Tryd.underlying3
  a3 := Tryd.isAgg3
  z3 := Tryd.sizeOf3
  v3 := Tryd.zeroValue3
  t4 := Tryd.underlying4
  a4 := Tryd.isAgg4
  z4 := Tryd.sizeOf4
  v4 := Tryd.zeroValue4
  t5 := Tryd.underlying5
  a5 := Tryd.isAgg5
  z5 := Tryd.sizeOf5
  v5 := Tryd.zeroValue5
  t9 := Tryd.underlying9
  a9 := Tryd.isAgg9
  z9 := Tryd.sizeOf9
  v9 := Tryd.zeroValue9
  t22 := Tryd.underlying47
  a22 := Tryd.isAgg47
  z22 := Tryd.sizeOf47
  v22 := Tryd.zeroValue47
  t25 := Tryd.underlying80
  a25 := Tryd.isAgg80
  z25 := Tryd.sizeOf80
  v25 := Tryd.zeroValue80
  t39 := Tryd.underlying97
  a39 := Tryd.isAgg97
  z39 := Tryd.sizeOf97
  v39 := Tryd.zeroValue97
  t45 := Tryd.underlying114
  a45 := Tryd.isAgg114
  z45 := Tryd.sizeOf114
  v45 := Tryd.zeroValue114
  t46 := Tryd.underlying115
  a46 := Tryd.isAgg115
  z46 := Tryd.sizeOf115
  v46 := Tryd.zeroValue115
  t50 := Tryd.underlying119
  a50 := Tryd.isAgg119
  z50 := Tryd.sizeOf119
  v50 := Tryd.zeroValue119
  t53 := Tryd.underlying122
  a53 := Tryd.isAgg122
  z53 := Tryd.sizeOf122
  v53 := Tryd.zeroValue122
  t55 := Tryd.underlying104
  a55 := Tryd.isAgg104
  z55 := Tryd.sizeOf104
  v55 := Tryd.zeroValue104
  t66 := Tryd.underlying133
  a66 := Tryd.isAgg133
  z66 := Tryd.sizeOf133
  v66 := Tryd.zeroValue133
  t70 := Tryd.underlying137
  a70 := Tryd.isAgg137
  z70 := Tryd.sizeOf137
  v70 := Tryd.zeroValue137
  t76 := Tryd.underlying142
  a76 := Tryd.isAgg142
  z76 := Tryd.sizeOf142
  v76 := Tryd.zeroValue142
  t77 := Tryd.underlying143
  a77 := Tryd.isAgg143
  z77 := Tryd.sizeOf143
  v77 := Tryd.zeroValue143 }
end Go.Proofs
namespace Go.Pe.Tryd
open Go.Proofs Go.RowKit Go.Lib Go.Sort
/-- What tells which of two texts comes first. -/
def cmpS (a b : List UInt8) : Int := if Op.bytesLess a b = true then -1 else if (!(Op.bytesLess a b || a == b)) = true then 1 else 0
theorem nan_call (s : ByteArray) (W : World) : Calls Tryd.prog 70 #[.string s] W fun e w' => e = .returned (.bool false) ∧ w' = W := by
  go_enter Tryd.func70, Tryd.ntmps70
  go_wp2
  go_ret
  exact ⟨by simp, rfl⟩
theorem gtr_run {P : Program} {w : World} (t : TypeId) (x y : List UInt8) : (binOp .gtr t (.string ⟨x.toArray⟩) (.string ⟨y.toArray⟩)).run P w = .ok (.bool (!(Op.bytesLess x y || x == y))) w := by
  simp only [binOp, Op.stringOp, toList_str]; rfl
theorem cmp_walk (a b : List UInt8) (r : Int) (h1 : Op.bytesLess a b = true → r = -1) (h2 : Op.bytesLess a b = false → (!(Op.bytesLess a b || a == b)) = true → r = 1) (h3 : Op.bytesLess a b = false → (!(Op.bytesLess a b || a == b)) = false → r = 0) (W : World) :
    Calls Tryd.prog 50 #[.string ⟨a.toArray⟩, .string ⟨b.toArray⟩] W fun e w' => e = .returned (.int .i64 r) ∧ w' = W := by
  have hcon := fun s W' => nan_call s W'
  generalize hc : (!(Op.bytesLess a b || a == b)) = c at h2 h3
  go_enter Tryd.func50, Tryd.ntmps50
  go_wp2_with (go_at_call 70; refine (hcon _ _).mono ?_; rintro e w' ⟨rfl, rfl⟩)
  · rename_i h
    have := h1 h
    subst this
    clear h1 h2 h3 hc
    go_ret
    exact ⟨rfl, rfl⟩
  · rename_i h _ _ _ _ _ _
    rw [gtr_run, hc]
    simp only [Result.andThen, Oper.upon]
    cases c with
    | true =>
      have := h2 h rfl
      subst this
      clear h1 h2 h3 hc
      go_wp2
      go_ret
      exact ⟨rfl, rfl⟩
    | false =>
      have := h3 h rfl
      subst this
      clear h1 h2 h3 hc
      go_wp2
      go_ret
      exact ⟨rfl, rfl⟩
theorem cmp_call (a b : List UInt8) (W : World) : Calls Tryd.prog 50 #[.string ⟨a.toArray⟩, .string ⟨b.toArray⟩] W fun e w' => e = .returned (.int .i64 (cmpS a b)) ∧ w' = W := by
  refine cmp_walk a b _ (fun h => ?_) (fun h h' => ?_) (fun h h' => ?_) W <;> unfold cmpS
  · rw [if_pos h]
  · rw [if_neg (by rw [h]; simp), if_pos h']
  · rw [if_neg (by rw [h]; simp), if_neg (by rw [h']; simp)]
theorem close_call (x y : List UInt8 × V) (us vs : List Value) (W : World) (h1 : ∃ r, us = Value.string ⟨x.1.toArray⟩ :: r ∧ r.length = 5 ∧ ∀ v ∈ us, v.oneCell' = true) (h2 : ∃ r, vs = Value.string ⟨y.1.toArray⟩ :: r ∧ r.length = 5 ∧ ∀ v ∈ vs, v.oneCell' = true) :
    Calls Tryd.prog 49 #[.agg us.toArray, .agg vs.toArray] W fun e w' => e = .returned (.int .i64 (cmpS x.1 y.1)) ∧ ∃ q os', w' = grow (W.drewN q) os' := by
  obtain ⟨r, rfl, hr, o1⟩ := h1
  obtain ⟨s, rfl, hs, o2⟩ := h2
  match r, hr with
  | [r1, r2, r3, r4, r5], _ =>
    match s, hs with
    | [s1, s2, s3, s4, s5], _ =>
      have hcon := fun W' => cmp_call x.1 y.1 W'
      have q1 := o1 r1 (by simp)
      have q2 := o1 r2 (by simp)
      have q3 := o1 r3 (by simp)
      have q4 := o1 r4 (by simp)
      have q5 := o1 r5 (by simp)
      have p1 := o2 s1 (by simp)
      have p2 := o2 s2 (by simp)
      have p3 := o2 s3 (by simp)
      have p4 := o2 s4 (by simp)
      have p5 := o2 s5 (by simp)
      clear o1 o2
      generalize cmpS x.1 y.1 = r at hcon ⊢
      go_enter Tryd.func49, Tryd.ntmps49
      go_wp2_with (go_at_call 50; refine (hcon _).mono ?_; rintro e w' ⟨rfl, rfl⟩)
      go_ret
      exact ⟨rfl, 0, _, by rw [alloc_eq_grow, alloc_eq_grow, grow_grow]; rfl⟩
theorem rep_pair {A : Nat → Prop} {w : World} {x : (Ty.prod .str .value).den} {us : List Value} (h : Rep A w (.prod .str .value) x us) : ∃ r, us = Value.string ⟨(x.1 : List UInt8).toArray⟩ :: r ∧ r.length = 5 ∧ ∀ v ∈ us, v.oneCell' = true := by
  have h1 := Rep.one h
  obtain ⟨u1, u2, rfl, a, b⟩ := h
  simp only [Rep] at a b
  subst a
  exact ⟨u2, rfl, b.length, h1⟩
def cmpP (x y : (Ty.prod .str .value).den) : Int := cmpS x.1 y.1
theorem cmpS_neg (a b : List UInt8) : (cmpS a b < 0) ↔ Op.bytesLess a b = true := by
  unfold cmpS
  split
  · simp [*]
  · split <;> simp [*]
theorem bl_irr : ∀ a : List UInt8, Op.bytesLess a a = false
  | [] => rfl
  | a :: x => by simp [Op.bytesLess, bl_irr x]
theorem bl_tra : ∀ {a b c : List UInt8}, Op.bytesLess a b = true → Op.bytesLess b c = true → Op.bytesLess a c = true
  | a, [], _, h, _ => by cases a <;> simp [Op.bytesLess] at h
  | [], _ :: _, [], _, h => by simp [Op.bytesLess] at h
  | [], _ :: _, _ :: _, _, _ => rfl
  | _ :: _, _ :: _, [], _, h => by simp [Op.bytesLess] at h
  | a :: x, b :: y, c :: z, h1, h2 => by
    simp only [Op.bytesLess, Bool.or_eq_true, Bool.and_eq_true, decide_eq_true_eq, beq_iff_eq] at h1 h2 ⊢
    rcases h1 with h1 | ⟨h1, h1'⟩ <;> rcases h2 with h2 | ⟨h2, h2'⟩
    · exact .inl (UInt8.lt_trans h1 h2)
    · subst h2; exact .inl h1
    · subst h1; exact .inl h2
    · subst h1; subst h2; exact .inr ⟨rfl, bl_tra h1' h2'⟩
theorem bl_tri : ∀ {a b : List UInt8}, Op.bytesLess a b = false → Op.bytesLess b a = false → a = b
  | [], [], _, _ => rfl
  | [], _ :: _, h, _ => by simp [Op.bytesLess] at h
  | _ :: _, [], _, h => by simp [Op.bytesLess] at h
  | a :: x, b :: y, h1, h2 => by
    simp only [Op.bytesLess, Bool.or_eq_false_iff, Bool.and_eq_false_iff, decide_eq_false_iff_not, beq_eq_false_iff_ne, ne_eq] at h1 h2
    have e : a = b := by
      rw [← UInt8.toNat_inj]
      have a1 := h1.1
      have a2 := h2.1
      rw [UInt8.lt_iff_toNat_lt] at a1 a2
      omega
    subst e
    have := bl_tri (h1.2.resolve_left (by simp)) (h2.2.resolve_left (by simp))
    rw [this]
theorem swoP : SWO (ltOf cmpP) := by
  have lt : ∀ x y, ltOf cmpP x y = Op.bytesLess x.1 y.1 := fun x y => by
    unfold ltOf cmpP
    rw [Bool.eq_iff_iff, decide_eq_true_eq]; exact cmpS_neg _ _
  refine ⟨fun x => by rw [lt]; exact bl_irr _, fun x y z h1 h2 => ?_, fun x y z h1 h2 => ?_⟩
  · rw [lt] at *; exact bl_tra h1 h2
  · rw [lt] at *
    cases h : Op.bytesLess x.1 z.1 with
    | false => rfl
    | true =>
      rcases hyx : Op.bytesLess y.1 x.1 with _ | _
      · have := bl_tri h1 hyx
        rw [this] at h; rw [h] at h2; cases h2
      · have := bl_tra hyx h
        rw [this] at h2; cases h2
theorem sort_okP : ExtOk Tryd.prog 48 (sortExt (.prod .str .value) 49 cmpP) :=
  sort_ok (ρ := Tryd.sortP_ren) Tryd.sortP (.prod .str .value) Tryd.isAgg49 Tryd.sizeOf49 cmpP swoP 49 (enters_of Tryd.func49 (by kernel_rfl) rfl) ⟨_, Tryd.func48, by kernel_rfl, by kernel_rfl⟩
    (fun A w x y us vs hx hy W => close_call x y us vs W (rep_pair hx) (rep_pair hy))
end Go.Pe.Tryd
end
section
namespace Go.Pe.Tryd
open Go.Proofs Go.RowKit
set_option maxRecDepth 100000
noncomputable section
@[reducible] noncomputable def f47_c : Code := codeOf Tryd.f47
@[reducible] noncomputable def h47_E : Env := envOf Tryd.prog 25 [] []
theorem h47_E_okE : EnvOk Tryd.prog h47_E := envOf_ok _ _ _ mixed
@[reducible] noncomputable def h47_I : Shape := ⟨[.hole (.list (.prod .str .value))], [], []⟩
@[reducible] noncomputable def h47_O : Shape := ⟨[.whole 0], [], [some (.prod .str .value)]⟩
@[reducible] noncomputable def h47_a : Ann Tryd.prog 0 true f47_c := (.leaf _)
noncomputable def h47_F (y : h47_I.den) : Option h47_O.den := evFunH h47_E Tryd.f47 h47_a h47_I h47_O y
theorem h47_ok : SoundH Tryd.prog 47 ⟨h47_I, h47_O, h47_F⟩ := sound_ofH (I := h47_I) (O := h47_O) (c := f47_c) (h47_E_okE) (by kernel_rfl) (by kernel_rfl) (by kernel_rfl) h47_a rfl (fun _ => rfl)
@[reducible] noncomputable def f31_c : Code := codeOf Tryd.f31
@[reducible] noncomputable def f31_E : Env := envOfE Tryd.prog 25 [] [⟨47, _, h47_ok⟩] [⟨48, _, sort_okP⟩]
theorem f31_E_okE : EnvOk Tryd.prog f31_E := envOfE_ok _ _ _ _ mixed
@[reducible] noncomputable def f31_p0_sh : Shape := ⟨[.dead, .dead, .ptr 0 0, .dead, .whole 0, .ptr 1 0, .hole (.int .i64), .ptr 2 0, .dead, .dead, .dead, .dead, .dead, .whole 0, .hole (.int .i64), .hole (.int .i64), .dead, .dead, .dead, .dead, .dead, .dead, .dead, .dead, .dead, .dead, .dead, .dead, .dead, .dead, .dead, .dead, .dead, .dead, .dead, .dead, .dead, .dead, .dead, .dead, .dead, .dead, .dead, .dead, .dead, .dead, .dead, .dead, .dead, .dead], [some [.hole (.int .i64), .hole (.int .i64), .hole .str, .nilS, .nilS], some [.hole (.int .i64), .hole (.int .i64), .hole .str, .whole 2, .whole 1], some [.hole .str, .hole (.int .i64), .hole (.int .i64), .hole .str, .hole (.list .value), .hole (.list .str)]], [some (.prod .str .value), some .str, some .value]⟩
@[reducible] noncomputable def f31_p0_o0 : Shape := ⟨[.dead, .dead, .ptr 0 0, .dead, .whole 0, .ptr 1 0, .dead, .ptr 2 0, .dead, .dead, .dead, .dead, .dead, .whole 0, .hole (.int .i64), .hole (.int .i64), .dead, .dead, .dead, .dead, .dead, .dead, .dead, .dead, .dead, .dead, .dead, .dead, .dead, .dead, .dead, .dead, .hole .bool, .dead, .dead, .dead, .dead, .dead, .dead, .dead, .dead, .dead, .dead, .dead, .dead, .dead, .dead, .dead, .dead, .dead], [some [.hole (.int .i64), .hole (.int .i64), .hole .str, .nilS, .nilS], some [.hole (.int .i64), .hole (.int .i64), .hole .str, .whole 2, .whole 1], some [.hole .str, .hole (.int .i64), .hole (.int .i64), .hole .str, .hole (.list .value), .hole (.list .str)]], [some (.prod .str .value), some .str, some .value]⟩
@[reducible] noncomputable def f31_p0_outs : List (Ex × Shape) := [(.normal, f31_p0_o0)]
@[reducible] noncomputable def f31_p0_a : Ann Tryd.prog 0 true (f31_c.cr.cr.cr.cr.cl.cr.cb.cb.cr.cr.cl.cb.cr.cl.cl) := (.leaf _)
noncomputable def f31_p0_F (y : f31_p0_sh.den) : Option (OutDen f31_p0_outs) := evA f31_E f31_p0_a (fill f31_p0_sh y) (packOut f31_p0_outs)
theorem f31_p0_ok : PieceSound Tryd.prog 0 true (f31_c.cr.cr.cr.cr.cl.cr.cb.cb.cr.cr.cl.cb.cr.cl.cl) f31_p0_sh f31_p0_outs f31_p0_F := piece_of (f31_E_okE) f31_p0_a rfl rfl fun _ => rfl
@[reducible] noncomputable def f31_p1_sh : Shape := ⟨[.dead, .dead, .ptr 0 0, .dead, .whole 0, .ptr 1 0, .dead, .dead, .dead, .dead, .dead, .dead, .dead, .whole 0, .hole (.int .i64), .hole (.int .i64), .dead, .dead, .dead, .dead, .dead, .dead, .dead, .dead, .dead, .dead, .dead, .dead, .dead, .dead, .dead, .dead, .dead, .dead, .dead, .dead, .dead, .dead, .dead, .dead, .dead, .dead, .dead, .dead, .dead, .dead, .dead, .dead, .dead, .dead], [some [.hole (.int .i64), .hole (.int .i64), .hole .str, .nilS, .nilS], some [.hole (.int .i64), .hole (.int .i64), .hole .str, .whole 2, .whole 1]], [some (.prod .str .value), some .str, some .value]⟩
@[reducible] noncomputable def f31_p1_o0 : Shape := ⟨[.dead, .dead, .ptr 0 0, .dead, .dead, .ptr 1 0, .dead, .dead, .dead, .dead, .dead, .dead, .dead, .dead, .dead, .dead, .dead, .dead, .dead, .dead, .dead, .dead, .dead, .dead, .dead, .dead, .dead, .dead, .dead, .dead, .dead, .dead, .dead, .dead, .dead, .dead, .dead, .dead, .dead, .dead, .dead, .dead, .dead, .dead, .dead, .dead, .dead, .dead, .dead, .dead], [some [.hole (.int .i64), .hole (.int .i64), .hole .str, .nilS, .nilS], some [.hole (.int .i64), .hole (.int .i64), .hole .str, .whole 2, .whole 1]], [none, some .str, some .value]⟩
@[reducible] noncomputable def f31_p1_o1 : Shape := ⟨[.dead, .dead, .ptr 0 0, .hole (.int .i64), .dead, .dead, .dead, .dead, .dead, .dead, .dead, .dead, .dead, .dead, .dead, .dead, .dead, .dead, .dead, .dead, .dead, .dead, .dead, .dead, .dead, .dead, .dead, .dead, .dead, .dead, .dead, .dead, .dead, .dead, .dead, .dead, .dead, .dead, .dead, .dead, .dead, .dead, .dead, .dead, .dead, .dead, .dead, .dead, .dead, .dead], [some [.hole (.int .i64), .hole (.int .i64), .hole .str, .nilS, .nilS]], []⟩
@[reducible] noncomputable def f31_p1_outs : List (Ex × Shape) := [(.exit 0, f31_p1_o0), (.ret, f31_p1_o1)]
@[reducible] noncomputable def f31_p1_a : Ann Tryd.prog 0 true (f31_c.cr.cr.cr.cr.cl.cr.cb.cb) := (.seq (.leaf _) (.seq (.leaf _) (.seq (.block (.seq (.leaf _) (.seq (.seq (.piece _ _ _ f31_p0_ok) (.leaf _)) (.leaf _)))) (.leaf _))))
noncomputable def f31_p1_st (rec : f31_p1_sh.den → Option (OutDen f31_p1_outs)) (y : f31_p1_sh.den) : Option (OutDen f31_p1_outs) := evA f31_E f31_p1_a (fill f31_p1_sh y) fun ex st => match ex with | .normal => (abs f31_p1_sh st).bind rec | e => packOut f31_p1_outs e st
theorem f31_p1_ok : PieceSound Tryd.prog 0 true (.loop (f31_c.cr.cr.cr.cr.cl.cr.cb.cb)) f31_p1_sh f31_p1_outs (go f31_p1_st) := go_of (f31_E_okE) f31_p1_a rfl rfl fun _ _ => rfl
@[reducible] noncomputable def f31_ps : List KD := [.one (.list (.prod .str .value))]
@[reducible] noncomputable def f31_rs : List KD := [.agg [(.int .i64), (.int .i64), .str, (.list .value), (.list .str)], .one (.int .i64)]
@[reducible] noncomputable def f31_a : Ann Tryd.prog 0 true f31_c := (.seq (.leaf _) (.seq (.leaf _) (.seq (.leaf _) (.seq (.leaf _) (.seq (.seq (.leaf _) (.block (.piece _ _ _ f31_p1_ok))) (.leaf _))))))
noncomputable def f31_F (y : argsDen f31_ps) : Option (argsDen f31_rs) := evFunA f31_E Tryd.f31 f31_a (encArgs f31_ps y) (decRes f31_rs)
theorem f31_ok : Sound Tryd.prog 31 (pfun f31_F) := sound_of (c := f31_c) (f31_E_okE) (by kernel_rfl) (by kernel_rfl) (by kernel_rfl) f31_a (fun _ => rfl)
@[reducible] noncomputable def f9_c : Code := codeOf Tryd.f9
@[reducible] noncomputable def f9_E : Env := envOf Tryd.prog 25 [rowOf true f12_ok, rowOf true f13_ok, rowOf true f15_ok, rowOf true f17_ok, rowOf false f28_ok, rowOf false f31_ok] []
theorem f9_E_okE : EnvOk Tryd.prog f9_E := envOf_ok _ _ _ mixed
@[reducible] noncomputable def f9_p0_sh : Shape := ⟨[.hole (.list (.prod .str .value)), .dead, .dead, .hole (.int .i64), .hole (.int .i64), .dead, .dead, .dead, .ptr 0 0, .dead, .dead, .dead, .dead, .dead, .dead, .dead, .dead, .dead, .dead, .dead, .dead, .dead, .dead, .dead, .dead, .dead, .dead, .dead, .dead, .dead, .dead, .dead, .dead, .dead, .dead, .dead, .dead, .dead, .dead, .dead, .dead, .dead, .dead, .dead, .dead, .dead, .dead, .dead, .dead, .dead, .dead, .dead, .dead, .dead, .dead, .dead, .dead, .dead, .dead, .dead, .dead, .dead, .dead, .dead, .dead, .dead, .dead, .dead, .dead, .dead, .dead, .dead, .dead, .dead, .dead, .dead, .dead, .dead, .dead], [some [.hole (.int .i64), .hole (.int .i64), .hole .str, .hole (.list .value), .hole (.list .str)]], [none]⟩
@[reducible] noncomputable def f9_p0_o0 : Shape := ⟨[.hole (.list (.prod .str .value)), .dead, .dead, .hole (.int .i64), .hole (.int .i64), .dead, .dead, .dead, .dead, .dead, .dead, .dead, .dead, .dead, .dead, .dead, .dead, .dead, .dead, .dead, .dead, .dead, .dead, .dead, .dead, .dead, .dead, .dead, .dead, .dead, .dead, .dead, .dead, .dead, .dead, .dead, .dead, .dead, .dead, .dead, .dead, .dead, .dead, .dead, .dead, .dead, .dead, .dead, .dead, .dead, .dead, .dead, .dead, .dead, .dead, .dead, .dead, .dead, .hole .bool, .dead, .dead, .dead, .dead, .dead, .dead, .dead, .dead, .dead, .dead, .dead, .dead, .dead, .dead, .dead, .dead, .dead, .dead, .dead, .dead], [], []⟩
@[reducible] noncomputable def f9_p0_outs : List (Ex × Shape) := [(.normal, f9_p0_o0)]
@[reducible] noncomputable def f9_p0_a : Ann Tryd.prog 0 true (f9_c.cr.cr.cr.cr.cr.cr.cl.cl) := (.leaf _)
noncomputable def f9_p0_F (y : f9_p0_sh.den) : Option (OutDen f9_p0_outs) := evA f9_E f9_p0_a (fill f9_p0_sh y) (packOut f9_p0_outs)
theorem f9_p0_ok : PieceSound Tryd.prog 0 true (f9_c.cr.cr.cr.cr.cr.cr.cl.cl) f9_p0_sh f9_p0_outs f9_p0_F := piece_of (f9_E_okE) f9_p0_a rfl rfl fun _ => rfl
@[reducible] noncomputable def f9_p1_sh : Shape := ⟨[.hole (.list (.prod .str .value)), .dead, .dead, .hole (.int .i64), .hole (.int .i64), .whole 0, .dead, .dead, .dead, .dead, .dead, .dead, .dead, .dead, .dead, .dead, .hole (.list (.prod .str .value)), .hole (.int .i64), .hole (.int .i64), .dead, .dead, .dead, .dead, .dead, .dead, .dead, .dead, .dead, .dead, .dead, .dead, .dead, .dead, .dead, .dead, .dead, .dead, .dead, .dead, .dead, .dead, .dead, .dead, .dead, .dead, .dead, .dead, .dead, .dead, .dead, .dead, .dead, .dead, .dead, .dead, .dead, .dead, .dead, .dead, .dead, .dead, .dead, .dead, .dead, .dead, .dead, .dead, .dead, .dead, .dead, .dead, .dead, .dead, .dead, .dead, .dead, .dead, .dead, .dead], [], [some .value]⟩
@[reducible] noncomputable def f9_p1_o0 : Shape := ⟨[.hole (.list (.prod .str .value)), .dead, .dead, .hole (.int .i64), .hole (.int .i64), .whole 0, .dead, .dead, .dead, .dead, .dead, .dead, .dead, .dead, .dead, .dead, .dead, .dead, .dead, .dead, .dead, .dead, .dead, .dead, .dead, .dead, .dead, .dead, .dead, .dead, .dead, .dead, .dead, .dead, .dead, .dead, .dead, .dead, .dead, .dead, .dead, .dead, .dead, .dead, .dead, .dead, .dead, .dead, .dead, .dead, .dead, .dead, .dead, .dead, .dead, .dead, .dead, .dead, .dead, .dead, .dead, .dead, .dead, .dead, .dead, .dead, .dead, .dead, .dead, .dead, .dead, .dead, .dead, .dead, .dead, .dead, .dead, .dead, .dead], [], [some .value]⟩
@[reducible] noncomputable def f9_p1_o1 : Shape := ⟨[.dead, .dead, .hole .bool, .dead, .dead, .dead, .dead, .dead, .dead, .dead, .dead, .dead, .dead, .dead, .dead, .dead, .dead, .dead, .dead, .dead, .dead, .dead, .dead, .dead, .dead, .dead, .dead, .dead, .dead, .dead, .dead, .dead, .dead, .dead, .dead, .dead, .dead, .dead, .dead, .dead, .dead, .dead, .dead, .dead, .dead, .dead, .dead, .dead, .dead, .dead, .dead, .dead, .dead, .dead, .dead, .dead, .dead, .dead, .dead, .dead, .dead, .dead, .dead, .dead, .dead, .dead, .dead, .dead, .dead, .dead, .dead, .dead, .dead, .dead, .dead, .dead, .dead, .dead, .dead], [], []⟩
@[reducible] noncomputable def f9_p1_outs : List (Ex × Shape) := [(.exit 0, f9_p1_o0), (.ret, f9_p1_o1)]
@[reducible] noncomputable def f9_p1_a : Ann Tryd.prog 0 true (f9_c.cr.cr.cr.cr.cl.cr.cb.cb) := (.leaf _)
noncomputable def f9_p1_st (rec : f9_p1_sh.den → Option (OutDen f9_p1_outs)) (y : f9_p1_sh.den) : Option (OutDen f9_p1_outs) := evA f9_E f9_p1_a (fill f9_p1_sh y) fun ex st => match ex with | .normal => (abs f9_p1_sh st).bind rec | e => packOut f9_p1_outs e st
theorem f9_p1_ok : PieceSound Tryd.prog 0 true (.loop (f9_c.cr.cr.cr.cr.cl.cr.cb.cb)) f9_p1_sh f9_p1_outs (go f9_p1_st) := go_of (f9_E_okE) f9_p1_a rfl rfl fun _ _ => rfl
@[reducible] noncomputable def f9_ps : List KD := [.one (.list (.prod .str .value))]
@[reducible] noncomputable def f9_rs : List KD := [.one .bool]
@[reducible] noncomputable def f9_a : Ann Tryd.prog 0 true f9_c := (.seq (.leaf _) (.seq (.leaf _) (.seq (.leaf _) (.seq (.leaf _) (.seq (.seq (.leaf _) (.block (.piece _ _ _ f9_p1_ok))) (.seq (.leaf _) (.seq (.seq (.piece _ _ _ f9_p0_ok) (.leaf _)) (.leaf _))))))))
noncomputable def f9_F (y : argsDen f9_ps) : Option (argsDen f9_rs) := evFunA f9_E Tryd.f9 f9_a (encArgs f9_ps y) (decRes f9_rs)
theorem f9_ok : Sound Tryd.prog 9 (pfun f9_F) := sound_of (c := f9_c) (f9_E_okE) (by kernel_rfl) (by kernel_rfl) (by kernel_rfl) f9_a (fun _ => rfl)
end
end Go.Pe.Tryd
end
section
namespace Go.Pe.Tryd
open Go.Proofs Go.RowKit
set_option maxRecDepth 100000
set_option linter.unusedVariables false
def h47_y (x0 : List ((List UInt8 × V))) : h47_I.den := ((x0, ()), (), ())
def h47_o_y (l0 : List ((List UInt8 × V))) : h47_O.den := (((), ()), (), (l0, ()))
def h47_o_l0 (z : h47_O.den) : List ((List UInt8 × V)) := z.2.2.1
@[simp] theorem h47_o_l0_y (l0 : List ((List UInt8 × V))) : h47_o_l0 (h47_o_y l0) = l0 := id rfl
theorem h47_eq (x0 : List ((List UInt8 × V))) : h47_F (h47_y x0) = (nilEq x0 (some (h47_o_y ([] : List ((List UInt8 × V))))) (appOk (([] : List ((List UInt8 × V))).length + x0.length) (some (h47_o_y (([] : List ((List UInt8 × V))) ++ x0))))) := by kernel_rfl
def f31_p0_y (x6 : Int) (x14 : Int) (x15 : Int) (r0_0 : Int) (r0_1 : Int) (r0_2 : List UInt8) (r1_0 : Int) (r1_1 : Int) (r1_2 : List UInt8) (r2_0 : List UInt8) (r2_1 : Int) (r2_2 : Int) (r2_3 : List UInt8) (r2_4 : List V) (r2_5 : List (List UInt8)) (l0 : List ((List UInt8 × V))) (l1 : List (List UInt8)) (l2 : List V) : f31_p0_sh.den := (((), ((), ((), ((), ((), ((), (x6, ((), ((), ((), ((), ((), ((), ((), (x14, (x15, ((), ((), ((), ((), ((), ((), ((), ((), ((), ((), ((), ((), ((), ((), ((), ((), ((), ((), ((), ((), ((), ((), ((), ((), ((), ((), ((), ((), ((), ((), ((), ((), ((), ((), ())))))))))))))))))))))))))))))))))))))))))))))))))), ((r0_0, (r0_1, (r0_2, ((), ((), ()))))), ((r1_0, (r1_1, (r1_2, ((), ((), ()))))), ((r2_0, (r2_1, (r2_2, (r2_3, (r2_4, (r2_5, ())))))), ()))), (l0, (l1, (l2, ()))))
def f31_p0_o0_y (x14 : Int) (x15 : Int) (x32 : Bool) (r0_0 : Int) (r0_1 : Int) (r0_2 : List UInt8) (r1_0 : Int) (r1_1 : Int) (r1_2 : List UInt8) (r2_0 : List UInt8) (r2_1 : Int) (r2_2 : Int) (r2_3 : List UInt8) (r2_4 : List V) (r2_5 : List (List UInt8)) (l0 : List ((List UInt8 × V))) (l1 : List (List UInt8)) (l2 : List V) : f31_p0_o0.den := (((), ((), ((), ((), ((), ((), ((), ((), ((), ((), ((), ((), ((), ((), (x14, (x15, ((), ((), ((), ((), ((), ((), ((), ((), ((), ((), ((), ((), ((), ((), ((), ((), (x32, ((), ((), ((), ((), ((), ((), ((), ((), ((), ((), ((), ((), ((), ((), ((), ((), ((), ())))))))))))))))))))))))))))))))))))))))))))))))))), ((r0_0, (r0_1, (r0_2, ((), ((), ()))))), ((r1_0, (r1_1, (r1_2, ((), ((), ()))))), ((r2_0, (r2_1, (r2_2, (r2_3, (r2_4, (r2_5, ())))))), ()))), (l0, (l1, (l2, ()))))
def f31_p0_o0_x14 (z : f31_p0_o0.den) : Int := z.1.2.2.2.2.2.2.2.2.2.2.2.2.2.2.1
def f31_p0_o0_x15 (z : f31_p0_o0.den) : Int := z.1.2.2.2.2.2.2.2.2.2.2.2.2.2.2.2.1
def f31_p0_o0_x32 (z : f31_p0_o0.den) : Bool := z.1.2.2.2.2.2.2.2.2.2.2.2.2.2.2.2.2.2.2.2.2.2.2.2.2.2.2.2.2.2.2.2.2.1
def f31_p0_o0_r0_0 (z : f31_p0_o0.den) : Int := z.2.1.1.1
def f31_p0_o0_r0_1 (z : f31_p0_o0.den) : Int := z.2.1.1.2.1
def f31_p0_o0_r0_2 (z : f31_p0_o0.den) : List UInt8 := z.2.1.1.2.2.1
def f31_p0_o0_r1_0 (z : f31_p0_o0.den) : Int := z.2.1.2.1.1
def f31_p0_o0_r1_1 (z : f31_p0_o0.den) : Int := z.2.1.2.1.2.1
def f31_p0_o0_r1_2 (z : f31_p0_o0.den) : List UInt8 := z.2.1.2.1.2.2.1
def f31_p0_o0_r2_0 (z : f31_p0_o0.den) : List UInt8 := z.2.1.2.2.1.1
def f31_p0_o0_r2_1 (z : f31_p0_o0.den) : Int := z.2.1.2.2.1.2.1
def f31_p0_o0_r2_2 (z : f31_p0_o0.den) : Int := z.2.1.2.2.1.2.2.1
def f31_p0_o0_r2_3 (z : f31_p0_o0.den) : List UInt8 := z.2.1.2.2.1.2.2.2.1
def f31_p0_o0_r2_4 (z : f31_p0_o0.den) : List V := z.2.1.2.2.1.2.2.2.2.1
def f31_p0_o0_r2_5 (z : f31_p0_o0.den) : List (List UInt8) := z.2.1.2.2.1.2.2.2.2.2.1
def f31_p0_o0_l0 (z : f31_p0_o0.den) : List ((List UInt8 × V)) := z.2.2.1
def f31_p0_o0_l1 (z : f31_p0_o0.den) : List (List UInt8) := z.2.2.2.1
def f31_p0_o0_l2 (z : f31_p0_o0.den) : List V := z.2.2.2.2.1
@[simp] theorem f31_p0_o0_x14_y (x14 : Int) (x15 : Int) (x32 : Bool) (r0_0 : Int) (r0_1 : Int) (r0_2 : List UInt8) (r1_0 : Int) (r1_1 : Int) (r1_2 : List UInt8) (r2_0 : List UInt8) (r2_1 : Int) (r2_2 : Int) (r2_3 : List UInt8) (r2_4 : List V) (r2_5 : List (List UInt8)) (l0 : List ((List UInt8 × V))) (l1 : List (List UInt8)) (l2 : List V) : f31_p0_o0_x14 (f31_p0_o0_y x14 x15 x32 r0_0 r0_1 r0_2 r1_0 r1_1 r1_2 r2_0 r2_1 r2_2 r2_3 r2_4 r2_5 l0 l1 l2) = x14 := id rfl
@[simp] theorem f31_p0_o0_x15_y (x14 : Int) (x15 : Int) (x32 : Bool) (r0_0 : Int) (r0_1 : Int) (r0_2 : List UInt8) (r1_0 : Int) (r1_1 : Int) (r1_2 : List UInt8) (r2_0 : List UInt8) (r2_1 : Int) (r2_2 : Int) (r2_3 : List UInt8) (r2_4 : List V) (r2_5 : List (List UInt8)) (l0 : List ((List UInt8 × V))) (l1 : List (List UInt8)) (l2 : List V) : f31_p0_o0_x15 (f31_p0_o0_y x14 x15 x32 r0_0 r0_1 r0_2 r1_0 r1_1 r1_2 r2_0 r2_1 r2_2 r2_3 r2_4 r2_5 l0 l1 l2) = x15 := id rfl
@[simp] theorem f31_p0_o0_x32_y (x14 : Int) (x15 : Int) (x32 : Bool) (r0_0 : Int) (r0_1 : Int) (r0_2 : List UInt8) (r1_0 : Int) (r1_1 : Int) (r1_2 : List UInt8) (r2_0 : List UInt8) (r2_1 : Int) (r2_2 : Int) (r2_3 : List UInt8) (r2_4 : List V) (r2_5 : List (List UInt8)) (l0 : List ((List UInt8 × V))) (l1 : List (List UInt8)) (l2 : List V) : f31_p0_o0_x32 (f31_p0_o0_y x14 x15 x32 r0_0 r0_1 r0_2 r1_0 r1_1 r1_2 r2_0 r2_1 r2_2 r2_3 r2_4 r2_5 l0 l1 l2) = x32 := id rfl
@[simp] theorem f31_p0_o0_r0_0_y (x14 : Int) (x15 : Int) (x32 : Bool) (r0_0 : Int) (r0_1 : Int) (r0_2 : List UInt8) (r1_0 : Int) (r1_1 : Int) (r1_2 : List UInt8) (r2_0 : List UInt8) (r2_1 : Int) (r2_2 : Int) (r2_3 : List UInt8) (r2_4 : List V) (r2_5 : List (List UInt8)) (l0 : List ((List UInt8 × V))) (l1 : List (List UInt8)) (l2 : List V) : f31_p0_o0_r0_0 (f31_p0_o0_y x14 x15 x32 r0_0 r0_1 r0_2 r1_0 r1_1 r1_2 r2_0 r2_1 r2_2 r2_3 r2_4 r2_5 l0 l1 l2) = r0_0 := id rfl
@[simp] theorem f31_p0_o0_r0_1_y (x14 : Int) (x15 : Int) (x32 : Bool) (r0_0 : Int) (r0_1 : Int) (r0_2 : List UInt8) (r1_0 : Int) (r1_1 : Int) (r1_2 : List UInt8) (r2_0 : List UInt8) (r2_1 : Int) (r2_2 : Int) (r2_3 : List UInt8) (r2_4 : List V) (r2_5 : List (List UInt8)) (l0 : List ((List UInt8 × V))) (l1 : List (List UInt8)) (l2 : List V) : f31_p0_o0_r0_1 (f31_p0_o0_y x14 x15 x32 r0_0 r0_1 r0_2 r1_0 r1_1 r1_2 r2_0 r2_1 r2_2 r2_3 r2_4 r2_5 l0 l1 l2) = r0_1 := id rfl
@[simp] theorem f31_p0_o0_r0_2_y (x14 : Int) (x15 : Int) (x32 : Bool) (r0_0 : Int) (r0_1 : Int) (r0_2 : List UInt8) (r1_0 : Int) (r1_1 : Int) (r1_2 : List UInt8) (r2_0 : List UInt8) (r2_1 : Int) (r2_2 : Int) (r2_3 : List UInt8) (r2_4 : List V) (r2_5 : List (List UInt8)) (l0 : List ((List UInt8 × V))) (l1 : List (List UInt8)) (l2 : List V) : f31_p0_o0_r0_2 (f31_p0_o0_y x14 x15 x32 r0_0 r0_1 r0_2 r1_0 r1_1 r1_2 r2_0 r2_1 r2_2 r2_3 r2_4 r2_5 l0 l1 l2) = r0_2 := id rfl
@[simp] theorem f31_p0_o0_r1_0_y (x14 : Int) (x15 : Int) (x32 : Bool) (r0_0 : Int) (r0_1 : Int) (r0_2 : List UInt8) (r1_0 : Int) (r1_1 : Int) (r1_2 : List UInt8) (r2_0 : List UInt8) (r2_1 : Int) (r2_2 : Int) (r2_3 : List UInt8) (r2_4 : List V) (r2_5 : List (List UInt8)) (l0 : List ((List UInt8 × V))) (l1 : List (List UInt8)) (l2 : List V) : f31_p0_o0_r1_0 (f31_p0_o0_y x14 x15 x32 r0_0 r0_1 r0_2 r1_0 r1_1 r1_2 r2_0 r2_1 r2_2 r2_3 r2_4 r2_5 l0 l1 l2) = r1_0 := id rfl
@[simp] theorem f31_p0_o0_r1_1_y (x14 : Int) (x15 : Int) (x32 : Bool) (r0_0 : Int) (r0_1 : Int) (r0_2 : List UInt8) (r1_0 : Int) (r1_1 : Int) (r1_2 : List UInt8) (r2_0 : List UInt8) (r2_1 : Int) (r2_2 : Int) (r2_3 : List UInt8) (r2_4 : List V) (r2_5 : List (List UInt8)) (l0 : List ((List UInt8 × V))) (l1 : List (List UInt8)) (l2 : List V) : f31_p0_o0_r1_1 (f31_p0_o0_y x14 x15 x32 r0_0 r0_1 r0_2 r1_0 r1_1 r1_2 r2_0 r2_1 r2_2 r2_3 r2_4 r2_5 l0 l1 l2) = r1_1 := id rfl
@[simp] theorem f31_p0_o0_r1_2_y (x14 : Int) (x15 : Int) (x32 : Bool) (r0_0 : Int) (r0_1 : Int) (r0_2 : List UInt8) (r1_0 : Int) (r1_1 : Int) (r1_2 : List UInt8) (r2_0 : List UInt8) (r2_1 : Int) (r2_2 : Int) (r2_3 : List UInt8) (r2_4 : List V) (r2_5 : List (List UInt8)) (l0 : List ((List UInt8 × V))) (l1 : List (List UInt8)) (l2 : List V) : f31_p0_o0_r1_2 (f31_p0_o0_y x14 x15 x32 r0_0 r0_1 r0_2 r1_0 r1_1 r1_2 r2_0 r2_1 r2_2 r2_3 r2_4 r2_5 l0 l1 l2) = r1_2 := id rfl
@[simp] theorem f31_p0_o0_r2_0_y (x14 : Int) (x15 : Int) (x32 : Bool) (r0_0 : Int) (r0_1 : Int) (r0_2 : List UInt8) (r1_0 : Int) (r1_1 : Int) (r1_2 : List UInt8) (r2_0 : List UInt8) (r2_1 : Int) (r2_2 : Int) (r2_3 : List UInt8) (r2_4 : List V) (r2_5 : List (List UInt8)) (l0 : List ((List UInt8 × V))) (l1 : List (List UInt8)) (l2 : List V) : f31_p0_o0_r2_0 (f31_p0_o0_y x14 x15 x32 r0_0 r0_1 r0_2 r1_0 r1_1 r1_2 r2_0 r2_1 r2_2 r2_3 r2_4 r2_5 l0 l1 l2) = r2_0 := id rfl
@[simp] theorem f31_p0_o0_r2_1_y (x14 : Int) (x15 : Int) (x32 : Bool) (r0_0 : Int) (r0_1 : Int) (r0_2 : List UInt8) (r1_0 : Int) (r1_1 : Int) (r1_2 : List UInt8) (r2_0 : List UInt8) (r2_1 : Int) (r2_2 : Int) (r2_3 : List UInt8) (r2_4 : List V) (r2_5 : List (List UInt8)) (l0 : List ((List UInt8 × V))) (l1 : List (List UInt8)) (l2 : List V) : f31_p0_o0_r2_1 (f31_p0_o0_y x14 x15 x32 r0_0 r0_1 r0_2 r1_0 r1_1 r1_2 r2_0 r2_1 r2_2 r2_3 r2_4 r2_5 l0 l1 l2) = r2_1 := id rfl
@[simp] theorem f31_p0_o0_r2_2_y (x14 : Int) (x15 : Int) (x32 : Bool) (r0_0 : Int) (r0_1 : Int) (r0_2 : List UInt8) (r1_0 : Int) (r1_1 : Int) (r1_2 : List UInt8) (r2_0 : List UInt8) (r2_1 : Int) (r2_2 : Int) (r2_3 : List UInt8) (r2_4 : List V) (r2_5 : List (List UInt8)) (l0 : List ((List UInt8 × V))) (l1 : List (List UInt8)) (l2 : List V) : f31_p0_o0_r2_2 (f31_p0_o0_y x14 x15 x32 r0_0 r0_1 r0_2 r1_0 r1_1 r1_2 r2_0 r2_1 r2_2 r2_3 r2_4 r2_5 l0 l1 l2) = r2_2 := id rfl
@[simp] theorem f31_p0_o0_r2_3_y (x14 : Int) (x15 : Int) (x32 : Bool) (r0_0 : Int) (r0_1 : Int) (r0_2 : List UInt8) (r1_0 : Int) (r1_1 : Int) (r1_2 : List UInt8) (r2_0 : List UInt8) (r2_1 : Int) (r2_2 : Int) (r2_3 : List UInt8) (r2_4 : List V) (r2_5 : List (List UInt8)) (l0 : List ((List UInt8 × V))) (l1 : List (List UInt8)) (l2 : List V) : f31_p0_o0_r2_3 (f31_p0_o0_y x14 x15 x32 r0_0 r0_1 r0_2 r1_0 r1_1 r1_2 r2_0 r2_1 r2_2 r2_3 r2_4 r2_5 l0 l1 l2) = r2_3 := id rfl
@[simp] theorem f31_p0_o0_r2_4_y (x14 : Int) (x15 : Int) (x32 : Bool) (r0_0 : Int) (r0_1 : Int) (r0_2 : List UInt8) (r1_0 : Int) (r1_1 : Int) (r1_2 : List UInt8) (r2_0 : List UInt8) (r2_1 : Int) (r2_2 : Int) (r2_3 : List UInt8) (r2_4 : List V) (r2_5 : List (List UInt8)) (l0 : List ((List UInt8 × V))) (l1 : List (List UInt8)) (l2 : List V) : f31_p0_o0_r2_4 (f31_p0_o0_y x14 x15 x32 r0_0 r0_1 r0_2 r1_0 r1_1 r1_2 r2_0 r2_1 r2_2 r2_3 r2_4 r2_5 l0 l1 l2) = r2_4 := id rfl
@[simp] theorem f31_p0_o0_r2_5_y (x14 : Int) (x15 : Int) (x32 : Bool) (r0_0 : Int) (r0_1 : Int) (r0_2 : List UInt8) (r1_0 : Int) (r1_1 : Int) (r1_2 : List UInt8) (r2_0 : List UInt8) (r2_1 : Int) (r2_2 : Int) (r2_3 : List UInt8) (r2_4 : List V) (r2_5 : List (List UInt8)) (l0 : List ((List UInt8 × V))) (l1 : List (List UInt8)) (l2 : List V) : f31_p0_o0_r2_5 (f31_p0_o0_y x14 x15 x32 r0_0 r0_1 r0_2 r1_0 r1_1 r1_2 r2_0 r2_1 r2_2 r2_3 r2_4 r2_5 l0 l1 l2) = r2_5 := id rfl
@[simp] theorem f31_p0_o0_l0_y (x14 : Int) (x15 : Int) (x32 : Bool) (r0_0 : Int) (r0_1 : Int) (r0_2 : List UInt8) (r1_0 : Int) (r1_1 : Int) (r1_2 : List UInt8) (r2_0 : List UInt8) (r2_1 : Int) (r2_2 : Int) (r2_3 : List UInt8) (r2_4 : List V) (r2_5 : List (List UInt8)) (l0 : List ((List UInt8 × V))) (l1 : List (List UInt8)) (l2 : List V) : f31_p0_o0_l0 (f31_p0_o0_y x14 x15 x32 r0_0 r0_1 r0_2 r1_0 r1_1 r1_2 r2_0 r2_1 r2_2 r2_3 r2_4 r2_5 l0 l1 l2) = l0 := id rfl
@[simp] theorem f31_p0_o0_l1_y (x14 : Int) (x15 : Int) (x32 : Bool) (r0_0 : Int) (r0_1 : Int) (r0_2 : List UInt8) (r1_0 : Int) (r1_1 : Int) (r1_2 : List UInt8) (r2_0 : List UInt8) (r2_1 : Int) (r2_2 : Int) (r2_3 : List UInt8) (r2_4 : List V) (r2_5 : List (List UInt8)) (l0 : List ((List UInt8 × V))) (l1 : List (List UInt8)) (l2 : List V) : f31_p0_o0_l1 (f31_p0_o0_y x14 x15 x32 r0_0 r0_1 r0_2 r1_0 r1_1 r1_2 r2_0 r2_1 r2_2 r2_3 r2_4 r2_5 l0 l1 l2) = l1 := id rfl
@[simp] theorem f31_p0_o0_l2_y (x14 : Int) (x15 : Int) (x32 : Bool) (r0_0 : Int) (r0_1 : Int) (r0_2 : List UInt8) (r1_0 : Int) (r1_1 : Int) (r1_2 : List UInt8) (r2_0 : List UInt8) (r2_1 : Int) (r2_2 : Int) (r2_3 : List UInt8) (r2_4 : List V) (r2_5 : List (List UInt8)) (l0 : List ((List UInt8 × V))) (l1 : List (List UInt8)) (l2 : List V) : f31_p0_o0_l2 (f31_p0_o0_y x14 x15 x32 r0_0 r0_1 r0_2 r1_0 r1_1 r1_2 r2_0 r2_1 r2_2 r2_3 r2_4 r2_5 l0 l1 l2) = l2 := id rfl
theorem f31_p0_eq (x6 : Int) (x14 : Int) (x15 : Int) (r0_0 : Int) (r0_1 : Int) (r0_2 : List UInt8) (r1_0 : Int) (r1_1 : Int) (r1_2 : List UInt8) (r2_0 : List UInt8) (r2_1 : Int) (r2_2 : Int) (r2_3 : List UInt8) (r2_4 : List V) (r2_5 : List (List UInt8)) (l0 : List ((List UInt8 × V))) (l1 : List (List UInt8)) (l2 : List V) : f31_p0_F (f31_p0_y x6 x14 x15 r0_0 r0_1 r0_2 r1_0 r1_1 r1_2 r2_0 r2_1 r2_2 r2_3 r2_4 r2_5 l0 l1 l2) = (bif (decide (x6 > (0 : Int))) then (within (IntKind.i64.wrap (x6 - (1 : Int))) l0.length ((l0[(Int.toNat (IntKind.i64.wrap (x6 - (1 : Int))))]?).bind fun e1 => some ((f31_p0_o0_y x14 x15 (e1.1 == r2_0) r0_0 r0_1 r0_2 r1_0 r1_1 r1_2 r2_0 r2_1 r2_2 r2_3 r2_4 r2_5 l0 l1 l2)))) else (some ((f31_p0_o0_y x14 x15 false r0_0 r0_1 r0_2 r1_0 r1_1 r1_2 r2_0 r2_1 r2_2 r2_3 r2_4 r2_5 l0 l1 l2)))) := by kernel_rfl
def f31_p1_y (x14 : Int) (x15 : Int) (r0_0 : Int) (r0_1 : Int) (r0_2 : List UInt8) (r1_0 : Int) (r1_1 : Int) (r1_2 : List UInt8) (l0 : List ((List UInt8 × V))) (l1 : List (List UInt8)) (l2 : List V) : f31_p1_sh.den := (((), ((), ((), ((), ((), ((), ((), ((), ((), ((), ((), ((), ((), ((), (x14, (x15, ((), ((), ((), ((), ((), ((), ((), ((), ((), ((), ((), ((), ((), ((), ((), ((), ((), ((), ((), ((), ((), ((), ((), ((), ((), ((), ((), ((), ((), ((), ((), ((), ((), ((), ())))))))))))))))))))))))))))))))))))))))))))))))))), ((r0_0, (r0_1, (r0_2, ((), ((), ()))))), ((r1_0, (r1_1, (r1_2, ((), ((), ()))))), ())), (l0, (l1, (l2, ()))))
def f31_p1_o0_y (r0_0 : Int) (r0_1 : Int) (r0_2 : List UInt8) (r1_0 : Int) (r1_1 : Int) (r1_2 : List UInt8) (l1 : List (List UInt8)) (l2 : List V) : f31_p1_o0.den := (((), ((), ((), ((), ((), ((), ((), ((), ((), ((), ((), ((), ((), ((), ((), ((), ((), ((), ((), ((), ((), ((), ((), ((), ((), ((), ((), ((), ((), ((), ((), ((), ((), ((), ((), ((), ((), ((), ((), ((), ((), ((), ((), ((), ((), ((), ((), ((), ((), ((), ())))))))))))))))))))))))))))))))))))))))))))))))))), ((r0_0, (r0_1, (r0_2, ((), ((), ()))))), ((r1_0, (r1_1, (r1_2, ((), ((), ()))))), ())), (l1, (l2, ())))
def f31_p1_o0_r1_0 (z : f31_p1_o0.den) : Int := z.2.1.2.1.1
def f31_p1_o0_r1_1 (z : f31_p1_o0.den) : Int := z.2.1.2.1.2.1
def f31_p1_o0_r1_2 (z : f31_p1_o0.den) : List UInt8 := z.2.1.2.1.2.2.1
def f31_p1_o0_l1 (z : f31_p1_o0.den) : List (List UInt8) := z.2.2.1
def f31_p1_o0_l2 (z : f31_p1_o0.den) : List V := z.2.2.2.1
@[simp] theorem f31_p1_o0_r1_0_y (r0_0 : Int) (r0_1 : Int) (r0_2 : List UInt8) (r1_0 : Int) (r1_1 : Int) (r1_2 : List UInt8) (l1 : List (List UInt8)) (l2 : List V) : f31_p1_o0_r1_0 (f31_p1_o0_y r0_0 r0_1 r0_2 r1_0 r1_1 r1_2 l1 l2) = r1_0 := id rfl
@[simp] theorem f31_p1_o0_r1_1_y (r0_0 : Int) (r0_1 : Int) (r0_2 : List UInt8) (r1_0 : Int) (r1_1 : Int) (r1_2 : List UInt8) (l1 : List (List UInt8)) (l2 : List V) : f31_p1_o0_r1_1 (f31_p1_o0_y r0_0 r0_1 r0_2 r1_0 r1_1 r1_2 l1 l2) = r1_1 := id rfl
@[simp] theorem f31_p1_o0_r1_2_y (r0_0 : Int) (r0_1 : Int) (r0_2 : List UInt8) (r1_0 : Int) (r1_1 : Int) (r1_2 : List UInt8) (l1 : List (List UInt8)) (l2 : List V) : f31_p1_o0_r1_2 (f31_p1_o0_y r0_0 r0_1 r0_2 r1_0 r1_1 r1_2 l1 l2) = r1_2 := id rfl
@[simp] theorem f31_p1_o0_l1_y (r0_0 : Int) (r0_1 : Int) (r0_2 : List UInt8) (r1_0 : Int) (r1_1 : Int) (r1_2 : List UInt8) (l1 : List (List UInt8)) (l2 : List V) : f31_p1_o0_l1 (f31_p1_o0_y r0_0 r0_1 r0_2 r1_0 r1_1 r1_2 l1 l2) = l1 := id rfl
@[simp] theorem f31_p1_o0_l2_y (r0_0 : Int) (r0_1 : Int) (r0_2 : List UInt8) (r1_0 : Int) (r1_1 : Int) (r1_2 : List UInt8) (l1 : List (List UInt8)) (l2 : List V) : f31_p1_o0_l2 (f31_p1_o0_y r0_0 r0_1 r0_2 r1_0 r1_1 r1_2 l1 l2) = l2 := id rfl
def f31_p1_o1_y (x3 : Int) (r0_0 : Int) (r0_1 : Int) (r0_2 : List UInt8) : f31_p1_o1.den := (((), ((), ((), (x3, ((), ((), ((), ((), ((), ((), ((), ((), ((), ((), ((), ((), ((), ((), ((), ((), ((), ((), ((), ((), ((), ((), ((), ((), ((), ((), ((), ((), ((), ((), ((), ((), ((), ((), ((), ((), ((), ((), ((), ((), ((), ((), ((), ((), ((), ((), ())))))))))))))))))))))))))))))))))))))))))))))))))), ((r0_0, (r0_1, (r0_2, ((), ((), ()))))), ()), ())
def f31_p1_o1_x3 (z : f31_p1_o1.den) : Int := z.1.2.2.2.1
def f31_p1_o1_r0_0 (z : f31_p1_o1.den) : Int := z.2.1.1.1
def f31_p1_o1_r0_1 (z : f31_p1_o1.den) : Int := z.2.1.1.2.1
def f31_p1_o1_r0_2 (z : f31_p1_o1.den) : List UInt8 := z.2.1.1.2.2.1
@[simp] theorem f31_p1_o1_x3_y (x3 : Int) (r0_0 : Int) (r0_1 : Int) (r0_2 : List UInt8) : f31_p1_o1_x3 (f31_p1_o1_y x3 r0_0 r0_1 r0_2) = x3 := id rfl
@[simp] theorem f31_p1_o1_r0_0_y (x3 : Int) (r0_0 : Int) (r0_1 : Int) (r0_2 : List UInt8) : f31_p1_o1_r0_0 (f31_p1_o1_y x3 r0_0 r0_1 r0_2) = r0_0 := id rfl
@[simp] theorem f31_p1_o1_r0_1_y (x3 : Int) (r0_0 : Int) (r0_1 : Int) (r0_2 : List UInt8) : f31_p1_o1_r0_1 (f31_p1_o1_y x3 r0_0 r0_1 r0_2) = r0_1 := id rfl
@[simp] theorem f31_p1_o1_r0_2_y (x3 : Int) (r0_0 : Int) (r0_1 : Int) (r0_2 : List UInt8) : f31_p1_o1_r0_2 (f31_p1_o1_y x3 r0_0 r0_1 r0_2) = r0_2 := id rfl
theorem f31_p1_eq (rec : f31_p1_sh.den → Option (OutDen f31_p1_outs)) (x14 : Int) (x15 : Int) (r0_0 : Int) (r0_1 : Int) (r0_2 : List UInt8) (r1_0 : Int) (r1_1 : Int) (r1_2 : List UInt8) (l0 : List ((List UInt8 × V))) (l1 : List (List UInt8)) (l2 : List V) : f31_p1_st rec (f31_p1_y x14 x15 r0_0 r0_1 r0_2 r1_0 r1_1 r1_2 l0 l1 l2) = (bif (decide (x15 < x14)) then (within x15 l0.length ((l0[(Int.toNat x15)]?).bind fun e2 => (f31_p0_F (f31_p0_y x15 x14 x15 r0_0 r0_1 r0_2 r1_0 r1_1 r1_2 e2.1 e2.2.kind e2.2.n e2.2.s e2.2.items e2.2.keys l0 l1 l2)).bind fun o3 => bif (f31_p0_o0_x32 o3) then (some (.inr ((f31_p1_o1_y (23 : Int) (0 : Int) (0 : Int) ([] : List UInt8))))) else (appOk ((f31_p0_o0_l1 o3).length + [(f31_p0_o0_r2_0 o3)].length) (appOk ((f31_p0_o0_l2 o3).length + [(V.mk (f31_p0_o0_r2_1 o3) (f31_p0_o0_r2_2 o3) (f31_p0_o0_r2_3 o3) (f31_p0_o0_r2_4 o3) (f31_p0_o0_r2_5 o3))].length) (rec (f31_p1_y (f31_p0_o0_x14 o3) (IntKind.i64.wrap ((f31_p0_o0_x15 o3) + (1 : Int))) (f31_p0_o0_r0_0 o3) (f31_p0_o0_r0_1 o3) (f31_p0_o0_r0_2 o3) (f31_p0_o0_r1_0 o3) (f31_p0_o0_r1_1 o3) (f31_p0_o0_r1_2 o3) (f31_p0_o0_l0 o3) ((f31_p0_o0_l1 o3) ++ [(f31_p0_o0_r2_0 o3)]) ((f31_p0_o0_l2 o3) ++ [(V.mk (f31_p0_o0_r2_1 o3) (f31_p0_o0_r2_2 o3) (f31_p0_o0_r2_3 o3) (f31_p0_o0_r2_4 o3) (f31_p0_o0_r2_5 o3))]))))))) else (some (.inl (f31_p1_o0_y r0_0 r0_1 r0_2 r1_0 r1_1 r1_2 l1 l2)))) := by kernel_rfl
theorem f31_eq (a0 : List ((List UInt8 × V))) : f31_F (a0, ()) = ((h47_F (h47_y a0)).bind fun z4 => appOk (h47_o_l0 z4).length ((go f31_p1_st (f31_p1_y ((sortF cmpP (h47_o_l0 z4)).length : Int) (0 : Int) (0 : Int) (0 : Int) ([] : List UInt8) (4 : Int) (0 : Int) ([] : List UInt8) (sortF cmpP (h47_o_l0 z4)) ([] : List (List UInt8)) ([] : List (V)))).bind fun o5 => (match o5 with | .inl z6 => some (((f31_p1_o0_r1_0 z6), ((f31_p1_o0_r1_1 z6), ((f31_p1_o0_r1_2 z6), ((f31_p1_o0_l2 z6), ((f31_p1_o0_l1 z6), ()))))), ((0 : Int), ())) | .inr o7 => some (((f31_p1_o1_r0_0 o7), ((f31_p1_o1_r0_1 o7), ((f31_p1_o1_r0_2 o7), (([] : List V), (([] : List (List UInt8)), ()))))), ((f31_p1_o1_x3 o7), ()))))) := by kernel_rfl
def f9_p0_y (x0 : List ((List UInt8 × V))) (x3 : Int) (x4 : Int) (r0_0 : Int) (r0_1 : Int) (r0_2 : List UInt8) (r0_3 : List V) (r0_4 : List (List UInt8)) : f9_p0_sh.den := ((x0, ((), ((), (x3, (x4, ((), ((), ((), ((), ((), ((), ((), ((), ((), ((), ((), ((), ((), ((), ((), ((), ((), ((), ((), ((), ((), ((), ((), ((), ((), ((), ((), ((), ((), ((), ((), ((), ((), ((), ((), ((), ((), ((), ((), ((), ((), ((), ((), ((), ((), ((), ((), ((), ((), ((), ((), ((), ((), ((), ((), ((), ((), ((), ((), ((), ((), ((), ((), ((), ((), ((), ((), ((), ((), ((), ((), ((), ((), ((), ()))))))))))))))))))))))))))))))))))))))))))))))))))))))))))))))))))))))))))))))), ((r0_0, (r0_1, (r0_2, (r0_3, (r0_4, ()))))), ()), ())
def f9_p0_o0_y (x0 : List ((List UInt8 × V))) (x3 : Int) (x4 : Int) (x58 : Bool) : f9_p0_o0.den := ((x0, ((), ((), (x3, (x4, ((), ((), ((), ((), ((), ((), ((), ((), ((), ((), ((), ((), ((), ((), ((), ((), ((), ((), ((), ((), ((), ((), ((), ((), ((), ((), ((), ((), ((), ((), ((), ((), ((), ((), ((), ((), ((), ((), ((), ((), ((), ((), ((), ((), ((), ((), ((), ((), ((), ((), ((), ((), ((), (x58, ((), ((), ((), ((), ((), ((), ((), ((), ((), ((), ((), ((), ((), ((), ((), ((), ((), ((), ((), ((), ()))))))))))))))))))))))))))))))))))))))))))))))))))))))))))))))))))))))))))))))), (), ())
def f9_p0_o0_x0 (z : f9_p0_o0.den) : List ((List UInt8 × V)) := z.1.1
def f9_p0_o0_x3 (z : f9_p0_o0.den) : Int := z.1.2.2.2.1
def f9_p0_o0_x4 (z : f9_p0_o0.den) : Int := z.1.2.2.2.2.1
def f9_p0_o0_x58 (z : f9_p0_o0.den) : Bool := z.1.2.2.2.2.2.2.2.2.2.2.2.2.2.2.2.2.2.2.2.2.2.2.2.2.2.2.2.2.2.2.2.2.2.2.2.2.2.2.2.2.2.2.2.2.2.2.2.2.2.2.2.2.2.2.2.2.2.2.1
@[simp] theorem f9_p0_o0_x0_y (x0 : List ((List UInt8 × V))) (x3 : Int) (x4 : Int) (x58 : Bool) : f9_p0_o0_x0 (f9_p0_o0_y x0 x3 x4 x58) = x0 := id rfl
@[simp] theorem f9_p0_o0_x3_y (x0 : List ((List UInt8 × V))) (x3 : Int) (x4 : Int) (x58 : Bool) : f9_p0_o0_x3 (f9_p0_o0_y x0 x3 x4 x58) = x3 := id rfl
@[simp] theorem f9_p0_o0_x4_y (x0 : List ((List UInt8 × V))) (x3 : Int) (x4 : Int) (x58 : Bool) : f9_p0_o0_x4 (f9_p0_o0_y x0 x3 x4 x58) = x4 := id rfl
@[simp] theorem f9_p0_o0_x58_y (x0 : List ((List UInt8 × V))) (x3 : Int) (x4 : Int) (x58 : Bool) : f9_p0_o0_x58 (f9_p0_o0_y x0 x3 x4 x58) = x58 := id rfl
theorem f9_p0_eq (x0 : List ((List UInt8 × V))) (x3 : Int) (x4 : Int) (r0_0 : Int) (r0_1 : Int) (r0_2 : List UInt8) (r0_3 : List V) (r0_4 : List (List UInt8)) : f9_p0_F (f9_p0_y x0 x3 x4 r0_0 r0_1 r0_2 r0_3 r0_4) = ((f15_F ((r0_0, (r0_1, (r0_2, (r0_3, (r0_4, ()))))), ())).bind fun r8 => bif (r8.1 != x3) then (some ((f9_p0_o0_y x0 x3 x4 true))) else ((f17_F ((r0_0, (r0_1, (r0_2, (r0_3, (r0_4, ()))))), ())).bind fun r9 => bif (r9.1 != (IntKind.i64.wrap (x4 + (1 : Int)))) then (some ((f9_p0_o0_y x0 x3 x4 true))) else ((f13_F ()).bind fun r10 => some ((f9_p0_o0_y x0 x3 x4 (!r10.1)))))) := by kernel_rfl
def f9_p1_y (x0 : List ((List UInt8 × V))) (x3 : Int) (x4 : Int) (x16 : List ((List UInt8 × V))) (x17 : Int) (x18 : Int) (l0 : List V) : f9_p1_sh.den := ((x0, ((), ((), (x3, (x4, ((), ((), ((), ((), ((), ((), ((), ((), ((), ((), ((), (x16, (x17, (x18, ((), ((), ((), ((), ((), ((), ((), ((), ((), ((), ((), ((), ((), ((), ((), ((), ((), ((), ((), ((), ((), ((), ((), ((), ((), ((), ((), ((), ((), ((), ((), ((), ((), ((), ((), ((), ((), ((), ((), ((), ((), ((), ((), ((), ((), ((), ((), ((), ((), ((), ((), ((), ((), ((), ((), ((), ((), ((), ((), ((), ()))))))))))))))))))))))))))))))))))))))))))))))))))))))))))))))))))))))))))))))), (), (l0, ()))
def f9_p1_o0_y (x0 : List ((List UInt8 × V))) (x3 : Int) (x4 : Int) (l0 : List V) : f9_p1_o0.den := ((x0, ((), ((), (x3, (x4, ((), ((), ((), ((), ((), ((), ((), ((), ((), ((), ((), ((), ((), ((), ((), ((), ((), ((), ((), ((), ((), ((), ((), ((), ((), ((), ((), ((), ((), ((), ((), ((), ((), ((), ((), ((), ((), ((), ((), ((), ((), ((), ((), ((), ((), ((), ((), ((), ((), ((), ((), ((), ((), ((), ((), ((), ((), ((), ((), ((), ((), ((), ((), ((), ((), ((), ((), ((), ((), ((), ((), ((), ((), ((), ()))))))))))))))))))))))))))))))))))))))))))))))))))))))))))))))))))))))))))))))), (), (l0, ()))
def f9_p1_o0_x0 (z : f9_p1_o0.den) : List ((List UInt8 × V)) := z.1.1
def f9_p1_o0_x3 (z : f9_p1_o0.den) : Int := z.1.2.2.2.1
def f9_p1_o0_x4 (z : f9_p1_o0.den) : Int := z.1.2.2.2.2.1
def f9_p1_o0_l0 (z : f9_p1_o0.den) : List V := z.2.2.1
@[simp] theorem f9_p1_o0_x0_y (x0 : List ((List UInt8 × V))) (x3 : Int) (x4 : Int) (l0 : List V) : f9_p1_o0_x0 (f9_p1_o0_y x0 x3 x4 l0) = x0 := id rfl
@[simp] theorem f9_p1_o0_x3_y (x0 : List ((List UInt8 × V))) (x3 : Int) (x4 : Int) (l0 : List V) : f9_p1_o0_x3 (f9_p1_o0_y x0 x3 x4 l0) = x3 := id rfl
@[simp] theorem f9_p1_o0_x4_y (x0 : List ((List UInt8 × V))) (x3 : Int) (x4 : Int) (l0 : List V) : f9_p1_o0_x4 (f9_p1_o0_y x0 x3 x4 l0) = x4 := id rfl
@[simp] theorem f9_p1_o0_l0_y (x0 : List ((List UInt8 × V))) (x3 : Int) (x4 : Int) (l0 : List V) : f9_p1_o0_l0 (f9_p1_o0_y x0 x3 x4 l0) = l0 := id rfl
def f9_p1_o1_y (x2 : Bool) : f9_p1_o1.den := (((), ((), (x2, ((), ((), ((), ((), ((), ((), ((), ((), ((), ((), ((), ((), ((), ((), ((), ((), ((), ((), ((), ((), ((), ((), ((), ((), ((), ((), ((), ((), ((), ((), ((), ((), ((), ((), ((), ((), ((), ((), ((), ((), ((), ((), ((), ((), ((), ((), ((), ((), ((), ((), ((), ((), ((), ((), ((), ((), ((), ((), ((), ((), ((), ((), ((), ((), ((), ((), ((), ((), ((), ((), ((), ((), ((), ((), ((), ((), ()))))))))))))))))))))))))))))))))))))))))))))))))))))))))))))))))))))))))))))))), (), ())
def f9_p1_o1_x2 (z : f9_p1_o1.den) : Bool := z.1.2.2.1
@[simp] theorem f9_p1_o1_x2_y (x2 : Bool) : f9_p1_o1_x2 (f9_p1_o1_y x2) = x2 := id rfl
theorem f9_p1_eq (rec : f9_p1_sh.den → Option (OutDen f9_p1_outs)) (x0 : List ((List UInt8 × V))) (x3 : Int) (x4 : Int) (x16 : List ((List UInt8 × V))) (x17 : Int) (x18 : Int) (l0 : List V) : f9_p1_st rec (f9_p1_y x0 x3 x4 x16 x17 x18 l0) = (bif (decide (x18 < x17)) then ((nth x16 x18).bind fun y11 => (f12_F ((y11.2.kind, (y11.2.n, (y11.2.s, (y11.2.items, (y11.2.keys, ()))))), ())).bind fun r12 => bif r12.1 then ((f13_F ()).bind fun r13 => some (.inr ((f9_p1_o1_y r13.1)))) else ((f15_F ((y11.2.kind, (y11.2.n, (y11.2.s, (y11.2.items, (y11.2.keys, ()))))), ())).bind fun r14 => (f17_F ((y11.2.kind, (y11.2.n, (y11.2.s, (y11.2.items, (y11.2.keys, ()))))), ())).bind fun r15 => appOk (l0.length + [(V.mk y11.2.kind y11.2.n y11.2.s y11.2.items y11.2.keys)].length) (rec (f9_p1_y x0 (IntKind.i64.wrap (x3 + r14.1)) (maxI x4 r15.1) x16 x17 (IntKind.i64.wrap (x18 + (1 : Int))) (l0 ++ [(V.mk y11.2.kind y11.2.n y11.2.s y11.2.items y11.2.keys)]))))) else (some (.inl (f9_p1_o0_y x0 x3 x4 l0)))) := by kernel_rfl
theorem f9_eq (a0 : List ((List UInt8 × V))) : f9_F (a0, ()) = (cutHi a0 (minI (a0.length : Int) (10 : Int)) fun s16 => (go f9_p1_st (f9_p1_y s16 (1 : Int) (0 : Int) s16 (s16.length : Int) (0 : Int) ([] : List (V)))).bind fun o17 => (match o17 with | .inl z18 => (f28_F ((f9_p1_o0_l0 z18), ())).bind fun r20 => (f9_p0_F (f9_p0_y (f9_p1_o0_x0 z18) (f9_p1_o0_x3 z18) (f9_p1_o0_x4 z18) r20.1.1 r20.1.2.1 r20.1.2.2.1 r20.1.2.2.2.1 r20.1.2.2.2.2.1)).bind fun o21 => bif (f9_p0_o0_x58 o21) then (some (false, ())) else ((f31_F ((f9_p0_o0_x0 o21), ())).bind fun r22 => bif (r22.2.1 != (0 : Int)) then (some (true, ())) else ((f15_F ((r22.1.1, (r22.1.2.1, (r22.1.2.2.1, (r22.1.2.2.2.1, (r22.1.2.2.2.2.1, ()))))), ())).bind fun r23 => bif (r23.1 == (f9_p0_o0_x3 o21)) then ((f17_F ((r22.1.1, (r22.1.2.1, (r22.1.2.2.1, (r22.1.2.2.2.1, (r22.1.2.2.2.2.1, ()))))), ())).bind fun r24 => some ((r24.1 == (IntKind.i64.wrap ((f9_p0_o0_x4 o21) + (1 : Int)))), ())) else (some (false, ())))) | .inr o19 => some ((f9_p1_o1_x2 o19), ()))) := by kernel_rfl
end Go.Pe.Tryd
end
section
namespace Go.Pe
open Go.RowKit
set_option linter.unusedSectionVars false
variable [GI]
theorem go_seq {sh : Shape} {β : Type} {step : (sh.den → Option β) → sh.den → Option β} {y : Nat → sh.den} {n : Nat} {r : Option β}
    (hs : ∀ i, i < n → ∀ rec, step rec (y i) = rec (y (i + 1))) (he : ∀ rec, step rec (y n) = r) (hm : n + 1 ≤ fuelOf sh (y 0)) : go step (y 0) = r := by
  have key : ∀ d i, i + d = n → ∀ m, d + 1 ≤ m → iter step m (y i) = r := by
    intro d
    induction d with
    | zero =>
      intro i hi m hm
      obtain ⟨m, rfl⟩ : ∃ k, m = k + 1 := ⟨m - 1, by omega⟩
      have : i = n := by omega
      subst this
      rw [iter, he]
    | succ d ih =>
      intro i hi m hm
      obtain ⟨m, rfl⟩ : ∃ k, m = k + 1 := ⟨m - 1, by omega⟩
      rw [iter, hs i (by omega), ih (i + 1) (by omega) m (by omega)]
  exact key n 0 (by omega) _ hm
theorem wrap64 {x : Int} (h0 : -9223372036854775808 ≤ x) (h1 : x < 9223372036854775808) : IntKind.i64.wrap x = x := by
  simp only [IntKind.wrap, IntKind.bits, IntKind.signed]
  simp
  omega
theorem nth_nat {α : Type} (l : List α) (i : Nat) : nth l (i : Int) = l[i]? := by simp [nth]
theorem nth_lt {α : Type} {l : List α} {i : Nat} (h : i < l.length) : nth l (i : Int) = some l[i] := by rw [nth_nat, List.getElem?_eq_getElem h]
theorem cutHi_nat' {α S : Type} (l : List α) (n : Nat) (K : List α → Option S) (h : n ≤ l.length) : cutHi l (n : Int) K = K (l.take n) := by rw [cutHi, if_pos (by omega), Int.toNat_natCast]
theorem cutLo_nat' {α S : Type} (l : List α) (n : Nat) (K : List α → Option S) (h : n ≤ l.length) : cutLo l (n : Int) K = K (l.drop n) := by rw [cutLo, if_pos (by omega), Int.toNat_natCast]
theorem within_lt {S : Type} {i n : Nat} (h : i < n) (K : Option S) : within (i : Int) n K = K := by rw [within, if_pos (by omega)]
theorem appOk_lt {S : Type} {n : Nat} (h : n ≤ 4294967296) (K : Option S) : appOk n K = K := by
  unfold appOk; rw [if_pos (by omega)]
theorem minI_nat (a b : Nat) : minI (a : Int) (b : Int) = ((min a b : Nat) : Int) := by rw [minI_eq]; split <;> omega
theorem maxI_nat (a b : Nat) : maxI (a : Int) (b : Int) = ((max a b : Nat) : Int) := by rw [maxI_eq]; split <;> omega
theorem first_bad {α : Type} (p : α → Prop) [DecidablePred p] : ∀ l : List α, (∀ x ∈ l, p x) ∨ ∃ k, ∃ h : k < l.length, ¬ p l[k] ∧ ∀ i (hi : i < k), p (l[i]'(Nat.lt_trans hi h))
  | [] => .inl (by simp)
  | x :: l => by
    by_cases hx : p x
    · rcases first_bad p l with h | ⟨k, hk, h1, h2⟩
      · exact .inl (by simp only [List.mem_cons, forall_eq_or_imp]; exact ⟨hx, h⟩)
      · refine .inr ⟨k + 1, by simp; omega, by simpa using h1, fun i hi => ?_⟩
        cases i with
        | zero => simpa using hx
        | succ i => simpa using h2 i (by omega)
    · exact .inr ⟨0, by simp, by simpa using hx, fun i hi => by omega⟩
/-- Fuel is there. -/
theorem fuel_def (sh : Shape) (z : sh.den) : fuelOf sh z = 1000000 + (fuelL sh.slots z.1 + fuelR sh.recs z.2.1 + fuelT sh.lsts z.2.2) := rfl
end Go.Pe
end
section
namespace Go.Pe
open Go.RowKit
set_option linter.unusedSectionVars false
variable [GI]
theorem go_scan {sh : Shape} {α β : Type} {step : (sh.den → Option β) → sh.den → Option β} {l : List α} (y : Nat → sh.den) (p : α → Bool) (out : Nat → Option β) (fin : Option β)
    (h1 : ∀ i (h : i < l.length) rec, step rec (y i) = bif p l[i] then out i else rec (y (i + 1))) (h2 : ∀ rec, step rec (y l.length) = fin) (hm : l.length + 1 ≤ fuelOf sh (y 0)) :
    go step (y 0) = match l.findIdx? p with | some k => out k | none => fin := by
  cases hf : l.findIdx? p with
  | none =>
    rw [List.findIdx?_eq_none_iff] at hf
    refine go_seq (y := y) (n := l.length) (fun i hi rec => ?_) h2 hm
    rw [h1 i hi, hf _ (List.getElem_mem hi)]; rfl
  | some k =>
    rw [List.findIdx?_eq_some_iff_getElem] at hf
    obtain ⟨hk, hp, hlt⟩ := hf
    refine go_seq (y := y) (n := k) (fun i hi rec => ?_) (fun rec => ?_) (by omega)
    · rw [h1 i (by omega)]
      have := hlt i hi
      simp only [Bool.not_eq_true] at this
      rw [this]; rfl
    · rw [h1 k hk, hp]; rfl
end Go.Pe
end
section
set_option linter.unusedSectionVars false
set_option linter.unusedVariables false
set_option linter.unusedSimpArgs false
namespace Go.Pe
open Go.RowKit
/-- A loop that goes from state to state, and may end early. -/
theorem go_q {sh : Shape} {β : Type} {step : (sh.den → Option β) → sh.den → Option β} (n : Nat) (Y : Nat → sh.den) (Q : Option β → Prop)
    (hs : ∀ i, i < n → (∀ rec, step rec (Y i) = rec (Y (i + 1))) ∨ ∃ r, Q r ∧ ∀ rec, step rec (Y i) = r) (he : ∃ r, Q r ∧ ∀ rec, step rec (Y n) = r) (hm : n + 1 ≤ fuelOf sh (Y 0)) : Q (go step (Y 0)) := by
  have key : ∀ d i, i + d = n → ∀ m, d + 1 ≤ m → Q (iter step m (Y i)) := by
    intro d
    induction d with
    | zero =>
      intro i hi m hm
      obtain ⟨m, rfl⟩ : ∃ k, m = k + 1 := ⟨m - 1, by omega⟩
      have : i = n := by omega
      subst this
      obtain ⟨r, hQ, hr⟩ := he
      rw [iter, hr]; exact hQ
    | succ d ih =>
      intro i hi m hm
      obtain ⟨m, rfl⟩ : ∃ k, m = k + 1 := ⟨m - 1, by omega⟩
      rcases hs i (by omega) with h | ⟨r, hQ, hr⟩
      · rw [iter, h]; exact ih (i + 1) (by omega) m (by omega)
      · rw [iter, hr]; exact hQ
  exact key n 0 (by omega) _ hm
namespace Tryd
open Go.Proofs
set_option maxRecDepth 100000
mutual
def cnt : V → Nat | .mk _ _ _ items _ => 1 + cntL items
def cntL : List V → Nat | [] => 0 | v :: l => cnt v + cntL l
end
mutual
def dep : V → Nat | .mk _ _ _ items _ => 1 + depL items
def depL : List V → Nat | [] => 0 | v :: l => max (dep v) (depL l)
end
theorem cnt_pos (v : V) : 1 ≤ cnt v := by cases v; simp [cnt]
theorem dep_pos (v : V) : 1 ≤ dep v := by cases v; simp [dep]
theorem cntL_append : ∀ (a b : List V), cntL (a ++ b) = cntL a + cntL b
  | [], b => by simp [cntL]
  | v :: a, b => by simp [cntL, cntL_append a b]; omega
theorem depL_append : ∀ (a b : List V), depL (a ++ b) = max (depL a) (depL b)
  | [], b => by simp [depL]
  | v :: a, b => by simp [depL, depL_append a b, Nat.max_assoc]
theorem cntL_take {l : List V} {i : Nat} (h : i < l.length) : cntL (l.take (i + 1)) = cntL (l.take i) + cnt l[i] := by
  rw [List.take_succ_eq_append_getElem h, cntL_append]; simp [cntL]
theorem depL_take {l : List V} {i : Nat} (h : i < l.length) : depL (l.take (i + 1)) = max (depL (l.take i)) (dep l[i]) := by
  rw [List.take_succ_eq_append_getElem h, depL_append]; simp [depL]
theorem cntL_take_le (l : List V) (i : Nat) : cntL (l.take i) ≤ cntL l := by
  conv => rhs; rw [← List.take_append_drop i l, cntL_append]
  omega
theorem cntL_len : ∀ (l : List V), l.length ≤ cntL l
  | [] => by simp
  | v :: l => by have := cntL_len l; have := cnt_pos v; simp [cntL]; omega
theorem cnt_mem {v : V} : ∀ {l : List V}, v ∈ l → cnt v ≤ cntL l
  | u :: l, h => by
    rcases List.mem_cons.1 h with rfl | h
    · simp [cntL]
    · have := cnt_mem h; simp [cntL]; omega
theorem dep_mem {v : V} : ∀ {l : List V}, v ∈ l → dep v ≤ depL l
  | u :: l, h => by
    rcases List.mem_cons.1 h with rfl | h
    · simp only [depL]; omega
    · exact Nat.le_trans (dep_mem h) (Nat.le_max_right _ _)
theorem take_len (l : List V) {i : Nat} (h : i ≤ l.length) : i ≤ cntL (l.take i) := by
  have := cntL_len (l.take i)
  rw [List.length_take] at this; omega
mutual
theorem dep_le : ∀ v : V, dep v ≤ cnt v
  | .mk _ _ _ items _ => by have := depL_le items; simp [dep, cnt]; omega
theorem depL_le : ∀ l : List V, depL l ≤ cntL l
  | [] => by simp [depL]
  | v :: l => by have := dep_le v; have := depL_le l; simp [depL, cntL]; omega
end
@[reducible] def va (v : V) : Int × Int × List UInt8 × List V × List (List UInt8) × Unit := (v.kind, (v.n, (v.s, (v.items, (v.keys, ())))))
/-- Counted up to a bound. -/
theorem lim_step (n : Nat) (G : argsDen f16_ps → Option (argsDen f16_rs)) (hG : Sound Tryd.prog 16 (pfun G)) (items : List V) (m : Nat) (hm : m ≤ 3000)
    (ih : ∀ (m' : Nat) (v : V), m' < m → G (va v, ((m' : Int), ())) = some (((min (cnt v) (m' + 1) : Nat) : Int), ())) :
    ∃ o, go (f16_p0_st G hG) (f16_p0_y (m : Int) (1 : Int) items (items.length : Int) (0 : Int)) = some o ∧ ((match o with | .inl z4 => some ((f16_p0_o0_x5 z4), ()) | .inr o5 => some ((f16_p0_o1_x4 o5), ())) : Option (argsDen f16_rs)) = some (((min (1 + cntL items) (m + 1) : Nat) : Int), ()) := by
  let Y : Nat → f16_p0_sh.den := fun i => f16_p0_y m ((min (1 + cntL (items.take i)) (m + 1) : Nat) : Int) items items.length i
  have hY : ∀ i, Y i = f16_p0_y m ((min (1 + cntL (items.take i)) (m + 1) : Nat) : Int) items items.length i := fun _ => rfl
  have e : f16_p0_y (m : Int) (1 : Int) items (items.length : Int) (0 : Int) = Y 0 := by
    rw [hY]; simp only [List.take_zero, cntL, Nat.add_zero]
    congr 1
  rw [e]
  clear_value Y
  have bad : ∀ i, i < items.length → ¬ 1 + cntL (items.take i) ≤ m → ∃ r, (∃ o, r = some o ∧ ((match o with | .inl z4 => some ((f16_p0_o0_x5 z4), ()) | .inr o5 => some ((f16_p0_o1_x4 o5), ())) : Option (argsDen f16_rs)) = some (((min (1 + cntL items) (m + 1) : Nat) : Int), ())) ∧ ∀ rec, f16_p0_st G hG rec (Y i) = r := by
    intro i hil hc
    have hlt : decide ((i : Int) < (items.length : Int)) = true := by simp; omega
    refine ⟨some (.inr (f16_p0_o1_y ((m + 1 : Nat) : Int))), ⟨_, rfl, ?_⟩, fun rec => ?_⟩
    · simp only [f16_p0_o1_x4_y]
      have := cntL_take_le items i
      congr 3; omega
    · rw [hY, f16_p0_eq, hlt, cond_true, nth_lt hil, Option.bind_some]
      have hg : decide (((min (1 + cntL (items.take i)) (m + 1) : Nat) : Int) > (m : Int)) = true := by simp; omega
      rw [hg, cond_true]
      congr 4; omega
  refine go_q (step := f16_p0_st G hG) (min items.length m) Y (fun r => ∃ o, r = some o ∧ ((match o with | .inl z4 => some ((f16_p0_o0_x5 z4), ()) | .inr o5 => some ((f16_p0_o1_x4 o5), ())) : Option (argsDen f16_rs)) = some (((min (1 + cntL items) (m + 1) : Nat) : Int), ())) (fun i hi => ?_) ?_ (by rw [fuel_def]; omega)
  · have hil : i < items.length := by omega
    by_cases hc : 1 + cntL (items.take i) ≤ m
    · refine .inl fun rec => ?_
      have hlt : decide ((i : Int) < (items.length : Int)) = true := by simp; omega
      rw [hY, hY, f16_p0_eq, hlt, cond_true, nth_lt hil, Option.bind_some]
      have hg : decide (((min (1 + cntL (items.take i)) (m + 1) : Nat) : Int) > (m : Int)) = false := by simp; omega
      rw [hg, cond_false]
      have hw : IntKind.i64.wrap ((m : Int) - ((min (1 + cntL (items.take i)) (m + 1) : Nat) : Int)) = ((m - (1 + cntL (items.take i)) : Nat) : Int) := by
        rw [wrap64 (by omega) (by omega)]; omega
      have h3 := ih (m - (1 + cntL (items.take i))) items[i] (by omega)
      rw [hw, h3, Option.bind_some]
      dsimp only
      have hw2 : IntKind.i64.wrap (((min (1 + cntL (items.take i)) (m + 1) : Nat) : Int) + ((min (cnt items[i]) (m - (1 + cntL (items.take i)) + 1) : Nat) : Int)) = ((min (1 + cntL (items.take (i + 1))) (m + 1) : Nat) : Int) := by
        rw [wrap64 (by omega) (by omega), cntL_take hil]; omega
      have hw3 : IntKind.i64.wrap ((i : Int) + 1) = ((i + 1 : Nat) : Int) := by rw [wrap64 (by omega) (by omega)]; rfl
      rw [hw2, hw3]
    · exact .inr (bad i hil hc)
  · by_cases hl : items.length ≤ m
    · have hmn : min items.length m = items.length := Nat.min_eq_left hl
      rw [hmn]
      refine ⟨some (.inl (f16_p0_o0_y ((min (1 + cntL items) (m + 1) : Nat) : Int))), ⟨_, rfl, ?_⟩, fun rec => by rw [hY, f16_p0_eq]; simp only [Int.lt_irrefl, decide_false, cond_false, List.take_length]⟩
      simp only [f16_p0_o0_x5_y]
    · have hmn : min items.length m = m := Nat.min_eq_right (by omega)
      rw [hmn]
      have h2 := take_len items (i := m) (by omega)
      exact bad m (by omega) (by omega)
theorem f16_next (n : Nat) : (f16_S (n + 1)).1 = f16_b (f16_S n).1 (f16_S n).2 := by kernel_rfl
theorem va_mk (k a : Int) (s : List UInt8) (items : List V) (keys : List (List UInt8)) : va (.mk k a s items keys) = (k, (a, (s, (items, (keys, ()))))) := rfl
theorem lim_ok : ∀ (n m : Nat) (v : V), m ≤ 3000 → m < n → (f16_S n).1 (va v, ((m : Int), ())) = some (((min (cnt v) (m + 1) : Nat) : Int), ())
  | 0, m, v, _, h => by omega
  | n + 1, m, .mk k a s items keys, hm, hn => by
    rw [f16_next, va_mk, f16_eq]
    obtain ⟨o, h1, h2⟩ := lim_step n (f16_S n).1 (f16_S n).2 items m hm fun m' v h => lim_ok n m' v (by omega) (by omega)
    rw [h1, Option.bind_some]; simp only [cnt]; exact h2
theorem f16_ok' (m : Nat) (v : V) (hm : m ≤ 3000) : f16_F (va v, ((m : Int), ())) = some (((min (cnt v) (m + 1) : Nat) : Int), ()) := by
  unfold f16_F
  exact lim_ok recN m v hm (by rw [recN_eq]; omega)
end Tryd
end Go.Pe
end
section
set_option linter.unusedSectionVars false
set_option linter.unusedVariables false
set_option linter.unusedSimpArgs false
namespace Go.Pe.Tryd
open Go.Proofs
set_option maxRecDepth 100000
theorem nx {i : Nat} (h : i ≤ 1000000) : IntKind.i64.wrap ((i : Int) + 1) = ((i + 1 : Nat) : Int) := by rw [wrap64 (by omega) (by omega)]; rfl
theorem lt_t {i n : Nat} (h : i < n) : decide ((i : Int) < (n : Int)) = true := by simp; omega
theorem va_eta (v : V) : (v.kind, (v.n, (v.s, (v.items, (v.keys, ()))))) = va v := rfl
theorem item_le {items : List V} {i : Nat} (h : i < items.length) : cnt items[i] ≤ cntL items ∧ dep items[i] ≤ depL items := ⟨cnt_mem (List.getElem_mem h), dep_mem (List.getElem_mem h)⟩
theorem count_step (G : argsDen f15_ps → Option (argsDen f15_rs)) (hG : Sound Tryd.prog 15 (pfun G)) (items : List V) (hm : cntL items ≤ 100000)
    (ih : ∀ v ∈ items, G (va v, ()) = some ((cnt v : Int), ())) : go (f15_p0_st G hG) (f15_p0_y (1 : Int) items (items.length : Int) (0 : Int)) = some (f15_p0_o0_y ((1 + cntL items : Nat) : Int)) := by
  have hl := cntL_len items
  refine go_seq (step := f15_p0_st G hG) (y := fun i => f15_p0_y ((1 + cntL (items.take i) : Nat) : Int) items (items.length : Int) (i : Int)) (n := items.length) (fun i hi rec => ?_) (fun rec => ?_) (by rw [fuel_def]; omega)
  · have h1 := cntL_take_le items i
    have h2 := item_le hi
    rw [f15_p0_eq, lt_t hi, cond_true, nth_lt hi, Option.bind_some, va_eta, ih _ (List.getElem_mem hi), Option.bind_some]
    dsimp only
    rw [nx (by omega), wrap64 (by omega) (by omega), cntL_take hi]
    congr 2; omega
  · rw [f15_p0_eq]; simp only [Int.lt_irrefl, decide_false, cond_false, List.take_length]
theorem f15_next (n : Nat) : (f15_S (n + 1)).1 = f15_b (f15_S n).1 (f15_S n).2 := by kernel_rfl
theorem count_ok : ∀ (n : Nat) (v : V), dep v ≤ n → cnt v ≤ 90000 → (f15_S n).1 (va v, ()) = some ((cnt v : Int), ())
  | 0, v, h, _ => by have := dep_pos v; omega
  | n + 1, .mk k a s items keys, hd, hc => by
    simp only [dep, cnt] at hd hc
    rw [f15_next, va_mk, f15_eq, count_step _ _ items (by omega) fun v hv => count_ok n v (by have := dep_mem hv; omega) (by have := cnt_mem hv; omega), Option.bind_some, f15_p0_o0_x3_y]
    simp only [cnt]
theorem f15_ok' (v : V) (h : cnt v ≤ 3000) : f15_F (va v, ()) = some ((cnt v : Int), ()) := by
  unfold f15_F
  exact count_ok recN v (by have := dep_le v; rw [recN_eq]; omega) (by omega)
theorem f15_okB (v : V) (h : cnt v ≤ 90000) : f15_F (va v, ()) = some ((cnt v : Int), ()) := by
  unfold f15_F
  exact count_ok recN v (by have := dep_le v; rw [recN_eq]; omega) h
theorem depth_step (G : argsDen f17_ps → Option (argsDen f17_rs)) (hG : Sound Tryd.prog 17 (pfun G)) (items : List V) (hm : cntL items ≤ 100000)
    (ih : ∀ v ∈ items, G (va v, ()) = some ((dep v : Int), ())) : go (f17_p0_st G hG) (f17_p0_y (0 : Int) items (items.length : Int) (0 : Int)) = some (f17_p0_o0_y ((depL items : Nat) : Int)) := by
  have hl := cntL_len items
  refine go_seq (step := f17_p0_st G hG) (y := fun i => f17_p0_y ((depL (items.take i) : Nat) : Int) items (items.length : Int) (i : Int)) (n := items.length) (fun i hi rec => ?_) (fun rec => ?_) (by rw [fuel_def]; omega)
  · rw [f17_p0_eq, lt_t hi, cond_true, nth_lt hi, Option.bind_some, va_eta, ih _ (List.getElem_mem hi), Option.bind_some]
    dsimp only
    rw [nx (by omega), maxI_nat, depL_take hi]
  · rw [f17_p0_eq]; simp only [Int.lt_irrefl, decide_false, cond_false, List.take_length]
theorem f17_next (n : Nat) : (f17_S (n + 1)).1 = f17_b (f17_S n).1 (f17_S n).2 := by kernel_rfl
theorem depth_ok : ∀ (n : Nat) (v : V), dep v ≤ n → cnt v ≤ 90000 → (f17_S n).1 (va v, ()) = some ((dep v : Int), ())
  | 0, v, h, _ => by have := dep_pos v; omega
  | n + 1, .mk k a s items keys, hd, hc => by
    simp only [dep, cnt] at hd hc
    have := depL_le items
    rw [f17_next, va_mk, f17_eq, depth_step _ _ items (by omega) fun v hv => depth_ok n v (by have := dep_mem hv; omega) (by have := cnt_mem hv; omega), Option.bind_some, f17_p0_o0_x3_y, nx (by omega)]
    simp only [dep, Nat.add_comm]
theorem f17_ok' (v : V) (h : cnt v ≤ 3000) : f17_F (va v, ()) = some ((dep v : Int), ()) := by
  unfold f17_F
  exact depth_ok recN v (by have := dep_le v; rw [recN_eq]; omega) (by omega)
theorem f17_okB (v : V) (h : cnt v ≤ 90000) : f17_F (va v, ()) = some ((dep v : Int), ()) := by
  unfold f17_F
  exact depth_ok recN v (by have := dep_le v; rw [recN_eq]; omega) h
end Go.Pe.Tryd
end
section
set_option linter.unusedSectionVars false
set_option linter.unusedVariables false
set_option linter.unusedSimpArgs false
namespace Go.Pe.Tryd
open Go.Proofs Go.RowKit
set_option maxRecDepth 100000
def ctl (b : UInt8) : Bool := decide ((b.toNat : Int) < 32)
def tok (s : List UInt8) : Bool := decide (s.length ≤ 4000) && !s.any ctl
theorem findIdx_any {α : Type} (p : α → Bool) (l : List α) : (l.findIdx? p).isSome = l.any p := by
  rw [Bool.eq_iff_iff, List.any_eq_true]; simp
theorem nth_bytes {s : List UInt8} {i : Nat} (h : i < s.length) : nth (bytesOf s) (i : Int) = some ((s[i].toNat : Nat) : Int) := by
  rw [nth_nat]; simp [bytesOf, h]
theorem h74_is (s : List UInt8) (h : s.length ≤ 4000) : h74_F (h74_y (bytesOf s)) = some (h74_o_y (s.any ctl)) := by
  rw [h74_eq, h99_eq]
  have hb : ((bytesOf s).length : Int) = (s.length : Int) := by simp [bytesOf]
  rw [hb]
  have e := go_scan (step := h99_p0_st) (l := s) (fun i => h99_p0_y (bytesOf s) (s.length : Int) (i : Int)) ctl (fun i => some (.inr (h99_p0_o1_y (i : Int)))) (some (.inl h99_p0_o0_y)) (fun i hi rec => by
    rw [h99_p0_eq, lt_t hi, cond_true, nth_bytes hi, Option.bind_some, f75_eq, Option.bind_some]
    dsimp only
    rw [nx (by omega)]; rfl) (fun rec => by rw [h99_p0_eq]; simp only [Int.lt_irrefl, decide_false, cond_false]) (by rw [fuel_def]; omega)
  have e' : go h99_p0_st (h99_p0_y (bytesOf s) (s.length : Int) (0 : Int)) = _ := e
  rw [e', ← findIdx_any]
  cases s.findIdx? ctl with
  | none => rfl
  | some k =>
    simp only [Option.bind_some, h99_p0_o1_x4_y, h99_o_x0_y, Option.isSome_some]
    have : decide ((k : Int) ≥ 0) = true := by simp
    rw [this]
theorem f57_ok' (s : List UInt8) : f57_F (s, ()) = some (tok s, ()) := by
  rw [f57_eq]
  by_cases h : s.length ≤ 4000
  · have : decide ((s.length : Int) ≤ 4000) = true := by simp; omega
    rw [this, cond_true, h74_is s h, Option.bind_some, h74_o_x0_y]
    simp [tok, h]
  · have : decide ((s.length : Int) ≤ 4000) = false := by simp; omega
    rw [this, cond_false]; simp [tok, h]
def kbad (ks : List (List UInt8)) (i : Nat) : Bool := !tok (ks.getD i []) || (decide (0 < i) && !Op.bytesLess (ks.getD (i - 1) []) (ks.getD i []))
def kok (ks : List (List UInt8)) : Bool := !(List.range ks.length).any (kbad ks)
theorem getD_lt {α : Type} {l : List α} {i : Nat} {d : α} (h : i < l.length) : l.getD i d = l[i] := by simp [List.getD_eq_getElem?_getD, h]
theorem pred_nat {i : Nat} (h : 0 < i) (h2 : i ≤ 1000000) : IntKind.i64.wrap ((i : Int) - 1) = ((i - 1 : Nat) : Int) := by rw [wrap64 (by omega) (by omega)]; omega
theorem f58_ok' (ks : List (List UInt8)) (h : ks.length ≤ 4000) : f58_F (ks, ()) = some (kok ks, ()) := by
  rw [f58_eq]
  have hr : (List.range ks.length).length = ks.length := by simp
  have e := go_scan (step := f58_p1_st) (l := List.range ks.length) (fun i => f58_p1_y ks ks (ks.length : Int) (i : Int)) (kbad ks) (fun i => some (.inr (f58_p1_o1_y false))) (some (.inl f58_p1_o0_y)) (fun i hi rec => by
    have hi' : i < ks.length := by simpa using hi
    rw [f58_p1_eq, lt_t hi', cond_true, nth_lt hi', Option.bind_some, f58_p0_eq, f57_ok', Option.bind_some, List.getElem_range]
    dsimp only
    unfold kbad
    rw [getD_lt hi']
    cases ht : tok ks[i] with
    | false => simp only [Bool.not_false, cond_true, Option.bind_some, f58_p0_o0_x27_y, Bool.true_or]
    | true =>
      simp only [Bool.not_true, cond_false, Bool.false_or]
      by_cases h0 : 0 < i
      · have e1 : decide ((i : Int) > 0) = true := by simp; omega
        have h1 : i - 1 < ks.length := by omega
        rw [e1, cond_true, pred_nat h0 (by omega), nth_lt h1, Option.bind_some, Option.bind_some, f58_p0_o0_x27_y, f58_p0_o0_x0_y, f58_p0_o0_x5_y, f58_p0_o0_x6_y, f58_p0_o0_x7_y, nx (by omega), getD_lt h1]
        simp [h0]
      · have e1 : decide ((i : Int) > 0) = false := by simp; omega
        rw [e1, cond_false, Option.bind_some, f58_p0_o0_x27_y, f58_p0_o0_x0_y, f58_p0_o0_x5_y, f58_p0_o0_x6_y, f58_p0_o0_x7_y, nx (by omega)]
        simp [h0]) (fun rec => by rw [hr, f58_p1_eq]; simp only [Int.lt_irrefl, decide_false, cond_false]) (by rw [fuel_def]; omega)
  have e' : go f58_p1_st (f58_p1_y ks ks (ks.length : Int) (0 : Int)) = _ := e
  rw [e']
  unfold kok
  rw [← findIdx_any]
  cases (List.range ks.length).findIdx? (kbad ks) with
  | none => rfl
  | some k => simp only [Option.bind_some, f58_p1_o1_x2_y]; rfl
end Go.Pe.Tryd
end
section
set_option linter.unusedSectionVars false
set_option linter.unusedVariables false
set_option linter.unusedSimpArgs false
namespace Go.Pe.Tryd
open Go.Proofs Go.RowKit
set_option maxRecDepth 100000
def noIt (items : List V) (keys : List (List UInt8)) : Bool := bif ((items.length : Int) == 0) then ((keys.length : Int) == 0) else false
def mayP (k n : Int) (s : List UInt8) (items : List V) (keys : List (List UInt8)) : Bool :=
  bif k == 1 then (noIt items keys && (s == [] && (decide (n ≥ -1099511627776) && decide (n ≤ 1099511627776))))
  else bif k == 2 then (noIt items keys && (n == 0 && tok s))
  else bif k == 3 then (n == 0 && (s == [] && (keys.length : Int) == 0))
  else (k == 4 && (n == 0 && (s == [] && ((keys.length : Int) == (items.length : Int) && kok keys))))
def may (v : V) : Bool := mayP v.kind v.n v.s v.items v.keys
theorem f37_ok' (v : V) (h : v.items.length ≤ 4000) : f37_F (va v, ()) = some (may v, ()) := by
  obtain ⟨k, n, s, items, keys⟩ := v
  rw [va_mk, f37_eq, f37_p1_eq]
  have hx : (bif ((items.length : Int) == (0 : Int)) then (some ((f37_p1_o0_y ((keys.length : Int) == (0 : Int)) k n s items keys))) else (some ((f37_p1_o0_y false k n s items keys)))) = some (f37_p1_o0_y (noIt items keys) k n s items keys) := by
    unfold noIt
    cases ((items.length : Int) == (0 : Int)) <;> rfl
  rw [hx, Option.bind_some, f37_p1_o0_r0_0_y, f37_p1_o0_r0_1_y, f37_p1_o0_r0_2_y, f37_p1_o0_r0_3_y, f37_p1_o0_r0_4_y, f37_p1_o0_x3_y]
  show _ = some (mayP k n s items keys, ())
  unfold mayP
  generalize noIt items keys = e
  cases k == 1 with
  | true =>
    rw [cond_true, cond_true]
    cases e <;> cases s == [] <;> cases decide (n ≥ -1099511627776) <;> rfl
  | false =>
    rw [cond_false, cond_false]
    cases k == 2 with
    | true =>
      rw [cond_true, cond_true, f57_ok']
      cases e <;> cases n == 0 <;> rfl
    | false =>
      rw [cond_false, cond_false]
      cases k == 3 with
      | true =>
        rw [cond_true, cond_true]
        cases n == 0 <;> cases s == [] <;> rfl
      | false =>
        rw [cond_false, cond_false, f37_p0_eq]
        cases k == 4 with
        | false => rfl
        | true =>
          rw [cond_true]
          cases n == 0 with
          | false => simp only [cond_false, Option.bind_some, f37_p0_o0_x2_y, Bool.false_and, Bool.and_false]
          | true =>
            cases s == [] with
            | false => simp only [cond_true, cond_false, Option.bind_some, f37_p0_o0_x2_y, Bool.false_and, Bool.and_false]
            | true =>
              cases hk : ((keys.length : Int) == (items.length : Int)) with
              | false => simp only [cond_true, cond_false, Option.bind_some, f37_p0_o0_x2_y, Bool.false_and, Bool.and_false]
              | true =>
                have : keys.length = items.length := by have := beq_iff_eq.1 hk; omega
                rw [cond_true, cond_true, cond_true, f58_ok' keys (by simp only [V.items] at h; omega)]
                simp only [Option.bind_some, f37_p0_o0_x2_y, Bool.true_and]
end Go.Pe.Tryd
end
section
namespace Go.Pe
open Go.RowKit Go.ChangeShapes
/-- All of a world. -/
def All (w : World) (b : Nat) : Prop := b < w.heap.size
theorem cell_lt {w : World} {a : Addr} {v : Value} (h : w.cell? a = some v) : a.block < w.heap.size ∧ a.spot = none := by
  unfold World.cell? at h
  split at h
  · rename_i c el t hb
    refine ⟨(Array.getElem?_eq_some_iff.1 hb).1, ?_⟩
    split at h
    · cases h
    · rename_i hs; simpa using hs
  · cases h
theorem add_spot {a : Addr} (h : a.spot = none) (n : Nat) : a.add n = ⟨a.block, a.off + n, none⟩ := by
  unfold Addr.add
  split
  · rename_i e; subst e; cases a; simp_all
  · rfl
theorem decTys_enc : ∀ (ts : List Ty) (x : tysDen ts), decTys ts (encTys ts x) = some x
  | [], _ => rfl
  | t :: ts, x => by simp only [encTys, decTys, asTy, dite_true, Option.bind_some, decTys_enc ts x.2]
theorem KD.dec_enc : ∀ (k : KD) (x : k.den), k.dec (k.enc x) = some x
  | .one t, x => by simp only [KD.enc, KD.dec, asTy, dite_true]
  | .agg ts, x => by simp only [KD.enc, KD.dec, decTys_enc]
theorem decArgs_enc : ∀ (ks : List KD) (x : argsDen ks), decArgs ks (encArgs ks x) = some x
  | [], _ => rfl
  | k :: ks, x => by simp only [encArgs, decArgs, KD.dec_enc, Option.bind_some, decArgs_enc ks x.2]
/-- A law that is true of what it is told. -/
theorem law_walk [GI] {P : Program} {f : Nat} {ps : List KD} {F : argsDen ps → Option (argsDen [.one .bool])} (h : Sound P f (pfun F)) (y : argsDen ps) (hF : F y = some (true, ())) {w : World} {vs : List Value} (hgi : GI.inv w)
    (hrep : RepAVs (c0 (All w) w) (encArgs ps y) vs) : Calls P f vs.toArray w fun e w' => e = .returned (.bool true) ∧ Below w.heap.size w w' := by
  obtain ⟨av, hK, _, hc⟩ := h.2 AV (encArgs ps y) some (.d .bool true) (by simp only [pfun, decArgs_enc, Option.bind_some, hF]; rfl) (All w) w vs (fun b hb => hb) hgi (encArgs_closed ps y) hrep
  cases hK
  refine hc.mono fun e w' ⟨v, he, hb, hr⟩ => ?_
  simp only [RepAV, Rep, List.cons.injEq, and_true] at hr
  subst hr
  exact ⟨he, hb⟩
end Go.Pe
end
section
namespace Go.Pe
open Go.RowKit Go.ChangeShapes Go.WideShapes
set_option linter.unusedSectionVars false
variable [GI]

/-- A value within sizes. -/
inductive WfV (N : Nat) : V → Prop
  | mk (kind n : Int) (s : List UInt8) (items : List V) (keys : List (List UInt8)) (hk : (Lit.int .i64 kind).wf = true) (hn : (Lit.int .i64 n).wf = true) (hs : s.length ≤ N) (hi : items.length ≤ N) (hks : keys.length ≤ N)
      (hit : ∀ i (h : i < items.length), WfV N items[i]) (hkl : ∀ k ∈ keys, k.length ≤ N) : WfV N (.mk kind n s items keys)
/-- Data within sizes. -/
def Wf (N : Nat) : (t : Ty) → t.den → Prop
  | .bool, _ => True
  | .int k, n => (Lit.int k n).wf = true
  | .str, s => s.length ≤ N
  | .list e, xs => xs.length ≤ N ∧ ∀ x ∈ xs, Wf N e x
  | .unit, _ => True
  | .prod a b, x => Wf N a x.1 ∧ Wf N b x.2
  | .value, x => WfV N x

def layTys (P : Program) (f : Nat → Option Ty) (total : Nat) : Nat → List (Nat × Nat) → Option Ty
  | off, [] => if off = total then some .unit else none
  | off, [(t, o)] => if o = off ∧ off + P.cellsOf t = total then (f t).bind fun a => if a.size = P.cellsOf t then some a else none else none
  | off, (t, o) :: r => if o = off then (f t).bind fun a => if a.size = P.cellsOf t then (layTys P f total (off + P.cellsOf t) r).bind fun b => some (.prod a b) else none else none
def isInt64 (P : Program) (t : Nat) : Bool := match P.underlying t with | some (.int .i64) => true | _ => false
def isString (P : Program) (t : Nat) : Bool := match P.underlying t with | some .string => true | _ => false
def sliceEl (P : Program) (t : Nat) : Option Nat := match P.underlying t with | some (.slice e) => some e | _ => none
def vtOk (P : Program) (vt : Nat) : Bool :=
  match P.underlying vt with
  | some (.struct fs) => (match fs.toList.map fun f => (f.type, f.offset) with
    | [(t1, 0), (t2, 1), (t3, 2), (t4, 3), (t5, 4)] => isInt64 P t1 && isInt64 P t2 && isString P t3 && (match sliceEl P t4 with | some e => Nat.beq e vt | none => false) && (match sliceEl P t5 with | some e => isString P e && Nat.beq (P.cellsOf e) 1 && Nat.ble 1 (P.bytesOf e) | none => false) &&
      Nat.beq (P.cellsOf t1) 1 && Nat.beq (P.cellsOf t2) 1 && Nat.beq (P.cellsOf t3) 1 && Nat.beq (P.cellsOf t4) 1 && Nat.beq (P.cellsOf t5) 1 && Nat.beq (P.cellsOf vt) 5 && Nat.ble 1 (P.bytesOf vt)
    | _ => false)
  | _ => false
/-- A type's kind, if its cells lie one behind the other. -/
def lay (P : Program) (vt : Nat) : Nat → Nat → Option Ty
  | 0, _ => none
  | n + 1, t => if t = vt then (if vtOk P vt = true then some .value else none) else match P.underlying t with
    | some .bool => some .bool
    | some (.int k) => some (.int k)
    | some .string => some .str
    | some (.slice e) => if 1 ≤ P.bytesOf e ∧ 1 ≤ P.cellsOf e then (lay P vt n e).bind fun ty => if ty.size = P.cellsOf e then some (.list ty) else none else none
    | some (.struct fs) => layTys P (lay P vt n) (P.cellsOf t) 0 (fs.toList.map fun f => (f.type, f.offset))
    | _ => none

section
variable {H : Type} {enc : TypeId × Value → H} {P : Program} {w : World} {base : Nat} {spare : Nat → Bool} {held : Bool} {N vt : Nat}

theorem rows_of {α : Type} {R : α → List Value → Prop} {W : α → Prop} {sz blk : Nat} : ∀ (len off : Nat), (∀ i, i < len → ∃ x c, R x c ∧ W x ∧ c.length = sz ∧ ∀ j, j < sz → w.cell? ⟨blk, off + i * sz + j, none⟩ = c[j]?) →
    ∃ (xs : List α) (us : List Value), xs.length = len ∧ (∀ x ∈ xs, W x) ∧ us.length = len * sz ∧ CellsAt w ⟨blk, off, none⟩ us ∧ RepAll R xs us
  | 0, off, _ => ⟨[], [], rfl, by simp, by simp, fun j hj => by simp at hj, rfl⟩
  | len + 1, off, h => by
    obtain ⟨x, c, h1, h2, h3, h4⟩ := h 0 (by omega)
    obtain ⟨xs, us, g1, g2, g3, g4, g5⟩ := rows_of len (off + sz) fun i hi => by
      obtain ⟨x, c, h1, h2, h3, h4⟩ := h (i + 1) (by omega)
      refine ⟨x, c, h1, h2, h3, fun j hj => ?_⟩
      rw [← h4 j hj, show off + sz + i * sz + j = off + (i + 1) * sz + j by rw [Nat.succ_mul]; omega]
    refine ⟨x :: xs, c ++ us, by simp [g1], by simpa using ⟨h2, g2⟩, by simp [g3, h3, Nat.succ_mul]; omega, fun j hj => ?_, c, us, rfl, h1, g5⟩
    simp only [List.length_append] at hj
    rcases Nat.lt_or_ge j sz with hl | hl
    · rw [List.getElem?_append_left (by omega), ← h4 j hl]; simp
    · rw [List.getElem?_append_right (by omega)]
      have := g4 (j - c.length) (by omega)
      simp only at this
      rw [← this, show off + sz + (j - c.length) = off + j by omega]

theorem slice_rep {ty : Ty} {e t fuel : Nat} {cs : List Value} {d : DataW H} {ps : List MemPlace} (ht : P.underlying t = some (.slice e)) (hb : 1 ≤ P.bytesOf e) (hc : 1 ≤ P.cellsOf e) (hsz : ty.size = P.cellsOf e)
    (ih : ∀ m, m < fuel → ∀ (cs : List Value) (d : DataW H) (ps : List MemPlace), DataW.trod enc P w base spare held m e cs = some (d, ps) → (∀ m ∈ d.weights P e, m ≤ N) → ∃ x, Rep (All w) w ty x cs ∧ Wf N ty x)
    (h : DataW.trod enc P w base spare held fuel t cs = some (d, ps)) (hw : ∀ m ∈ d.weights P t, m ≤ N) : ∃ x, Rep (All w) w (.list ty) x cs ∧ Wf N (.list ty) x := by
  rcases DataW.trod_slice ht h with ⟨rfl, hx⟩ | ⟨a, len, cap, elems, rest, n, hf, rfl, hx, _, hlc, _, hel, hat, _, _⟩
  · exact ⟨[], ⟨_, rfl, none, 0, rfl, Nat.le_refl _, .inl rfl⟩, by simp [Wf]⟩
  · have hd : d = .slice (elems.map (·.1)) (rest.map (·.1)) := congrArg Prod.fst hx
    subst hd
    simp only [DataW.weights, ht, List.mem_cons, List.mem_append] at hw
    have hlen : len ≤ N := by
      have := hw _ (.inl rfl)
      have h2 : len * 1 ≤ (elems.length + rest.length) * P.bytesOf e := Nat.mul_le_mul (by omega) hb
      simp only [List.length_map] at this
      omega
    have key : ∀ i, i < len → ∃ x c, Rep (All w) w ty x c ∧ Wf N ty x ∧ c.length = P.cellsOf e ∧ ∀ j, j < P.cellsOf e → w.cell? ((a.add (i * P.cellsOf e)).add j) = c[j]? := by
      intro i hi
      have h1 := hat i hi
      rw [List.getElem?_eq_getElem (by omega), Option.bind_eq_some_iff] at h1
      obtain ⟨c, hc1, hc2⟩ := h1
      obtain ⟨_, hc3, hc4⟩ := World.cells?_some hc1
      obtain ⟨x, hx1, hx2⟩ := ih n (by omega) c (elems[i]).1 (elems[i]).2 hc2 fun m hm => hw m (.inr (.inl (by
        have : ∀ (l : List (DataW H)) (d : DataW H), d ∈ l → m ∈ d.weights P e → m ∈ DataW.weightsAll P e l := by
          intro l; induction l with
          | nil => intro d hd; simp at hd
          | cons y l ih => intro d hd hm; simp only [DataW.weightsAll, List.mem_append]; exact (List.mem_cons.1 hd).elim (fun e => .inl (e ▸ hm)) (fun hd => .inr (ih d hd hm))
        exact this _ _ (List.mem_map_of_mem (List.getElem_mem (l := elems) (by omega))) hm)))
      exact ⟨x, c, hx1, hx2, hc3, hc4⟩
    rcases Nat.eq_zero_or_pos len with h0 | h0
    · subst h0
      exact ⟨[], ⟨_, rfl, some a, cap, rfl, by simp, .inl rfl⟩, by simp [Wf]⟩
    · obtain ⟨x, c, _, _, hcl, hcc⟩ := key 0 h0
      have h00 := hcc 0 (by omega)
      rw [List.getElem?_eq_getElem (by omega)] at h00
      have ha : a.block < w.heap.size ∧ a.spot = none := by
        have h1 : (a.add (0 * P.cellsOf e)).add 0 = a := by simp [Addr.add]
        rw [h1] at h00
        exact cell_lt h00
      obtain ⟨xs, us, g1, g2, g3, g4, g5⟩ := rows_of (w := w) (R := Rep (All w) w ty) (W := Wf N ty) (sz := P.cellsOf e) (blk := a.block) len a.off fun i hi => by
        obtain ⟨x, c, h1, h2, h3, h4⟩ := key i hi
        refine ⟨x, c, h1, h2, h3, fun j hj => ?_⟩
        rw [← h4 j hj, add_spot ha.2, add_spot rfl]
      refine ⟨xs, ⟨_, rfl, some a, cap, by rw [g1], by omega, .inr ⟨a, us, rfl, ha.2, ha.1, ?_, g5⟩⟩, ?_⟩
      · intro j hj
        exact g4 j hj
      · simp only [Wf]; exact ⟨by omega, g2⟩

theorem mem_each : ∀ {ts : List TypeId} {ds : List (DataW H)} {t d} {m : Nat}, m ∈ DataW.weights P t d → m ∈ DataW.weightsEach P (t :: ts) (d :: ds) := by
  intro ts ds t d m h
  simp only [DataW.weightsEach, List.mem_append]; exact .inl h
theorem mem_each' : ∀ {ts : List TypeId} {ds : List (DataW H)} {t d} {m : Nat}, m ∈ DataW.weightsEach P ts ds → m ∈ DataW.weightsEach P (t :: ts) (d :: ds) := by
  intro ts ds t d m h
  simp only [DataW.weightsEach, List.mem_append]; exact .inr h

theorem fields_rep {f : Nat → Option Ty} {fuel total : Nat} {cs : List Value} (hlen : cs.length = total)
    (ih : ∀ t ty (cs : List Value) (d : DataW H) (ps : List MemPlace), f t = some ty → DataW.trod enc P w base spare held fuel t cs = some (d, ps) → (∀ m ∈ d.weights P t, m ≤ N) → ∃ x, Rep (All w) w ty x cs ∧ Wf N ty x) :
    ∀ (fs : List Field) (off : Nat) (ty : Ty) (xs : List (DataW H × List MemPlace)), layTys P f total off (fs.map fun f => (f.type, f.offset)) = some ty →
      (fs.mapM fun f => DataW.trod enc P w base spare held fuel f.type ((cs.drop f.offset).take (P.cellsOf f.type))) = some xs →
      (∀ m ∈ DataW.weightsEach P (fs.map (·.type)) (xs.map (·.1)), m ≤ N) → ∃ x, Rep (All w) w ty x (cs.drop off) ∧ Wf N ty x
  | [], off, ty, xs, hl, hm, hw => by
    simp only [List.map_nil, layTys] at hl
    split at hl
    · rename_i ho; cases hl
      exact ⟨(), by simp only [Rep]; exact List.drop_of_length_le (by omega), trivial⟩
    · cases hl
  | [fd], off, ty, xs, hl, hm, hw => by
    simp only [List.map_cons, List.map_nil, layTys] at hl
    split at hl
    · rename_i ho
      simp only [Option.bind_eq_some_iff] at hl
      obtain ⟨a, ha, hl⟩ := hl
      split at hl
      · rename_i hs; cases hl
        simp only [List.mapM_cons, List.mapM_nil, Option.pure_def, Option.bind_eq_bind, Option.bind_eq_some_iff, Option.some.injEq] at hm
        obtain ⟨y, hy, ys, rfl, rfl⟩ := hm
        obtain ⟨x, h1, h2⟩ := ih fd.type _ _ y.1 y.2 ha hy fun m hm => hw m (by simpa [DataW.weightsEach] using hm)
        refine ⟨x, ?_, h2⟩
        rw [ho.1] at h1
        rwa [List.take_of_length_le (by rw [List.length_drop]; omega)] at h1
      · cases hl
    · cases hl
  | fd :: fd2 :: fs, off, ty, xs, hl, hm, hw => by
    simp only [List.map_cons, layTys] at hl
    split at hl
    · rename_i ho
      simp only [Option.bind_eq_some_iff] at hl
      obtain ⟨a, ha, hl⟩ := hl
      split at hl
      · rename_i hs
        simp only [Option.bind_eq_some_iff, Option.some.injEq] at hl
        obtain ⟨b, hb, rfl⟩ := hl
        rw [List.mapM_cons] at hm
        simp only [Option.pure_def, Option.bind_eq_bind, Option.bind_eq_some_iff, Option.some.injEq] at hm
        obtain ⟨y, hy, ys, hys, rfl⟩ := hm
        obtain ⟨x, h1, h2⟩ := ih fd.type _ _ y.1 y.2 ha hy fun m hm => hw m (by simp only [List.map_cons]; exact mem_each hm)
        obtain ⟨x', h3, h4⟩ := fields_rep hlen ih (fd2 :: fs) (off + P.cellsOf fd.type) b ys (by simpa only [List.map_cons] using hb) hys fun m hm => hw m (by simp only [List.map_cons] at hm ⊢; exact mem_each' hm)
        refine ⟨(x, x'), ⟨_, _, ?_, h1, h3⟩, h2, h4⟩
        rw [ho, ← List.drop_drop, List.take_append_drop]
      · cases hl
    · cases hl

theorem trod_bool {t fuel : Nat} {cs : List Value} {d : DataW H} {ps} (ht : P.underlying t = some .bool) (h : DataW.trod enc P w base spare held fuel t cs = some (d, ps)) : ∃ b, cs = [.bool b] := by
  cases fuel with
  | zero => simp [DataW.trod] at h
  | succ n => unfold DataW.trod at h; rw [ht] at h; split at h <;> simp_all
theorem trod_int {t fuel : Nat} {cs : List Value} {d : DataW H} {ps} {k} (ht : P.underlying t = some (.int k)) (h : DataW.trod enc P w base spare held fuel t cs = some (d, ps)) : ∃ n, cs = [.int k n] ∧ (Lit.int k n).wf = true := by
  cases fuel with
  | zero => simp [DataW.trod] at h
  | succ n => unfold DataW.trod at h; rw [ht] at h; split at h <;> simp_all
theorem trod_str {t fuel : Nat} {cs : List Value} {d : DataW H} {ps} (ht : P.underlying t = some .string) (h : DataW.trod enc P w base spare held fuel t cs = some (d, ps)) : ∃ s : ByteArray, cs = [.string s] ∧ d = .lit (.string s.data.toList) := by
  cases fuel with
  | zero => simp [DataW.trod] at h
  | succ n => unfold DataW.trod at h; rw [ht] at h; split at h <;> simp_all
theorem trod_struct {t fuel : Nat} {cs : List Value} {d : DataW H} {ps} {fs : Array Field} (ht : P.underlying t = some (.struct fs)) (h : DataW.trod enc P w base spare held fuel t cs = some (d, ps)) :
    ∃ n xs, fuel = n + 1 ∧ cs.length = P.cellsOf t ∧ (fs.toList.mapM fun f => DataW.trod enc P w base spare held n f.type ((cs.drop f.offset).take (P.cellsOf f.type))) = some xs ∧ d = .agg (xs.map (·.1)) := by
  cases fuel with
  | zero => simp [DataW.trod] at h
  | succ n =>
    unfold DataW.trod at h
    rw [ht] at h
    simp only at h
    split at h
    · rename_i hc
      simp only [Option.map_eq_some_iff] at h
      obtain ⟨xs, hx, he⟩ := h
      exact ⟨n, xs, rfl, hc, hx, (congrArg Prod.fst he).symm⟩
    · cases h

theorem str_rep {t fuel : Nat} {cs : List Value} {d : DataW H} {ps} (ht : P.underlying t = some .string) (h : DataW.trod enc P w base spare held fuel t cs = some (d, ps)) (hw : ∀ m ∈ d.weights P t, m ≤ N) : ∃ x, Rep (All w) w .str x cs ∧ Wf N .str x := by
  obtain ⟨s, rfl, rfl⟩ := trod_str ht h
  exact ⟨s.data.toList, by simp [Rep], hw _ (by simp [DataW.weights])⟩

theorem beq_imp {a b : Nat} (h : Nat.beq a b = true) : a = b := Nat.eq_of_beq_eq_true h
theorem value_rep (hv : vtOk P vt = true) : ∀ (fuel : Nat) (cs : List Value) (d : DataW H) (ps : List MemPlace), DataW.trod enc P w base spare held fuel vt cs = some (d, ps) → (∀ m ∈ d.weights P vt, m ≤ N) →
    ∃ x, Rep (All w) w .value x cs ∧ Wf N .value x := by
  intro fuel
  induction fuel using Nat.strongRecOn with
  | _ fuel IH =>
  intro cs d ps h hw
  unfold vtOk at hv
  split at hv
  · rename_i fs hfs
    split at hv
    · rename_i t1 t2 t3 t4 t5 hl
      simp only [Bool.and_eq_true] at hv
      obtain ⟨⟨⟨⟨⟨⟨⟨⟨⟨⟨⟨v1, v2⟩, v3⟩, v4⟩, v5⟩, c1⟩, c2⟩, c3⟩, c4⟩, c5⟩, c6⟩, c7⟩ := hv
      have c1 := beq_imp c1; have c2 := beq_imp c2; have c3 := beq_imp c3; have c4 := beq_imp c4; have c5 := beq_imp c5; have c6 := beq_imp c6
      have c7 := Nat.le_of_ble_eq_true c7
      have u1 : P.underlying t1 = some (.int .i64) := by unfold isInt64 at v1; split at v1; assumption; cases v1
      have u2 : P.underlying t2 = some (.int .i64) := by unfold isInt64 at v2; split at v2; assumption; cases v2
      have u3 : P.underlying t3 = some .string := by unfold isString at v3; split at v3; assumption; cases v3
      have u4 : P.underlying t4 = some (.slice vt) := by
        unfold sliceEl at v4
        split at v4
        · rename_i e he
          split at he
          · rename_i e' hu; cases he; rw [hu, beq_imp v4]
          · cases he
        · cases v4
      obtain ⟨ts, u5, u6, c8, c9⟩ : ∃ ts, P.underlying t5 = some (.slice ts) ∧ P.underlying ts = some .string ∧ P.cellsOf ts = 1 ∧ 1 ≤ P.bytesOf ts := by
        unfold sliceEl at v5
        split at v5
        · rename_i e he
          split at he
          · rename_i e' hu; cases he
            simp only [Bool.and_eq_true] at v5
            refine ⟨e, hu, ?_, beq_imp v5.1.2, Nat.le_of_ble_eq_true v5.2⟩
            have v6 := v5.1.1
            unfold isString at v6; split at v6
            · assumption
            · cases v6
          · cases he
        · cases v5
      obtain ⟨n, xs, rfl, hlen, hm, rfl⟩ := trod_struct hfs h
      rcases fs with ⟨fl⟩
      have hl' : fl.map (fun f => (f.type, f.offset)) = [(t1, 0), (t2, 1), (t3, 2), (t4, 3), (t5, 4)] := hl
      rcases fl with _ | ⟨f1, _ | ⟨f2, _ | ⟨f3, _ | ⟨f4, _ | ⟨f5, _ | ⟨f6, fl⟩⟩⟩⟩⟩⟩ <;> simp only [List.map_cons, List.map_nil, List.cons.injEq, Prod.mk.injEq, reduceCtorEq, and_false, List.nil_eq, and_true] at hl'
      obtain ⟨⟨e1, o1⟩, ⟨e2, o2⟩, ⟨e3, o3⟩, ⟨e4, o4⟩, e5, o5⟩ := hl'
      simp only [List.mapM_cons, List.mapM_nil, Option.pure_def, Option.bind_eq_bind, Option.bind_eq_some_iff, Option.some.injEq, e1, e2, e3, e4, e5, o1, o2, o3, o4, o5, c1, c2, c3, c4, c5] at hm
      obtain ⟨y1, h1, z1, ⟨y2, h2, z2, ⟨y3, h3, z3, ⟨y4, h4, z4, ⟨y5, h5, z5, rfl, rfl⟩, rfl⟩, rfl⟩, rfl⟩, rfl⟩ := hm
      have hw' : ∀ m ∈ DataW.weightsEach P [t1, t2, t3, t4, t5] [y1.1, y2.1, y3.1, y4.1, y5.1], m ≤ N := by
        intro m hm
        apply hw
        simp only [DataW.weights, hfs]
        simpa [e1, e2, e3, e4, e5] using hm
      rw [c6] at hlen
      rcases cs with _ | ⟨a1, _ | ⟨a2, _ | ⟨a3, _ | ⟨a4, _ | ⟨a5, _ | ⟨a6, cs⟩⟩⟩⟩⟩⟩ <;> simp only [List.length_cons, List.length_nil] at hlen <;> try omega
      simp only [List.drop_succ_cons, List.drop_zero, List.take_succ_cons, List.take_zero] at h1 h2 h3 h4 h5
      obtain ⟨n1, q1, w1⟩ := trod_int u1 h1
      obtain ⟨n2, q2, w2⟩ := trod_int u2 h2
      obtain ⟨x3, r3, w3⟩ := str_rep (N := N) u3 h3 fun m hm => hw' m (by simp only [DataW.weightsEach, List.mem_append]; exact .inr (.inr (.inl hm)))
      obtain ⟨x4, r4, w4⟩ := slice_rep (N := N) (ty := .value) u4 c7 (by omega) (by rw [c6]; rfl) (fun m hm cs d ps h hw => IH m (by omega) cs d ps h hw) h4 fun m hm => hw' m (by simp only [DataW.weightsEach, List.mem_append]; exact .inr (.inr (.inr (.inl hm))))
      obtain ⟨x5, r5, w5⟩ := slice_rep (N := N) (ty := .str) u5 c9 (by omega) (by rw [c8]; rfl) (fun m hm cs d ps h hw => str_rep u6 h hw) h5 fun m hm => hw' m (by simp only [DataW.weightsEach, List.mem_append]; exact .inr (.inr (.inr (.inr (.inl hm)))))
      simp only [List.cons.injEq, and_true] at q1 q2
      subst q1; subst q2
      simp only [Rep, List.cons.injEq, and_true] at r3
      subst r3
      obtain ⟨v4', e4', a, cap, rfl, hcap, hmem⟩ := r4
      simp only [List.cons.injEq, and_true] at e4'
      subst e4'
      obtain ⟨v5', e5', hs5⟩ := r5
      simp only [List.cons.injEq, and_true] at e5'
      subst e5'
      have w4' : x4.length ≤ N ∧ ∀ x ∈ x4, WfV N x := by simpa only [Wf] using w4
      have w5' : x5.length ≤ N ∧ ∀ x ∈ x5, x.length ≤ N := by simpa only [Wf] using w5
      refine ⟨.mk n1 n2 x3 x4 x5, ?_, ?_⟩
      · simp only [Rep]
        have hs5' : SliceRep (All w) w (fun k vs => vs = [Value.string ⟨k.toArray⟩]) x5 a5 := by
          refine hs5.imp (fun _ h => h) (fun _ _ => rfl) fun x u h => by simpa only [Rep] using h
        rcases hmem with rfl | ⟨ad, us, rfl, hsp, hA, hcells, hall⟩
        · exact .mk n1 n2 x3 [] x5 a cap a5 (fun _ => []) hcap (.inl rfl) (fun i h => by simp at h) hs5'
        · have hsz : ∀ (x : V) (u : List Value), Rep (All w) w .value x u → u.length = 5 := fun x u h => RepV.length h
          have hul : us.length = x4.length * 5 := RepAll.length (sz := 5) hsz hall
          refine .mk n1 n2 x3 x4 x5 (some ad) cap a5 (fun i => (us.drop (i * 5)).take 5) hcap (.inr ⟨ad, rfl, hsp, hA, fun i hi => ⟨by simp [hul]; omega, fun j hj => ?_⟩⟩) (fun i hi => ?_) hs5'
          · rw [List.getElem?_take_of_lt hj, List.getElem?_drop]
            exact hcells (i * 5 + j) (by omega)
          · obtain ⟨p, u, q, he, hp, hr⟩ := RepAll.get (sz := 5) hsz i x4[i] hall (List.getElem?_eq_getElem hi)
            have hu := hsz _ _ hr
            rw [he, List.drop_append_of_le_length (by omega), List.drop_of_length_le (l := p) (by omega), List.nil_append, List.take_append_of_le_length (by omega), List.take_of_length_le (by omega)]
            simpa only [Rep] using hr
      · simp only [Wf]
        exact .mk _ _ _ _ _ w1 w2 w3 w4'.1 w5'.1 (fun i hi => w4'.2 _ (List.getElem_mem hi)) w5'.2
    · cases hv
  · cases hv

/-- Whatever its type. -/
theorem trod_rep : ∀ (fuel n t : Nat) (ty : Ty) (cs : List Value) (d : DataW H) (ps : List MemPlace), lay P vt n t = some ty → DataW.trod enc P w base spare held fuel t cs = some (d, ps) → (∀ m ∈ d.weights P t, m ≤ N) →
    ∃ x, Rep (All w) w ty x cs ∧ Wf N ty x := by
  intro fuel
  induction fuel using Nat.strongRecOn with
  | _ fuel IH =>
  intro n t ty cs d ps hl h hw
  cases n with
  | zero => simp [lay] at hl
  | succ n =>
    unfold lay at hl
    split at hl
    · rename_i e; subst e
      split at hl
      · rename_i hv; cases hl; exact value_rep hv fuel cs d ps h hw
      · cases hl
    · split at hl
      · rename_i ht; cases hl
        obtain ⟨b, rfl⟩ := trod_bool ht h
        exact ⟨b, rfl, trivial⟩
      · rename_i k ht; cases hl
        obtain ⟨m, rfl, h1⟩ := trod_int ht h
        exact ⟨m, rfl, h1⟩
      · rename_i ht; cases hl
        exact str_rep ht h hw
      · rename_i e ht
        split at hl
        · rename_i hb
          simp only [Option.bind_eq_some_iff] at hl
          obtain ⟨ty', h1, hl⟩ := hl
          split at hl
          · rename_i hs; cases hl
            exact slice_rep ht hb.1 hb.2 hs (fun m hm cs d ps h hw => IH m hm n e ty' cs d ps h1 h hw) h hw
          · cases hl
        · cases hl
      · rename_i fs ht
        obtain ⟨m, xs, rfl, hlen, hm, rfl⟩ := trod_struct ht h
        have := fields_rep (N := N) hlen (fun t ty cs d ps h1 h2 h3 => IH m (by omega) n t ty cs d ps h1 h2 h3) fs.toList 0 ty xs hl hm fun m hm => hw m (by simpa only [DataW.weights, ht] using hm)
        simpa only [List.drop_zero] using this
      · cases hl

/-- An argument that is no struct. -/
theorem open_one {t n : Nat} {v : Value} {ty : Ty} {d : DataW H} {ps} (hl : lay P vt n t = some ty) (h : DataW.Trod enc P w 0 spare held t v d ps) (hv : v.cells.toList = [v]) (hw : ∀ m ∈ d.weights P t, m ≤ N) :
    ∃ x, RepAV (c0 (All w) w) (.d ty x) v ∧ Wf N ty x := by
  obtain ⟨fuel, h⟩ := h
  obtain ⟨x, h1, h2⟩ := trod_rep fuel n t ty _ _ _ hl h hw
  refine ⟨x, ?_, h2⟩
  simp only [RepAV]
  rw [hv] at h1; exact h1
end
end Go.Pe
end
section
set_option linter.unusedSectionVars false
set_option linter.unusedVariables false
set_option linter.unusedSimpArgs false
namespace Go.Pe.Tryd
open Go.Proofs Go.RowKit
set_option maxRecDepth 100000
mutual
def each : V → Bool | .mk k n s items keys => mayP k n s items keys && eachL items
def eachL : List V → Bool | [] => true | v :: l => each v && eachL l
end
theorem eachL_all : ∀ l : List V, eachL l = l.all each
  | [] => rfl
  | v :: l => by simp [eachL, eachL_all l]
def right (v : V) : Bool := decide (dep v ≤ 12) && (decide (cnt v ≤ 2000) && each v)
@[reducible] def vy (v : V) : h36_I.den := h36_y v.kind v.n v.s v.items v.keys
theorem any_step (G : h36_I.den → Option h36_O.den) (hG : SoundH Tryd.prog 36 ⟨h36_I, h36_O, G⟩) (items : List V) (hl : items.length ≤ 4000) (ih : ∀ v ∈ items, G (vy v) = some (h36_o_y (each v))) :
    h55_F G hG (h55_y items) = some (h55_o_y (!eachL items)) := by
  rw [h55_eq, h73_eq]
  have e := go_scan (step := h73_p0_st G hG) (l := items) (fun i => h73_p0_y items (items.length : Int) (i : Int)) (fun v => !each v) (fun i => some (.inr (h73_p0_o1_y (i : Int)))) (some (.inl h73_p0_o0_y)) (fun i hi rec => by
    rw [h73_p0_eq, lt_t hi, cond_true, nth_lt hi, Option.bind_some, h56_eq, ih _ (List.getElem_mem hi), Option.bind_some, Option.bind_some, h56_o_x0_y, h36_o_x0_y, nx (by omega)]) (fun rec => by rw [h73_p0_eq]; simp only [Int.lt_irrefl, decide_false, cond_false]) (by rw [fuel_def]; omega)
  have e' : go (h73_p0_st G hG) (h73_p0_y items (items.length : Int) (0 : Int)) = _ := e
  rw [e', eachL_all]
  have h2 := findIdx_any (fun v => !each v) items
  have h3 : items.any (fun v => !each v) = !items.all each := by rw [List.all_eq_not_any_not]; simp
  rw [← h3, ← h2]
  cases items.findIdx? (fun v => !each v) with
  | none => rfl
  | some k =>
    simp only [Option.bind_some, h73_p0_o1_x4_y, h73_o_x0_y, Option.isSome_some]
    have : decide ((k : Int) ≥ 0) = true := by simp
    rw [this]
theorem h36_next (n : Nat) : (h36_S (n + 1)).1 = h36_b (h36_S n).1 (h36_S n).2 := by kernel_rfl
theorem each_ok : ∀ (n : Nat) (v : V), dep v ≤ n → cnt v ≤ 3000 → (h36_S n).1 (vy v) = some (h36_o_y (each v))
  | 0, v, h, _ => by have := dep_pos v; omega
  | n + 1, .mk k a s items keys, hd, hc => by
    simp only [dep, cnt] at hd hc
    have hl := cntL_len items
    have h37 := f37_ok' (.mk k a s items keys) (by simp only [V.items]; omega)
    rw [va_mk] at h37
    show (h36_S (n + 1)).1 (h36_y k a s items keys) = _
    rw [h36_next, h36_eq, h37, Option.bind_some]
    simp only [each]
    show (bif mayP k a s items keys then _ else _) = _
    cases mayP k a s items keys with
    | false => rfl
    | true =>
      rw [cond_true, any_step _ _ items (by omega) fun v hv => each_ok n v (by have := dep_mem hv; omega) (by have := cnt_mem hv; omega), Option.bind_some, h55_o_x0_y, Bool.not_not, Bool.true_and]
theorem h36_is (v : V) (h : cnt v ≤ 3000) : h36_F (vy v) = some (h36_o_y (each v)) := by
  unfold h36_F
  exact each_ok recN v (by have := dep_le v; rw [recN_eq]; omega) h
theorem f19_ok' (v : V) (h : cnt v ≤ 3000) : f19_F (va v, ()) = some (right v, ()) := by
  obtain ⟨k, n, s, items, keys⟩ := v
  rw [va_mk, f19_eq]
  have h1 := f17_ok' (.mk k n s items keys) h
  have h2 := f15_ok' (.mk k n s items keys) h
  have h3 := h36_is (.mk k n s items keys) h
  rw [va_mk] at h1 h2
  have h3' : h36_F (h36_y k n s items keys) = _ := h3
  rw [h1, Option.bind_some]
  unfold right
  generalize V.mk k n s items keys = v at *
  by_cases hd : dep v ≤ 12
  · have e1 : decide ((dep v : Int) ≤ 12) = true := by simp; omega
    dsimp only
    rw [e1, cond_true, h2, Option.bind_some]
    by_cases hc : cnt v ≤ 2000
    · have e2 : decide ((cnt v : Int) ≤ 2000) = true := by simp; omega
      dsimp only
      rw [e2, cond_true, h3', Option.bind_some, h36_o_x0_y]; simp [hd, hc]
    · have e2 : decide ((cnt v : Int) ≤ 2000) = false := by simp; omega
      dsimp only
      rw [e2, cond_false]; simp [hc]
  · have e1 : decide ((dep v : Int) ≤ 12) = false := by simp; omega
    dsimp only
    rw [e1, cond_false]; simp [hd]
end Go.Pe.Tryd
end
section
set_option linter.unusedSectionVars false
set_option linter.unusedVariables false
set_option linter.unusedSimpArgs false
namespace Go.Pe.Tryd
open Go.Proofs Go.RowKit
set_option maxRecDepth 100000
def rep (c : UInt8) (new : List UInt8) (s : List UInt8) : List UInt8 := s.flatMap fun b => if b = c then new else [b]
theorem index_hd (c : UInt8) (l : List UInt8) : Lib.index (c :: l) [c] = 0 := by simp [Lib.index]
theorem index_tl {b c : UInt8} (h : b ≠ c) {l : List UInt8} {i : Nat} (hi : Lib.index l [c] = i) : Lib.index (b :: l) [c] = ((i + 1 : Nat) : Int) := by
  have h1 : ¬ (c == b) = true := fun e => h (beq_iff_eq.1 e).symm
  have h2 : ¬ (((i : Nat) : Int) == -1) = true := fun e => by have := beq_iff_eq.1 e; omega
  simp only [Lib.index, hi, List.isPrefixOf, Bool.and_true]
  rw [if_neg h1, if_neg h2]; rfl
theorem rep_K (c : UInt8) (new : List UInt8) : ∀ s : List UInt8, Lib.replaceK [c] new (s.count c) s = rep c new s
  | [] => rfl
  | b :: l => by
    have ih := rep_K c new l
    by_cases e : b = c
    · subst e
      rw [List.count_cons_self, Lib.replaceK_hit [b] new _ (b :: l) 0 (index_hd b l)]
      simp only [List.take_zero, List.nil_append, List.length_singleton, Nat.zero_add, List.drop_one, List.tail_cons, ih, rep, List.flatMap_cons, if_true]
    · rw [List.count_cons_of_ne e]
      have hr : rep c new (b :: l) = b :: rep c new l := by simp [rep, e]
      rw [hr, ← ih]
      cases hc : l.count c with
      | zero => rfl
      | succ k =>
        obtain ⟨i, hi⟩ := Lib.index_of_count (s := l) (old := [c]) (by rw [Lib.count_one, hc]; omega)
        rw [Lib.replaceK_hit [c] new k (b :: l) (i + 1) (index_tl e hi), Lib.replaceK_hit [c] new k l i hi]
        have : i + 1 + [c].length = (i + [c].length) + 1 := by simp
        rw [this, List.drop_succ_cons, List.take_succ_cons]; rfl
theorem replace_rep (c : UInt8) (new s : List UInt8) (h : new ≠ [c]) : Lib.replaceAll s [c] new = rep c new s := by
  unfold Lib.replaceAll Lib.replace
  rw [if_neg (by simpa using fun e => h e.symm)]
  have : Lib.replaceNum s [c] (-1) = s.count c := by
    unfold Lib.replaceNum
    rw [if_pos (.inl (by decide)), Lib.count_one]
  rw [this, rep_K]
def esc (s : List UInt8) : List UInt8 := s.flatMap fun b => if b = 34 ∨ b = 92 then [92, b] else [b]
def quo (s : List UInt8) : List UInt8 := 34 :: esc s ++ [34]
theorem rep_rep (s : List UInt8) : rep 34 [92, 34] (rep 92 [92, 92] s) = esc s := by
  unfold rep esc
  rw [List.flatMap_assoc]
  congr; funext b
  by_cases h1 : b = 92
  · subst h1; rfl
  · by_cases h2 : b = 34
    · subst h2; rfl
    · simp [h1, h2]
theorem esc_len (s : List UInt8) : (esc s).length ≤ 2 * s.length := by
  induction s with
  | nil => simp [esc]
  | cons b l ih =>
    have : esc (b :: l) = (if b = 34 ∨ b = 92 then [92, b] else [b]) ++ esc l := rfl
    rw [this, List.length_append, List.length_cons]
    split <;> simp <;> omega
theorem rep_len (s : List UInt8) : (rep 92 [92, 92] s).length ≤ 2 * s.length := by
  induction s with
  | nil => simp [rep]
  | cons b l ih =>
    have : rep 92 [92, 92] (b :: l) = (if b = 92 then [92, 92] else [b]) ++ rep 92 [92, 92] l := rfl
    rw [this, List.length_append, List.length_cons]
    split <;> simp <;> omega
theorem quo_len (s : List UInt8) : (quo s).length ≤ 2 * s.length + 2 := by
  have := esc_len s
  simp [quo]; omega
theorem countB_small (s : List UInt8) (c : UInt8) : Lib.countB ⟨s.toArray⟩ ⟨[c].toArray⟩ ≤ s.length := by
  have := Lib.countB_le ⟨[c].toArray⟩ (by simp [ByteArray.size]) (ByteArray.size ⟨s.toArray⟩) ⟨s.toArray⟩ (Nat.le_refl _)
  simpa [ByteArray.size] using this
theorem f54_ok' (s : List UInt8) (h : s.length ≤ 1000000) : f54_F (s, ()) = some (quo s, ()) := by
  have h1 := countB_small s 92
  have h2 := countB_small (rep 92 [92, 92] s) 34
  have h3 := rep_len s
  have h4 := esc_len s
  rw [f54_eq]
  have e1 : replaceF (s, (([92] : List UInt8), (([92, 92] : List UInt8), ()))) = some (rep 92 [92, 92] s, ()) := by
    unfold replaceF
    dsimp only
    rw [if_pos ⟨by omega, by simp, by simp only [List.length_cons, List.length_nil]; omega⟩, replace_rep _ _ _ (by simp)]
  have e2 : replaceF (rep 92 [92, 92] s, (([34] : List UInt8), (([92, 34] : List UInt8), ()))) = some (esc s, ()) := by
    unfold replaceF
    dsimp only
    rw [if_pos ⟨by omega, by simp, by simp only [List.length_cons, List.length_nil]; omega⟩, replace_rep _ _ _ (by simp), rep_rep]
  rw [e1, Option.bind_some]
  dsimp only
  rw [e2, Option.bind_some]
  dsimp only
  rw [if_pos (by simp; omega), if_pos (by simp; omega)]; rfl
theorem strOf_bytesOf (s : List UInt8) : strOf (bytesOf s) = s := by
  unfold strOf bytesOf
  rw [List.map_map]
  conv => rhs; rw [← List.map_id s]
  apply List.map_congr_left
  intro b _
  simp
theorem bytesOf_append (a b : List UInt8) : bytesOf (a ++ b) = bytesOf a ++ bytesOf b := by simp [bytesOf]
theorem bytesOf_len (a : List UInt8) : (bytesOf a).length = a.length := by simp [bytesOf]
end Go.Pe.Tryd
end
section
set_option linter.unusedSectionVars false
set_option linter.unusedVariables false
set_option linter.unusedSimpArgs false
namespace Go.Pe.Tryd
open Go.Proofs Go.RowKit
set_option maxRecDepth 100000
mutual
def txt : V → List UInt8
  | .mk k n s items keys => bif k == 1 then Lib.itoa n else bif k == 2 then quo s else bif k == 4 then 123 :: (txtL true 0 keys items ++ [125]) else 91 :: (txtL false 0 keys items ++ [93])
def txtL : Bool → Nat → List (List UInt8) → List V → List UInt8
  | _, _, _, [] => []
  | m, i, keys, v :: l => (bif decide (0 < i) then [44] else []) ++ ((bif m then quo (keys.getD i []) ++ [58] else []) ++ (txt v ++ txtL m (i + 1) keys l))
end
def pre (m : Bool) (keys : List (List UInt8)) (i : Nat) : List UInt8 := (bif decide (0 < i) then [44] else []) ++ (bif m then quo (keys.getD i []) ++ [58] else [])
theorem txtL_append (m : Bool) (keys : List (List UInt8)) : ∀ (a b : List V) (i : Nat), txtL m i keys (a ++ b) = txtL m i keys a ++ txtL m (i + a.length) keys b
  | [], b, i => by simp [txtL]
  | v :: a, b, i => by
    simp only [List.cons_append, txtL, txtL_append m keys a b (i + 1), List.append_assoc, List.length_cons]
    have : i + 1 + a.length = i + (a.length + 1) := by omega
    rw [this]
theorem txtL_take (m : Bool) (keys : List (List UInt8)) {items : List V} {i : Nat} (h : i < items.length) : txtL m 0 keys (items.take (i + 1)) = txtL m 0 keys (items.take i) ++ (pre m keys i ++ txt items[i]) := by
  rw [List.take_succ_eq_append_getElem h, txtL_append]
  have : 0 + (items.take i).length = i := by simp; omega
  rw [this]
  simp only [txtL, pre, List.append_nil, List.append_assoc]
theorem txtL_take_le (m : Bool) (keys : List (List UInt8)) (items : List V) (i : Nat) : (txtL m 0 keys (items.take i)).length ≤ (txtL m 0 keys items).length := by
  conv => rhs; rw [← List.take_append_drop i items, txtL_append]
  rw [List.length_append]; omega
theorem kok_tok {ks : List (List UInt8)} (h : kok ks = true) {i : Nat} (hi : i < ks.length) : ks[i].length ≤ 4000 := by
  unfold kok at h
  simp only [Bool.not_eq_true', List.any_eq_false, List.mem_range] at h
  have := h i hi
  unfold kbad at this
  rw [getD_lt hi] at this
  simp only [Bool.or_eq_true, not_or, Bool.not_eq_true', Bool.not_eq_false] at this
  have h2 := this.1
  unfold tok at h2
  simp at h2
  exact h2.1
theorem mayP_1 {n : Int} {s items keys} (h : mayP 1 n s items keys = true) : -1099511627776 ≤ n ∧ n ≤ 1099511627776 := by
  unfold mayP at h
  simp at h
  exact ⟨h.2.2.1, h.2.2.2⟩
theorem mayP_2 {n : Int} {s items keys} (h : mayP 2 n s items keys = true) : s.length ≤ 4000 := by
  have q : ((2 : Int) == 1) = false := rfl
  have q2 : ((2 : Int) == 2) = true := rfl
  unfold mayP at h
  rw [q, q2, cond_false, cond_true] at h
  simp only [Bool.and_eq_true] at h
  have := h.2.2
  unfold tok at this
  simp at this
  exact this.1
theorem mayP_4 {n : Int} {s items keys} (h : mayP 4 n s items keys = true) : keys.length = items.length ∧ kok keys = true := by
  have q : ((4 : Int) == 1) = false := rfl
  have q2 : ((4 : Int) == 2) = false := rfl
  have q3 : ((4 : Int) == 3) = false := rfl
  unfold mayP at h
  rw [q, q2, q3, cond_false, cond_false, cond_false] at h
  simp only [Bool.and_eq_true, beq_iff_eq] at h
  exact ⟨by omega, h.2.2.2.2⟩
theorem dec_len : ∀ (k u : Nat), u < 10 ^ (k + 1) → (Lib.decDigits u).length ≤ k + 1
  | 0, u, h => by rw [Lib.decDigits]; simp at h; simp [h]
  | k + 1, u, h => by
    rw [Lib.decDigits]
    split
    · simp
    · have := dec_len k (u / 10) (by rw [Nat.pow_succ] at h; omega)
      simp; omega
theorem itoa_len {n : Int} (h1 : -1099511627776 ≤ n) (h2 : n ≤ 1099511627776) : (Lib.itoa n).length ≤ 14 := by
  have e : (10 : Nat) ^ 13 = 10000000000000 := by decide
  unfold Lib.itoa
  split
  · have := dec_len 12 n.natAbs (by rw [e]; omega)
    simp; omega
  · have := dec_len 12 n.toNat (by rw [e]; omega)
    omega
theorem pre_len {m : Bool} {keys : List (List UInt8)} {i : Nat} (h : m = true → ∀ j (hj : j < keys.length), keys[j].length ≤ 4000) : (pre m keys i).length ≤ 8004 := by
  unfold pre
  have h1 : (bif decide (0 < i) then [44] else [] : List UInt8).length ≤ 1 := by cases decide (0 < i) <;> simp
  have h2 : (bif m then quo (keys.getD i []) ++ [58] else []).length ≤ 8003 := by
    cases m with
    | false => simp
    | true =>
      have hq := quo_len (keys.getD i [])
      have : (keys.getD i []).length ≤ 4000 := by
        rcases Nat.lt_or_ge i keys.length with hi | hi
        · rw [getD_lt hi]; exact h rfl i hi
        · simp [List.getD_eq_getElem?_getD, hi]
      simp only [cond_true, List.length_append, List.length_singleton]; omega
  rw [List.length_append]; omega
theorem txtL_len (m : Bool) (keys : List (List UInt8)) (h : m = true → ∀ j (hj : j < keys.length), keys[j].length ≤ 4000) : ∀ (l : List V) (i : Nat), (∀ v ∈ l, (txt v).length + 8004 ≤ 17000 * cnt v) → (txtL m i keys l).length ≤ 17000 * cntL l
  | [], i, _ => by simp [txtL]
  | v :: l, i, hv => by
    have h1 := hv v (by simp)
    have h2 := txtL_len m keys h l (i + 1) fun u hu => hv u (by simp [hu])
    have h3 := pre_len (m := m) (keys := keys) (i := i) h
    unfold pre at h3
    rw [List.length_append] at h3
    simp only [txtL, List.length_append, cntL] at *
    omega
theorem txt_len : ∀ (n : Nat) (v : V), dep v ≤ n → each v = true → (txt v).length + 8004 ≤ 17000 * cnt v
  | 0, v, h, _ => by have := dep_pos v; omega
  | n + 1, .mk k a s items keys, hd, he => by
    simp only [dep] at hd
    simp only [each, Bool.and_eq_true] at he
    have hv : ∀ v ∈ items, (txt v).length + 8004 ≤ 17000 * cnt v := fun v hv => txt_len n v (by have := dep_mem hv; omega) (by
      have := he.2
      rw [eachL_all, List.all_eq_true] at this
      exact this v hv)
    simp only [txt, cnt]
    by_cases h1 : k = 1
    · subst h1
      have := mayP_1 he.1
      have := itoa_len this.1 this.2
      simp only [beq_self_eq_true, cond_true]; omega
    · have q1 : (k == 1) = false := by simp [h1]
      rw [q1, cond_false]
      by_cases h2 : k = 2
      · subst h2
        have := mayP_2 he.1
        have := quo_len s
        simp only [beq_self_eq_true, cond_true]; omega
      · have q2 : (k == 2) = false := by simp [h2]
        rw [q2, cond_false]
        by_cases h4 : k = 4
        · subst h4
          have h5 := mayP_4 he.1
          have := txtL_len true keys (fun _ j hj => kok_tok h5.2 hj) items 0 hv
          simp only [beq_self_eq_true, cond_true, List.length_cons, List.length_append, List.length_nil]; omega
        · have q4 : (k == 4) = false := by simp [h4]
          have := txtL_len false keys (fun h => by cases h) items 0 hv
          rw [q4, cond_false]
          simp only [List.length_cons, List.length_append, List.length_nil]; omega
theorem h53a_is (x : List UInt8) (l : List Int) (h : l.length + x.length ≤ 4294967296) : h53a_F (h53a_y x l) = some (h53a_o_y (x.length : Int) (l ++ bytesOf x)) := by
  rw [h53a_eq]
  show (appOk (l.length + (bytesOf x).length) _) = _
  rw [appOk_lt (by rw [bytesOf_len]; exact h)]; rfl
theorem h53_is (x : List UInt8) (h : x.length ≤ 4294967296) : h53_F (h53_y x) = some (h53_o_y (x.length : Int) (bytesOf x)) := by
  rw [h53_eq]
  show (appOk (0 + (bytesOf x).length) _) = _
  rw [appOk_lt (by rw [bytesOf_len]; omega)]; rfl
theorem h34a_items (G : h34a_I.den → Option h34a_O.den) (hG : SoundH Tryd.prog 34 ⟨h34a_I, h34a_O, G⟩) (x4 : List UInt8) (k n : Int) (s : List UInt8) (items : List V) (keys : List (List UInt8)) (l : List Int) (hl : items.length ≤ 4000) (hm : (k == 4) = true → keys.length = items.length ∧ ∀ j (hj : j < keys.length), keys[j].length ≤ 4000)
    (hlen : l.length + (txtL (k == 4) 0 keys items).length ≤ 4294967296) (ih : ∀ v ∈ items, ∀ l : List Int, l.length + (txt v).length ≤ 4294967296 → G (h34a_y v.kind v.n v.s v.items v.keys l) = some (h34a_o_y (l ++ bytesOf (txt v)))) :
    go (h34a_p2_st G hG) (h34a_p2_y x4 items (items.length : Int) (0 : Int) k n s items keys l) = some (h34a_p2_o0_y x4 (l ++ bytesOf (txtL (k == 4) 0 keys items))) := by
  have e := go_seq (step := (h34a_p2_st G hG)) (y := fun i => h34a_p2_y x4 items (items.length : Int) (i : Int) k n s items keys (l ++ bytesOf (txtL (k == 4) 0 keys (items.take i)))) (n := items.length) (r := some (h34a_p2_o0_y x4 (l ++ bytesOf (txtL (k == 4) 0 keys items)))) (fun i hi rec => by
    have hle := txtL_take_le (k == 4) keys items (i + 1)
    rw [txtL_take _ _ hi] at hle
    generalize hL : l ++ bytesOf (txtL (k == 4) 0 keys (items.take i)) = L at *
    have hLl : L.length + (pre (k == 4) keys i).length + (txt items[i]).length ≤ 4294967296 := by
      rw [← hL]; simp only [List.length_append, bytesOf_len] at *; omega
    have hn : l ++ bytesOf (txtL (k == 4) 0 keys (items.take (i + 1))) = L ++ bytesOf (pre (k == 4) keys i) ++ bytesOf (txt items[i]) := by
      rw [txtL_take _ _ hi, ← hL]; simp only [bytesOf_append, List.append_assoc]
    rw [hn]
    rw [h34a_p2_eq, lt_t hi, cond_true, nth_lt hi, Option.bind_some, h34a_p1_eq]
    have hc : (bif decide (((i : Nat) : Int) > (0 : Int)) then ((h53a_F (h53a_y ([44] : List UInt8) L)).bind fun z53 => some ((h34a_p1_o0_y x4 (i : Int) items (items.length : Int) (i : Int) k n s items keys items[i].kind items[i].n items[i].s items[i].items items[i].keys (h53a_o_l0 z53)))) else (some ((h34a_p1_o0_y x4 (i : Int) items (items.length : Int) (i : Int) k n s items keys items[i].kind items[i].n items[i].s items[i].items items[i].keys L)))) = some (h34a_p1_o0_y x4 (i : Int) items (items.length : Int) (i : Int) k n s items keys items[i].kind items[i].n items[i].s items[i].items items[i].keys (L ++ bytesOf (bif decide (0 < i) then [44] else []))) := by
      unfold pre at hLl
      by_cases h0 : 0 < i
      · have e1 : decide ((i : Int) > 0) = true := by simp; omega
        have e2 : decide (0 < i) = true := by simp [h0]
        rw [e1, e2, cond_true, cond_true, h53a_is _ _ (by rw [e2] at hLl; simp only [cond_true, List.length_append, List.length_singleton] at *; omega), Option.bind_some, h53a_o_l0_y]
      · have e1 : decide ((i : Int) > 0) = false := by simp; omega
        have e2 : decide (0 < i) = false := by simp [h0]
        rw [e1, e2, cond_false, cond_false]; simp [bytesOf]
    rw [hc, Option.bind_some]
    simp only [h34a_p1_o0_x4_y, h34a_p1_o0_x5_y, h34a_p1_o0_x31_y, h34a_p1_o0_x32_y, h34a_p1_o0_x33_y, h34a_p1_o0_r1_0_y, h34a_p1_o0_r1_1_y, h34a_p1_o0_r1_2_y, h34a_p1_o0_r1_3_y, h34a_p1_o0_r1_4_y, h34a_p1_o0_r2_0_y, h34a_p1_o0_r2_1_y, h34a_p1_o0_r2_2_y, h34a_p1_o0_r2_3_y, h34a_p1_o0_r2_4_y, h34a_p1_o0_l0_y]
    rw [h34a_p0_eq]
    have hk : (bif (k == (4 : Int)) then ((nth keys ((i : Nat) : Int)).bind fun y49 => (f54_F (y49, ())).bind fun r50 => (h53a_F (h53a_y r50.1 (L ++ bytesOf (bif decide (0 < i) then [44] else [])))).bind fun z51 => (h53a_F (h53a_y ([58] : List UInt8) (h53a_o_l0 z51))).bind fun z52 => some ((h34a_p0_o0_y x4 items (items.length : Int) (i : Int) k n s items keys items[i].kind items[i].n items[i].s items[i].items items[i].keys (h53a_o_l0 z52)))) else (some ((h34a_p0_o0_y x4 items (items.length : Int) (i : Int) k n s items keys items[i].kind items[i].n items[i].s items[i].items items[i].keys (L ++ bytesOf (bif decide (0 < i) then [44] else [])))))) = some (h34a_p0_o0_y x4 items (items.length : Int) (i : Int) k n s items keys items[i].kind items[i].n items[i].s items[i].items items[i].keys (L ++ bytesOf (pre (k == 4) keys i))) := by
      unfold pre at hLl ⊢
      cases hk4 : (k == 4) with
      | false => rw [cond_false, cond_false, List.append_nil]
      | true =>
        obtain ⟨hkl, hk2⟩ := hm hk4
        have hik : i < keys.length := by omega
        rw [hk4, getD_lt hik] at hLl
        rw [cond_true, cond_true, nth_lt hik, Option.bind_some, f54_ok' _ (by have := hk2 i hik; omega), Option.bind_some, getD_lt hik]
        simp only [cond_true, List.length_append, List.length_singleton] at hLl
        rw [h53a_is _ _ (by simp only [List.length_append, bytesOf_len]; omega), Option.bind_some, h53a_o_l0_y, h53a_is _ _ (by simp only [List.length_append, List.length_singleton, bytesOf_len]; omega), Option.bind_some, h53a_o_l0_y]
        simp only [bytesOf_append, List.append_assoc]
    rw [hk, Option.bind_some]
    simp only [h34a_p0_o0_x4_y, h34a_p0_o0_x31_y, h34a_p0_o0_x32_y, h34a_p0_o0_x33_y, h34a_p0_o0_r1_0_y, h34a_p0_o0_r1_1_y, h34a_p0_o0_r1_2_y, h34a_p0_o0_r1_3_y, h34a_p0_o0_r1_4_y, h34a_p0_o0_r2_0_y, h34a_p0_o0_r2_1_y, h34a_p0_o0_r2_2_y, h34a_p0_o0_r2_3_y, h34a_p0_o0_r2_4_y, h34a_p0_o0_l0_y]
    rw [ih _ (List.getElem_mem hi) _ (by simp only [List.length_append, bytesOf_len]; omega), Option.bind_some, h34a_o_l0_y, nx (by omega)]) (fun rec => by rw [h34a_p2_eq]; simp only [Int.lt_irrefl, decide_false, cond_false, List.take_length]) (by rw [fuel_def]; omega)
  have e0 : h34a_p2_y x4 items (items.length : Int) (0 : Int) k n s items keys l = h34a_p2_y x4 items (items.length : Int) ((0 : Nat) : Int) k n s items keys (l ++ bytesOf (txtL (k == 4) 0 keys (items.take 0))) := by simp [txtL, bytesOf]
  rw [e0]; exact e
theorem h34_items (x4 : List UInt8) (k n : Int) (s : List UInt8) (items : List V) (keys : List (List UInt8)) (l : List Int) (hl : items.length ≤ 4000) (hm : (k == 4) = true → keys.length = items.length ∧ ∀ j (hj : j < keys.length), keys[j].length ≤ 4000)
    (hlen : l.length + (txtL (k == 4) 0 keys items).length ≤ 4294967296) (ih : ∀ v ∈ items, ∀ l : List Int, l.length + (txt v).length ≤ 4294967296 → h34a_F (h34a_y v.kind v.n v.s v.items v.keys l) = some (h34a_o_y (l ++ bytesOf (txt v)))) :
    go h34_p2_st (h34_p2_y x4 items (items.length : Int) (0 : Int) k n s items keys l) = some (h34_p2_o0_y x4 (l ++ bytesOf (txtL (k == 4) 0 keys items))) := by
  have e := go_seq (step := h34_p2_st) (y := fun i => h34_p2_y x4 items (items.length : Int) (i : Int) k n s items keys (l ++ bytesOf (txtL (k == 4) 0 keys (items.take i)))) (n := items.length) (r := some (h34_p2_o0_y x4 (l ++ bytesOf (txtL (k == 4) 0 keys items)))) (fun i hi rec => by
    have hle := txtL_take_le (k == 4) keys items (i + 1)
    rw [txtL_take _ _ hi] at hle
    generalize hL : l ++ bytesOf (txtL (k == 4) 0 keys (items.take i)) = L at *
    have hLl : L.length + (pre (k == 4) keys i).length + (txt items[i]).length ≤ 4294967296 := by
      rw [← hL]; simp only [List.length_append, bytesOf_len] at *; omega
    have hn : l ++ bytesOf (txtL (k == 4) 0 keys (items.take (i + 1))) = L ++ bytesOf (pre (k == 4) keys i) ++ bytesOf (txt items[i]) := by
      rw [txtL_take _ _ hi, ← hL]; simp only [bytesOf_append, List.append_assoc]
    rw [hn]
    rw [h34_p2_eq, lt_t hi, cond_true, nth_lt hi, Option.bind_some, h34_p1_eq]
    have hc : (bif decide (((i : Nat) : Int) > (0 : Int)) then ((h53a_F (h53a_y ([44] : List UInt8) L)).bind fun z53 => some ((h34_p1_o0_y x4 (i : Int) items (items.length : Int) (i : Int) k n s items keys items[i].kind items[i].n items[i].s items[i].items items[i].keys (h53a_o_l0 z53)))) else (some ((h34_p1_o0_y x4 (i : Int) items (items.length : Int) (i : Int) k n s items keys items[i].kind items[i].n items[i].s items[i].items items[i].keys L)))) = some (h34_p1_o0_y x4 (i : Int) items (items.length : Int) (i : Int) k n s items keys items[i].kind items[i].n items[i].s items[i].items items[i].keys (L ++ bytesOf (bif decide (0 < i) then [44] else []))) := by
      unfold pre at hLl
      by_cases h0 : 0 < i
      · have e1 : decide ((i : Int) > 0) = true := by simp; omega
        have e2 : decide (0 < i) = true := by simp [h0]
        rw [e1, e2, cond_true, cond_true, h53a_is _ _ (by rw [e2] at hLl; simp only [cond_true, List.length_append, List.length_singleton] at *; omega), Option.bind_some, h53a_o_l0_y]
      · have e1 : decide ((i : Int) > 0) = false := by simp; omega
        have e2 : decide (0 < i) = false := by simp [h0]
        rw [e1, e2, cond_false, cond_false]; simp [bytesOf]
    rw [hc, Option.bind_some]
    simp only [h34_p1_o0_x4_y, h34_p1_o0_x5_y, h34_p1_o0_x31_y, h34_p1_o0_x32_y, h34_p1_o0_x33_y, h34_p1_o0_r1_0_y, h34_p1_o0_r1_1_y, h34_p1_o0_r1_2_y, h34_p1_o0_r1_3_y, h34_p1_o0_r1_4_y, h34_p1_o0_r2_0_y, h34_p1_o0_r2_1_y, h34_p1_o0_r2_2_y, h34_p1_o0_r2_3_y, h34_p1_o0_r2_4_y, h34_p1_o0_l0_y]
    rw [h34_p0_eq]
    have hk : (bif (k == (4 : Int)) then ((nth keys ((i : Nat) : Int)).bind fun y49 => (f54_F (y49, ())).bind fun r50 => (h53a_F (h53a_y r50.1 (L ++ bytesOf (bif decide (0 < i) then [44] else [])))).bind fun z51 => (h53a_F (h53a_y ([58] : List UInt8) (h53a_o_l0 z51))).bind fun z52 => some ((h34_p0_o0_y x4 items (items.length : Int) (i : Int) k n s items keys items[i].kind items[i].n items[i].s items[i].items items[i].keys (h53a_o_l0 z52)))) else (some ((h34_p0_o0_y x4 items (items.length : Int) (i : Int) k n s items keys items[i].kind items[i].n items[i].s items[i].items items[i].keys (L ++ bytesOf (bif decide (0 < i) then [44] else [])))))) = some (h34_p0_o0_y x4 items (items.length : Int) (i : Int) k n s items keys items[i].kind items[i].n items[i].s items[i].items items[i].keys (L ++ bytesOf (pre (k == 4) keys i))) := by
      unfold pre at hLl ⊢
      cases hk4 : (k == 4) with
      | false => rw [cond_false, cond_false, List.append_nil]
      | true =>
        obtain ⟨hkl, hk2⟩ := hm hk4
        have hik : i < keys.length := by omega
        rw [hk4, getD_lt hik] at hLl
        rw [cond_true, cond_true, nth_lt hik, Option.bind_some, f54_ok' _ (by have := hk2 i hik; omega), Option.bind_some, getD_lt hik]
        simp only [cond_true, List.length_append, List.length_singleton] at hLl
        rw [h53a_is _ _ (by simp only [List.length_append, bytesOf_len]; omega), Option.bind_some, h53a_o_l0_y, h53a_is _ _ (by simp only [List.length_append, List.length_singleton, bytesOf_len]; omega), Option.bind_some, h53a_o_l0_y]
        simp only [bytesOf_append, List.append_assoc]
    rw [hk, Option.bind_some]
    simp only [h34_p0_o0_x4_y, h34_p0_o0_x31_y, h34_p0_o0_x32_y, h34_p0_o0_x33_y, h34_p0_o0_r1_0_y, h34_p0_o0_r1_1_y, h34_p0_o0_r1_2_y, h34_p0_o0_r1_3_y, h34_p0_o0_r1_4_y, h34_p0_o0_r2_0_y, h34_p0_o0_r2_1_y, h34_p0_o0_r2_2_y, h34_p0_o0_r2_3_y, h34_p0_o0_r2_4_y, h34_p0_o0_l0_y]
    rw [ih _ (List.getElem_mem hi) _ (by simp only [List.length_append, bytesOf_len]; omega), Option.bind_some, h34a_o_l0_y, nx (by omega)]) (fun rec => by rw [h34_p2_eq]; simp only [Int.lt_irrefl, decide_false, cond_false, List.take_length]) (by rw [fuel_def]; omega)
  have e0 : h34_p2_y x4 items (items.length : Int) (0 : Int) k n s items keys l = h34_p2_y x4 items (items.length : Int) ((0 : Nat) : Int) k n s items keys (l ++ bytesOf (txtL (k == 4) 0 keys (items.take 0))) := by simp [txtL, bytesOf]
  rw [e0]; exact e
end Go.Pe.Tryd
end
section
set_option linter.unusedSectionVars false
set_option linter.unusedVariables false
set_option linter.unusedSimpArgs false
namespace Go.Pe.Tryd
open Go.Proofs Go.RowKit
set_option maxRecDepth 100000
theorem h34a_list (G : h34a_I.den → Option h34a_O.den) (hG : SoundH Tryd.prog 34 ⟨h34a_I, h34a_O, G⟩) (o c : UInt8) (k n : Int) (s : List UInt8) (items : List V) (keys : List (List UInt8)) (l : List Int) (hl : items.length ≤ 4000) (hm : (k == 4) = true → keys.length = items.length ∧ ∀ j (hj : j < keys.length), keys[j].length ≤ 4000)
    (hlen : l.length + (txtL (k == 4) 0 keys items).length + 2 ≤ 4294967296) (ih : ∀ v ∈ items, ∀ l : List Int, l.length + (txt v).length ≤ 4294967296 → G (h34a_y v.kind v.n v.s v.items v.keys l) = some (h34a_o_y (l ++ bytesOf (txt v)))) :
    (cutHi ([o, c] : List UInt8) (1 : Int) fun s67 => (h53a_F (h53a_y s67 l)).bind fun z68 => (go (h34a_p2_st G hG) (h34a_p2_y ([o, c] : List UInt8) items (items.length : Int) (0 : Int) k n s items keys (h53a_o_l0 z68))).bind fun o69 => cutLo (h34a_p2_o0_x4 o69) (1 : Int) fun s70 => (h53a_F (h53a_y s70 (h34a_p2_o0_l0 o69))).bind fun z71 => some (h34a_o_y (h53a_o_l0 z71))) = some (h34a_o_y (l ++ bytesOf (o :: (txtL (k == 4) 0 keys items ++ [c])))) := by
  have e1 : (1 : Int) = ((1 : Nat) : Int) := rfl
  rw [e1, cutHi_nat' _ _ _ (by simp)]
  have e2 : ([o, c] : List UInt8).take 1 = [o] := rfl
  rw [e2, h53a_is _ _ (by simp only [List.length_singleton]; omega), Option.bind_some, h53a_o_l0_y, h34a_items G hG _ k n s items keys _ hl hm (by simp only [List.length_append, bytesOf_len, List.length_singleton]; omega) ih, Option.bind_some, h34a_p2_o0_x4_y, h34a_p2_o0_l0_y, cutLo_nat' _ _ _ (by simp)]
  have e3 : ([o, c] : List UInt8).drop 1 = [c] := rfl
  rw [e3, h53a_is _ _ (by simp only [List.length_append, bytesOf_len, List.length_singleton]; omega), Option.bind_some, h53a_o_l0_y]
  simp [bytesOf]
theorem h34_list (o c : UInt8) (k n : Int) (s : List UInt8) (items : List V) (keys : List (List UInt8)) (hl : items.length ≤ 4000) (hm : (k == 4) = true → keys.length = items.length ∧ ∀ j (hj : j < keys.length), keys[j].length ≤ 4000)
    (hlen : (txtL (k == 4) 0 keys items).length + 2 ≤ 4294967296) (ih : ∀ v ∈ items, ∀ l : List Int, l.length + (txt v).length ≤ 4294967296 → h34a_F (h34a_y v.kind v.n v.s v.items v.keys l) = some (h34a_o_y (l ++ bytesOf (txt v)))) :
    (cutHi ([o, c] : List UInt8) (1 : Int) fun s67 => (h53_F (h53_y s67)).bind fun z68 => (go h34_p2_st (h34_p2_y ([o, c] : List UInt8) items (items.length : Int) (0 : Int) k n s items keys (h53_o_l0 z68))).bind fun o69 => cutLo (h34_p2_o0_x4 o69) (1 : Int) fun s70 => (h53a_F (h53a_y s70 (h34_p2_o0_l0 o69))).bind fun z71 => some (h34_o_y (h53a_o_l0 z71))) = some (h34_o_y (bytesOf (o :: (txtL (k == 4) 0 keys items ++ [c])))) := by
  have e1 : (1 : Int) = ((1 : Nat) : Int) := rfl
  rw [e1, cutHi_nat' _ _ _ (by simp)]
  have e2 : ([o, c] : List UInt8).take 1 = [o] := rfl
  rw [e2, h53_is _ (by simp), Option.bind_some, h53_o_l0_y, h34_items  _ k n s items keys _ hl hm (by simp only [List.length_append, bytesOf_len, List.length_singleton]; omega) ih, Option.bind_some, h34_p2_o0_x4_y, h34_p2_o0_l0_y, cutLo_nat' _ _ _ (by simp)]
  have e3 : ([o, c] : List UInt8).drop 1 = [c] := rfl
  rw [e3, h53a_is _ _ (by simp only [List.length_append, bytesOf_len, List.length_singleton]; omega), Option.bind_some, h53a_o_l0_y]
  simp [bytesOf]
theorem format_is {a : Int} (h1 : -1099511627776 ≤ a) (h2 : a ≤ 1099511627776) : formatF (a, ((10 : Int), ())) = some (Lib.itoa a, ()) := by
  unfold formatF
  exact if_pos ⟨rfl, Int.le_trans (by decide) h1, Int.le_trans h2 (by decide)⟩
theorem each_items {k n : Int} {s items keys} (h : each (.mk k n s items keys) = true) : mayP k n s items keys = true ∧ ∀ v ∈ items, each v = true := by
  simp only [each, Bool.and_eq_true] at h
  refine ⟨h.1, fun v hv => ?_⟩
  have := h.2
  rw [eachL_all, List.all_eq_true] at this
  exact this v hv
theorem h34a_next (n : Nat) : (h34a_S (n + 1)).1 = h34a_b (h34a_S n).1 (h34a_S n).2 := by kernel_rfl
theorem wr_ok : ∀ (n : Nat) (v : V) (l : List Int), dep v ≤ n → cnt v ≤ 3000 → each v = true → l.length + (txt v).length ≤ 4294967296 → (h34a_S n).1 (h34a_y v.kind v.n v.s v.items v.keys l) = some (h34a_o_y (l ++ bytesOf (txt v)))
  | 0, v, _, h, _, _, _ => by have := dep_pos v; omega
  | n + 1, .mk k a s items keys, l, hd, hcn, hee, hlen => by
    have he := each_items hee
    simp only [dep, cnt] at hd hcn
    have hl := cntL_len items
    have ih : ∀ v ∈ items, ∀ l : List Int, l.length + (txt v).length ≤ 4294967296 → (h34a_S n).1 (h34a_y v.kind v.n v.s v.items v.keys l) = some (h34a_o_y (l ++ bytesOf (txt v))) := fun v hv l h => wr_ok n v l (by have := dep_mem hv; omega) (by have := cnt_mem hv; omega) (he.2 v hv) h
    show (h34a_S (n + 1)).1 (h34a_y k a s items keys l) = _
    rw [h34a_next, h34a_eq]
    by_cases h1 : k = 1
    · subst h1
      have hb := mayP_1 he.1
      have hf := format_is hb.1 hb.2
      have q1 : ((1 : Int) == 1) = true := rfl
      simp only [txt, q1, cond_true] at hlen ⊢
      rw [hf, Option.bind_some]
      dsimp only
      rw [h53a_is _ _ hlen, Option.bind_some, h53a_o_l0_y]
    · have q1 : (k == 1) = false := by simp [h1]
      rw [q1, cond_false]
      by_cases h2 : k = 2
      · subst h2
        have hb := mayP_2 he.1
        have q2 : ((2 : Int) == 2) = true := rfl
        simp only [txt, q1, q2, cond_true, cond_false] at hlen ⊢
        rw [f54_ok' s (by omega), Option.bind_some]
        dsimp only
        rw [h53a_is _ _ hlen, Option.bind_some, h53a_o_l0_y]
      · have q2 : (k == 2) = false := by simp [h2]
        rw [q2, cond_false]
        have hm : (k == 4) = true → keys.length = items.length ∧ ∀ j (hj : j < keys.length), keys[j].length ≤ 4000 := fun h => by
          have := beq_iff_eq.1 h; subst this
          have h5 := mayP_4 he.1
          exact ⟨h5.1, fun j hj => kok_tok h5.2 hj⟩
        by_cases h4 : k = 4
        · subst h4
          have q4 : ((4 : Int) == 4) = true := rfl
          simp only [txt, q1, q2, q4, cond_true, cond_false, List.length_cons, List.length_append, List.length_nil] at hlen ⊢
          have := h34a_list (h34a_S n).1 (h34a_S n).2 123 125 4 a s items keys l (by omega) hm (by rw [q4]; omega) ih
          rw [q4] at this
          exact this
        · have q4 : (k == 4) = false := by simp [h4]
          simp only [txt, q1, q2, q4, cond_false, List.length_cons, List.length_append, List.length_nil] at hlen ⊢
          have := h34a_list (h34a_S n).1 (h34a_S n).2 91 93 k a s items keys l (by omega) hm (by rw [q4]; omega) ih
          rw [q4] at this
          exact this
theorem h34a_is (v : V) (l : List Int) (hc : cnt v ≤ 3000) (he : each v = true) (hlen : l.length + (txt v).length ≤ 4294967296) : h34a_F (h34a_y v.kind v.n v.s v.items v.keys l) = some (h34a_o_y (l ++ bytesOf (txt v))) := by
  unfold h34a_F
  exact wr_ok recN v l (by have := dep_le v; rw [recN_eq]; omega) hc he hlen
theorem h34_is : ∀ (v : V), cnt v ≤ 3000 → each v = true → (txt v).length ≤ 4294967296 → h34_F (h34_y v.kind v.n v.s v.items v.keys) = some (h34_o_y (bytesOf (txt v)))
  | .mk k a s items keys, hcn, hee, hlen => by
    have he := each_items hee
    simp only [cnt] at hcn
    have hl := cntL_len items
    have ih : ∀ v ∈ items, ∀ l : List Int, l.length + (txt v).length ≤ 4294967296 → h34a_F (h34a_y v.kind v.n v.s v.items v.keys l) = some (h34a_o_y (l ++ bytesOf (txt v))) := fun v hv l h => h34a_is v l (by have := cnt_mem hv; omega) (he.2 v hv) h
    show h34_F (h34_y k a s items keys) = _
    rw [h34_eq]
    by_cases h1 : k = 1
    · subst h1
      have hb := mayP_1 he.1
      have hf := format_is hb.1 hb.2
      have q1 : ((1 : Int) == 1) = true := rfl
      simp only [txt, q1, cond_true] at hlen ⊢
      rw [hf, Option.bind_some]
      dsimp only
      rw [h53_is _ hlen, Option.bind_some, h53_o_l0_y]
    · have q1 : (k == 1) = false := by simp [h1]
      rw [q1, cond_false]
      by_cases h2 : k = 2
      · subst h2
        have hb := mayP_2 he.1
        have q2 : ((2 : Int) == 2) = true := rfl
        simp only [txt, q1, q2, cond_true, cond_false] at hlen ⊢
        rw [f54_ok' s (by omega), Option.bind_some]
        dsimp only
        rw [h53_is _ hlen, Option.bind_some, h53_o_l0_y]
      · have q2 : (k == 2) = false := by simp [h2]
        rw [q2, cond_false]
        have hm : (k == 4) = true → keys.length = items.length ∧ ∀ j (hj : j < keys.length), keys[j].length ≤ 4000 := fun h => by
          have := beq_iff_eq.1 h; subst this
          have h5 := mayP_4 he.1
          exact ⟨h5.1, fun j hj => kok_tok h5.2 hj⟩
        by_cases h4 : k = 4
        · subst h4
          have q4 : ((4 : Int) == 4) = true := rfl
          simp only [txt, q1, q2, q4, cond_true, cond_false, List.length_cons, List.length_append, List.length_nil] at hlen ⊢
          have := h34_list  123 125 4 a s items keys (by omega) hm (by rw [q4]; omega) ih
          rw [q4] at this
          exact this
        · have q4 : (k == 4) = false := by simp [h4]
          simp only [txt, q1, q2, q4, cond_false, List.length_cons, List.length_append, List.length_nil] at hlen ⊢
          have := h34_list  91 93 k a s items keys (by omega) hm (by rw [q4]; omega) ih
          rw [q4] at this
          exact this
theorem txt_small (v : V) (hc : cnt v ≤ 3000) (he : each v = true) : (txt v).length ≤ 51000000 := by
  have := txt_len (dep v) v (Nat.le_refl _) he
  omega
/-- What Print tells. -/
def prn (v : V) : List UInt8 × Int := if right v = true then (txt v, 0) else ([], 1)
theorem f14_ok' (v : V) (hc : cnt v ≤ 3000) : f14_F (va v, ()) = some ((prn v).1, ((prn v).2, ())) := by
  have h1 := f19_ok' v hc
  have h2 := h34_is v hc
  obtain ⟨k, n, s, items, keys⟩ := v
  rw [va_mk] at *
  rw [f14_eq, h1, Option.bind_some]
  unfold prn
  have h2' : each (.mk k n s items keys) = true → (txt (.mk k n s items keys)).length ≤ 4294967296 → h34_F (h34_y k n s items keys) = some (h34_o_y (bytesOf (txt (.mk k n s items keys)))) := h2
  generalize hv : V.mk k n s items keys = v at *
  cases hr : right v with
  | false => rfl
  | true =>
    have he : each v = true := by
      unfold right at hr
      simp only [Bool.and_eq_true] at hr
      exact hr.2.2
    have hs := txt_small v hc he
    dsimp only
    rw [Bool.not_true, cond_false, h2' he (by omega), Option.bind_some, h34_o_l0_y, if_pos rfl]
    have h35 : h35_F (h35_y (bytesOf (txt v))) = some (h35_o_y (txt v)) := by
      show (if bytesOf (strOf (bytesOf (txt v))) = bytesOf (txt v) ∧ (bytesOf (txt v)).length ≤ 4294967296 then some (h35_o_y (strOf (bytesOf (txt v)))) else none) = _
      rw [strOf_bytesOf, if_pos ⟨rfl, by rw [bytesOf_len]; omega⟩]
    rw [h35, Option.bind_some, h35_o_x0_y]
end Go.Pe.Tryd
end
section
set_option linter.unusedSectionVars false
set_option linter.unusedVariables false
set_option linter.unusedSimpArgs false
namespace Go.Pe.Tryd
open Go.Proofs Go.RowKit
set_option maxRecDepth 100000
def alV : V := .mk 3 0 [] [.mk 1 1 [] [] [], .mk 2 0 [97, 34, 98] [] []] []
theorem alV_right : right alV = true := by
  simp [right, alV, dep, depL, cnt, cntL, each, eachL, mayP, noIt, tok, ctl]
theorem alV_txt : txt alV = [91, 49, 44, 34, 97, 92, 34, 98, 34, 93] := by
  simp [txt, alV, txtL, quo, esc, Lib.itoa, Lib.decDigits]
theorem f13_ok' : f13_F () = some (true, ()) := by
  rw [f13_eq, f23_eq, Option.bind_some, f22_eq, Option.bind_some, f28_eq, Option.bind_some]
  dsimp only
  have h := f14_ok' alV (by simp [alV, cnt, cntL])
  unfold prn at h
  rw [if_pos alV_right, alV_txt] at h
  have h' : f14_F (((3 : Int), ((0 : Int), (([] : List UInt8), (([V.mk 1 1 [] [] [], V.mk 2 0 [97, 34, 98] [] []] : List V), (([] : List (List UInt8)), ()))))), ()) = _ := h
  rw [h', Option.bind_some]; rfl
theorem f12_ok' (v : V) : f12_F (va v, ()) = some (decide (2100 < cnt v), ()) := by
  obtain ⟨k, n, s, items, keys⟩ := v
  have h := f16_ok' 2100 (.mk k n s items keys) (by omega)
  rw [va_mk] at *
  have h' : f16_F ((k, (n, (s, (items, (keys, ()))))), ((2100 : Int), ())) = _ := h
  rw [f12_eq, h', Option.bind_some]
  have e : decide (((min (cnt (V.mk k n s items keys)) (2100 + 1) : Nat) : Int) > 2100) = decide (2100 < cnt (V.mk k n s items keys)) := by
    rw [Bool.eq_iff_iff, decide_eq_true_eq, decide_eq_true_eq]; omega
  dsimp only
  rw [e]
end Go.Pe.Tryd
end
section
set_option linter.unusedSectionVars false
set_option linter.unusedVariables false
set_option linter.unusedSimpArgs false
namespace Go.Pe.Tryd
open Go.Proofs Go.RowKit
set_option maxRecDepth 100000
mutual
def same : V → V → Bool
  | .mk k n s items keys, w => k == w.kind && (n == w.n && (s == w.s && (keys == w.keys && sameL items w.items)))
def sameL : List V → List V → Bool
  | [], l => l.isEmpty
  | v :: l, l' => match l' with | [] => false | w :: l' => same v w && sameL l l'
end
end Go.Pe.Tryd
end
section
set_option linter.unusedSectionVars false
set_option linter.unusedVariables false
set_option linter.unusedSimpArgs false
namespace Go.Pe.Tryd
open Go.Proofs Go.RowKit
set_option maxRecDepth 100000
def Sep (r : List UInt8) : Prop := ∀ b, r.head? = some b → b = 44 ∨ b = 93 ∨ b = 125
inductive Form : V → Prop
  | num (n : Int) (h1 : -1099511627776 ≤ n) (h2 : n ≤ 1099511627776) : Form (.mk 1 n [] [] [])
  | str (s : List UInt8) : Form (.mk 2 0 s [] [])
  | lst (items : List V) : Form (.mk 3 0 [] items [])
  | map (items : List V) (keys : List (List UInt8)) (h : keys.length = items.length) : Form (.mk 4 0 [] items keys)
def Apart (v : V) : Prop := ∀ w r r', each w = true → Sep r → Sep r' → txt v ++ r = txt w ++ r' → v = w ∧ r = r'
end Go.Pe.Tryd
end
section
set_option linter.unusedSectionVars false
set_option linter.unusedVariables false
set_option linter.unusedSimpArgs false
namespace Go.Pe.Tryd
open Go.Proofs Go.RowKit
set_option maxRecDepth 100000
abbrev PR := List UInt8 × V
def zV : V := .mk 0 0 [] [] []
noncomputable def srt (l : List PR) : List PR := sortF (α := PR) cmpP l
theorem srt_len (l : List PR) : (srt l).length = l.length := sortF_len (α := PR) swoP l
theorem srt_perm (l : List PR) : (srt l).Perm l := sortF_perm (α := PR) swoP l
def dupAt (s : List PR) (i : Nat) : Bool := decide (0 < i) && ((s.map Prod.fst).getD (i - 1) [] == (s.map Prod.fst).getD i [])
def dups (s : List PR) : Bool := (List.range s.length).any (dupAt s)
noncomputable def mapV (l : List PR) : V × Int := if dups (srt l) = true then (zV, 23) else (.mk 4 0 [] ((srt l).map Prod.snd) ((srt l).map Prod.fst), 0)
theorem nilEq_self {α S : Type} (xs : List α) (a b : Option S) (h : xs = [] → a = b) : nilEq xs a b = b := by
  unfold nilEq
  split
  · rename_i e; rw [h e, if_pos rfl]
  · rfl
theorem h47_is (l : List PR) (h : l.length ≤ 4000) : h47_F (h47_y l) = some (h47_o_y l) := by
  rw [h47_eq, nilEq_self, appOk_lt (by simp; omega), List.nil_append]
  rintro rfl
  rw [appOk_lt (by simp)]; rfl
def Y31 (s : List PR) (i : Nat) : f31_p1_sh.den := f31_p1_y (s.length : Int) (i : Int) 0 0 [] 4 0 [] s ((s.take i).map Prod.fst) ((s.take i).map Prod.snd)
theorem mk_eta (v : V) : V.mk v.kind v.n v.s v.items v.keys = v := by cases v; rfl
theorem step31 (s : List PR) (hs : s.length ≤ 4000) (i : Nat) (hi : i < s.length) (rec : f31_p1_sh.den → Option (OutDen f31_p1_outs)) :
    f31_p1_st rec (Y31 s i) = if dupAt s i = true then some (.inr (f31_p1_o1_y 23 0 0 [])) else rec (Y31 s (i + 1)) := by
  unfold Y31
  have hti : Int.toNat (i : Int) = i := by omega
  rw [f31_p1_eq, lt_t hi, cond_true, within_lt (by omega), hti, List.getElem?_eq_getElem hi, Option.bind_some]
  try dsimp only
  have hp : f31_p0_F (f31_p0_y (i : Int) (s.length : Int) (i : Int) 0 0 [] 4 0 [] s[i].1 s[i].2.kind s[i].2.n s[i].2.s s[i].2.items s[i].2.keys s ((s.take i).map Prod.fst) ((s.take i).map Prod.snd)) = some (f31_p0_o0_y (s.length : Int) (i : Int) (dupAt s i) 0 0 [] 4 0 [] s[i].1 s[i].2.kind s[i].2.n s[i].2.s s[i].2.items s[i].2.keys s ((s.take i).map Prod.fst) ((s.take i).map Prod.snd)) := by
    rw [f31_p0_eq]
    unfold dupAt
    rcases Nat.eq_zero_or_pos i with h0 | h0
    · subst h0; rfl
    · have e1 : decide ((i : Int) > 0) = true := by simp; omega
      have e2 : decide (0 < i) = true := by simp [h0]
      have h1 : i - 1 < s.length := by omega
      have g1 : (s.map Prod.fst).getD (i - 1) [] = s[i - 1].1 := by rw [getD_lt (by simpa using h1)]; simp
      have g2 : (s.map Prod.fst).getD i [] = s[i].1 := by rw [getD_lt (by simpa using hi)]; simp
      rw [e1, e2, cond_true, pred_nat h0 (by omega), within_lt (by omega), show Int.toNat ((i - 1 : Nat) : Int) = i - 1 by omega, List.getElem?_eq_getElem h1, Option.bind_some, g1, g2, Bool.true_and]
  rw [hp, Option.bind_some, f31_p0_o0_x32_y]
  cases dupAt s i with
  | true => rw [cond_true, if_pos rfl]
  | false =>
    rw [cond_false, if_neg (by simp)]
    rw [f31_p0_o0_l1_y, f31_p0_o0_l2_y, f31_p0_o0_r2_0_y, f31_p0_o0_r2_1_y, f31_p0_o0_r2_2_y, f31_p0_o0_r2_3_y, f31_p0_o0_r2_4_y, f31_p0_o0_r2_5_y, appOk_lt (by simp; omega), appOk_lt (by simp; omega), f31_p0_o0_x14_y, f31_p0_o0_x15_y, f31_p0_o0_r0_0_y, f31_p0_o0_r0_1_y, f31_p0_o0_r0_2_y, f31_p0_o0_r1_0_y, f31_p0_o0_r1_1_y, f31_p0_o0_r1_2_y, f31_p0_o0_l0_y, nx (by omega), mk_eta, List.take_succ_eq_append_getElem hi, List.map_append, List.map_append]
    rfl
theorem f31_ok' (l : List PR) (h : l.length ≤ 4000) : f31_F (l, ()) = some (va (mapV l).1, ((mapV l).2, ())) := by
  have hl := srt_len l
  rw [f31_eq, h47_is l h, Option.bind_some, h47_o_l0_y, appOk_lt (by omega)]
  have hsr : sortF cmpP l = srt l := rfl
  rw [hsr]
  unfold mapV dups
  generalize srt l = s at *
  have e0 : f31_p1_y (s.length : Int) (0 : Int) 0 0 [] 4 0 [] s [] [] = Y31 s 0 := by simp [Y31]
  rw [e0]
  have hany : (List.range s.length).any (dupAt s) = true ↔ ∃ i, i < s.length ∧ dupAt s i = true := by simp [List.any_eq_true]
  rcases first_bad (fun i => dupAt s i = false) (List.range s.length) with hall | ⟨k, hk, hb, hlt⟩
  · have hno : ¬ ((List.range s.length).any (dupAt s) = true) := by
      rw [hany]; rintro ⟨i, hi, hd⟩
      rw [hall i (List.mem_range.2 hi)] at hd; cases hd
    rw [if_neg hno]
    have hgo : go f31_p1_st (Y31 s 0) = some (.inl (f31_p1_o0_y 0 0 [] 4 0 [] (s.map Prod.fst) (s.map Prod.snd))) := by
      refine go_seq (step := f31_p1_st) (y := Y31 s) (n := s.length) (fun i hi rec => ?_) (fun rec => ?_) (by rw [fuel_def]; omega)
      · rw [step31 s (by omega) i hi, if_neg (by rw [hall i (List.mem_range.2 hi)]; simp)]
      · unfold Y31; rw [f31_p1_eq]; simp only [Int.lt_irrefl, decide_false, cond_false, List.take_length]
    rw [hgo, Option.bind_some]; rfl
  · rw [List.length_range] at hk
    rw [List.getElem_range] at hb
    have hb : dupAt s k = true := by simpa using hb
    rw [if_pos (hany.2 ⟨k, hk, hb⟩)]
    have hgo : go f31_p1_st (Y31 s 0) = some (.inr (f31_p1_o1_y 23 0 0 [])) := by
      refine go_seq (step := f31_p1_st) (y := Y31 s) (n := k) (fun i hi rec => ?_) (fun rec => ?_) (by rw [fuel_def]; omega)
      · have := hlt i hi
        rw [List.getElem_range] at this
        rw [step31 s (by omega) i (by omega), if_neg (by rw [this]; simp)]
      · rw [step31 s (by omega) k hk, if_pos hb]
    rw [hgo, Option.bind_some]; rfl
theorem cntL_perm {a b : List V} (h : a.Perm b) : cntL a = cntL b := by
  induction h with
  | nil => rfl
  | cons x _ ih => simp only [cntL, ih]
  | swap x y l => simp only [cntL]; omega
  | trans _ _ h1 h2 => rw [h1, h2]
theorem depL_perm {a b : List V} (h : a.Perm b) : depL a = depL b := by
  induction h with
  | nil => rfl
  | cons x _ ih => simp only [depL, ih]
  | swap x y l => simp only [depL]; omega
  | trans _ _ h1 h2 => rw [h1, h2]
theorem map_cnt {l : List PR} (h : (mapV l).2 = 0) : cnt (mapV l).1 = 1 + cntL (l.map Prod.snd) ∧ dep (mapV l).1 = 1 + depL (l.map Prod.snd) := by
  unfold mapV at h ⊢
  split at h
  · cases h
  · rename_i hd
    rw [if_neg hd]
    have hp := (srt_perm l).map Prod.snd
    exact ⟨by simp only [cnt, cntL_perm hp], by simp only [dep, depL_perm hp]⟩
end Go.Pe.Tryd
end
section
set_option linter.unusedSectionVars false
set_option linter.unusedVariables false
set_option linter.unusedSimpArgs false
namespace Go.Pe.Tryd
open Go.Proofs Go.RowKit
set_option maxRecDepth 100000
theorem f12_va (v : V) : f12_F (va v, ()) = some (decide (2100 < cnt v), ()) := f12_ok' v
theorem cntL_bound {l : List V} (h : ∀ v ∈ l, cnt v ≤ 2100) : cntL l ≤ 2100 * l.length := by
  induction l with
  | nil => simp [cntL]
  | cons v l ih =>
    have h1 := h v (by simp)
    have h2 := ih fun x hx => h x (by simp [hx])
    simp only [cntL, List.length_cons]; omega
def Y9 (s : List PR) (i : Nat) : f9_p1_sh.den := f9_p1_y s ((1 + cntL ((s.take i).map Prod.snd) : Nat) : Int) ((depL ((s.take i).map Prod.snd) : Nat) : Int) s (s.length : Int) (i : Int) ((s.take i).map Prod.snd)
theorem take_small {s : List PR} (i : Nat) (hi : i ≤ s.length) (h : ∀ p ∈ s.take i, cnt p.2 ≤ 2100) : cntL ((s.take i).map Prod.snd) ≤ 2100 * i := by
  have := cntL_bound (l := (s.take i).map Prod.snd) (fun v hv => by
    simp only [List.mem_map] at hv
    obtain ⟨p, hp, rfl⟩ := hv
    exact h p hp)
  have e : ((s.take i).map Prod.snd).length = i := by simp; omega
  rw [e] at this; exact this
theorem step9 (s : List PR) (hs : s.length ≤ 10) (i : Nat) (hi : i < s.length) (hb : ∀ p ∈ s.take i, cnt p.2 ≤ 2100) (rec : f9_p1_sh.den → Option (OutDen f9_p1_outs)) :
    f9_p1_st rec (Y9 s i) = if 2100 < cnt s[i].2 then some (.inr (f9_p1_o1_y true)) else rec (Y9 s (i + 1)) := by
  unfold Y9
  have hc := take_small i (by omega) hb
  have hd := depL_le ((s.take i).map Prod.snd)
  have hv : (s[i].2.kind, (s[i].2.n, (s[i].2.s, (s[i].2.items, (s[i].2.keys, ()))))) = va s[i].2 := rfl
  rw [f9_p1_eq, lt_t hi, cond_true, nth_lt hi, Option.bind_some, hv, f12_va, Option.bind_some]
  try dsimp only
  by_cases hbig : 2100 < cnt s[i].2
  · rw [decide_eq_true hbig, cond_true, if_pos hbig, f13_ok', Option.bind_some]
  · have hcd := dep_le s[i].2
    rw [decide_eq_false hbig, cond_false, if_neg hbig, f15_ok' _ (by omega), Option.bind_some, f17_ok' _ (by omega), Option.bind_some, appOk_lt (by simp; omega), nx (by omega), mk_eta, maxI_nat, wrap64 (by omega) (by omega), List.take_succ_eq_append_getElem hi, List.map_append, cntL_append, depL_append]
    simp only [List.map_cons, List.map_nil, cntL, depL, Nat.add_zero, Nat.max_zero]
    congr 2; omega
theorem lawSizes' (a0 : List PR) : f9_F (a0, ()) = some (true, ()) := by
  rw [f9_eq]
  have e10 : minI (a0.length : Int) (10 : Int) = ((min a0.length 10 : Nat) : Int) := minI_nat a0.length 10
  rw [e10, cutHi_nat' _ _ _ (Nat.min_le_left _ _)]
  have hl : (a0.take (min a0.length 10)).length ≤ 10 := by simp; omega
  generalize a0.take (min a0.length 10) = s at *
  have e0 : f9_p1_y s (1 : Int) (0 : Int) s (s.length : Int) (0 : Int) [] = Y9 s 0 := by simp [Y9, cntL, depL]
  rw [e0]
  rcases first_bad (fun p : PR => cnt p.2 ≤ 2100) s with hall | ⟨k, hk, hb, hlt⟩
  · have hgo : go f9_p1_st (Y9 s 0) = some (.inl (f9_p1_o0_y s ((1 + cntL (s.map Prod.snd) : Nat) : Int) ((depL (s.map Prod.snd) : Nat) : Int) (s.map Prod.snd))) := by
      refine go_seq (step := f9_p1_st) (y := Y9 s) (n := s.length) (fun i hi rec => ?_) (fun rec => ?_) (by rw [fuel_def]; omega)
      · have h1 := hall _ (List.getElem_mem hi)
        rw [step9 s hl i hi (fun p hp => hall p (List.mem_of_mem_take hp)), if_neg (by omega)]
      · unfold Y9; rw [f9_p1_eq]; simp only [Int.lt_irrefl, decide_false, cond_false, List.take_length]
    have hcl := cntL_bound (l := s.map Prod.snd) (fun v hv => by
      simp only [List.mem_map] at hv
      obtain ⟨p, hp, rfl⟩ := hv
      exact hall p hp)
    rw [List.length_map] at hcl
    have hdl := depL_le (s.map Prod.snd)
    rw [hgo, Option.bind_some]
    try dsimp only
    rw [f9_p1_o0_l0_y, f9_p1_o0_x0_y, f9_p1_o0_x3_y, f9_p1_o0_x4_y, f28_eq, Option.bind_some]
    try dsimp only
    have hv : ((3 : Int), ((0 : Int), (([] : List UInt8), (s.map Prod.snd, (([] : List (List UInt8)), ()))))) = va (.mk 3 0 [] (s.map Prod.snd) []) := rfl
    have hcv : cnt (.mk 3 0 [] (s.map Prod.snd) []) = 1 + cntL (s.map Prod.snd) := by simp only [cnt]
    have hdv : dep (.mk 3 0 [] (s.map Prod.snd) []) = 1 + depL (s.map Prod.snd) := by simp only [dep]
    have hw : IntKind.i64.wrap (((depL (s.map Prod.snd) : Nat) : Int) + 1) = ((1 + depL (s.map Prod.snd) : Nat) : Int) := by rw [wrap64 (by omega) (by omega)]; omega
    rw [f9_p0_eq, hv, f15_okB _ (by omega), Option.bind_some, hcv]
    try dsimp only
    rw [bne_self_eq_false, cond_false, f17_okB _ (by omega), Option.bind_some, hdv, hw]
    try dsimp only
    rw [bne_self_eq_false, cond_false, f13_ok', Option.bind_some, Option.bind_some, f9_p0_o0_x58_y, Bool.not_true, cond_false, f9_p0_o0_x0_y, f9_p0_o0_x3_y, f9_p0_o0_x4_y, f31_ok' s (by omega), Option.bind_some]
    try dsimp only
    by_cases he : (mapV s).2 = 0
    · obtain ⟨m1, m2⟩ := map_cnt he
      have q : ((mapV s).2 != 0) = false := by simp [he]
      have hva : ((mapV s).1.kind, ((mapV s).1.n, ((mapV s).1.s, ((mapV s).1.items, ((mapV s).1.keys, ()))))) = va (mapV s).1 := rfl
      rw [q, cond_false, hva, f15_okB _ (by omega), Option.bind_some, m1]
      try dsimp only
      rw [beq_self_eq_true, cond_true, f17_okB _ (by omega), Option.bind_some, m2, hw]
      simp
    · have q : ((mapV s).2 != 0) = true := by simpa using he
      rw [q, cond_true]
  · have hgo : go f9_p1_st (Y9 s 0) = some (.inr (f9_p1_o1_y true)) := by
      refine go_seq (step := f9_p1_st) (y := Y9 s) (n := k) (fun i hi rec => ?_) (fun rec => ?_) (by rw [fuel_def]; omega)
      · have h1 := hlt i hi
        rw [step9 s hl i (by omega) (fun p hp => by
          obtain ⟨j, hj, rfl⟩ := List.mem_take_iff_getElem.1 hp
          exact hlt j (by omega)), if_neg (by omega)]
      · rw [step9 s hl k hk (fun p hp => by
          obtain ⟨j, hj, rfl⟩ := List.mem_take_iff_getElem.1 hp
          exact hlt j (by omega)), if_pos (by omega)]
    rw [hgo, Option.bind_some]
    try dsimp only
    rw [f9_p1_o1_x2_y]
theorem lawSizes (a0 : List PR) (_ : Wf reachBytes (.list (.prod .str .value)) a0) : f9_F (a0, ()) = some (true, ()) := lawSizes' a0
end Go.Pe.Tryd
end
section
set_option linter.unusedSectionVars false
set_option linter.unusedVariables false
set_option linter.unusedSimpArgs false
namespace Go.Pe.Tryd
open Go.Proofs Go.RowKit
variable {H : Type} {enc : TypeId × Value → H}
/-- A row's contract is handed both: what its condition says, and the world's shape. -/
theorem returns_both {a : Assume} {C : Checked} {os : Os} {f : FuncId} {fn : Func} {s : ChangeSpec} {conds : List PathCond} {apart fresh handsOn again : Bool} {X : World → Array Value → Prop}
    (hX : ∀ (w w' : World) (args : Array Value), w.heap = w'.heap → X w args → X w' args)
    (own : ownKnob C.prog.godebug = none) (started : os.Started) (noInit : C.prog.inits.idxOf? f = none) (hfn : C.prog.funcs[f]? = some fn)
    (witness : ∃ (w : World) (tape : Tape) (i : Input), w.os = os ∧ (w.forCall tape i).Shaped C.prog ∧ i.vars = [] ∧ Input.okWide C.prog (w.forCall tape i) .any w.heap.size f i ∧
      ((s.pre enc C.prog fn conds apart (w.forCall tape i).memory i.args ∧ X (w.forCall tape i).memory i.args) ∧ sizedMet enc C.prog fn (OpenSpec.ofChange s) apart (w.forCall tape i).memory i.args) ∧ a.holds C.prog (lone (Frame.enter C.prog f i.args .normal) [] (w.forCall tape i)))
    (contract : ∀ (W : World) (base : Nat) (args : Array Value) (ds gs : List (DataW H)) (before : List MemPlace),
      (∀ (j : Nat) t v, fn.params[j]? = some t → args[j]? = some v → Value.okWide C.prog W .any base t v) →
      DataW.Whole enc C.prog fn.params.toList s.vars apart W args.toList ds gs before →
      conds.all (PathCond.test C.prog ⟨fn.params.toList, ds, s.plain.varTypes C.prog, gs⟩) = true →
      (DataW.weightsEach C.prog (fn.params.toList ++ s.plain.varTypes C.prog) (ds ++ gs)).all (· ≤ reachBytes) = true → X W args → W.ShapedOpen C.prog →
      a.holds C.prog (lone (Frame.enter C.prog f args .normal) [] W) →
      Calls C.prog f args W fun e W' => ∃ v, e = .returned v ∧ s.post enc C.prog fn apart fresh handsOn again W args v W') :
    ReturnsInHanded a C os f .any (fun w args => (s.pre enc C.prog fn conds apart w args ∧ X w args) ∧ sizedMet enc C.prog fn (OpenSpec.ofChange s) apart w args) (s.post enc C.prog fn apart fresh handsOn again) := by
  refine returnsInHanded_of_calls own started noInit witness ?_
  intro w tape i _ hsh _ hok hpre hholds
  obtain ⟨_, _, _, fn', hfn', _, _, _, _, hval⟩ := hok
  have e : fn' = fn := Option.some.inj (hfn'.symm.trans hfn)
  subst e
  obtain ⟨⟨⟨ds, gs, before, hw, hc⟩, hx⟩, hz⟩ := hpre
  have hw' := DataW.Whole.of_heap (w' := w.forCall tape i) (by rfl) hw
  refine (contract (w.forCall tape i) w.heap.size i.args ds gs before hval hw' hc (hz.weights hw) (hX _ _ _ (by rfl) hx) hsh hholds).mono fun e W' ⟨v, he, hp⟩ => ?_
  subst he
  exact ChangeSpec.post_blind hp
theorem tab_of_reads {w : World} (h : Lib.VarReads Tryd.prog w "internal/strconv.uint64pow10" (Lib.tabData .u64 Lib.pow10Tab)) : Lib.TabIs Tryd.prog w "internal/strconv.uint64pow10" .u64 Lib.pow10Tab := by
  obtain ⟨g', t', cs, fuel, p, hg', ht', hvar, hd⟩ := h
  obtain rfl := Option.some.inj ((show Tryd.prog.globalNamed "internal/strconv.uint64pow10" = some 1 by kernel_rfl).symm.trans hg')
  obtain rfl := Option.some.inj ((show (Tryd.prog.globals[1]?).map (·.type) = some 129 by kernel_rfl).symm.trans ht')
  unfold Lib.TabIs
  rw [hvar, ← Lib.cells_of_tab (n := 20) (e := 104) (show Tryd.prog.underlying 129 = some (.array 20 104) by kernel_rfl) (show Tryd.prog.underlying 104 = some (.int .u64) by kernel_rfl) (by kernel_rfl) (by kernel_rfl) hd]
theorem inv_of {w : World} {l : List (String × DataW Unit)} (hn : (l.all fun x => x.2.handleName?.isNone) = true) (hL : laidMetH Tryd.prog l w) (hm : ("internal/strconv.uint64pow10", (Lib.tabData .u64 Lib.pow10Tab : DataW Unit)) ∈ l) (hs : w.ShapedOpen Tryd.prog) : Inv w := by
  rw [MakeChecks.laidMetH_plain _ _ _ hn] at hL
  exact ⟨cell_of_shapedOpen_int (P := Tryd.prog) (g := 0) (t := 3) (zero := #[.int .i64 0]) hs (of_decide_eq_true (by kernel_rfl)) (by kernel_rfl) rfl (by kernel_rfl) (by kernel_rfl) (by kernel_rfl), tab_of_reads (Lib.laidMet.reads hL hm)⟩
end Go.Pe.Tryd
end
