/- The library's functions at this program, as the evaluator calls them. -/
import Derived.Lib.UnsafeStr
import Derived.Test.YtgghmllnhaahgaaDoorPeLibS
import Derived.Test.YtgghmllnhaahgaaDoorPeShelfTryd
import Derived.Test.YtgghmllnhaahgaaDoorPeIter
import Derived.Test.YtgghmllnhaahgaaDoorPeGiTryd
import Derived.Test.YtgghmllnhaahgaaDoorPeBldTryd
set_option linter.unusedSectionVars false
set_option linter.unusedVariables false
set_option linter.unusedSimpArgs false
namespace Go.Pe.Tryd
open Go.Proofs Go.RowKit
@[reducible] def h71_I : Shape := ⟨[.ptr 0 0], [some [.bld 0, .whole 0]], [some (.int .u8)]⟩
@[reducible] def h71_O : Shape := ⟨[], [some [.bld 0, .whole 0]], [some (.int .u8)]⟩
@[reducible] def h71_F (y : h71_I.den) : Option h71_O.den := some ((), y.2)
@[reducible] def h35_I : Shape := ⟨[.ptr 0 0], [some [.bld 0, .whole 0]], [some (.int .u8)]⟩
@[reducible] def h35_O : Shape := ⟨[.hole .str], [none], [none]⟩
@[reducible] def h35_F (y : h35_I.den) : Option h35_O.den := if bytesOf (strOf y.2.2.1) = y.2.2.1 ∧ y.2.2.1.length ≤ 4294967296 then some ((strOf y.2.2.1, ()), (), ()) else none
/-- A builder's block. -/
theorem bld_block {A0 : Dom} {w0 w : World} {st : St} {tmps : Array Value} {μ : Mu} (hs : Sim A0 w0 st tmps w μ) {l : List Int} (h0 : getL st.recs 0 = some [.bld 0, .whole 0]) (h1 : getL st.lsts 0 = some ⟨.int .u8, l⟩) :
    ∃ b p v, μ.at_ (.r 0) = some b ∧ w.heap[b]? = some (.cells #[p, v] 59 (0, 0)) ∧ (p = .pointer none ∨ p = .pointer (some ⟨b, 0, none⟩)) ∧ RepAV (cx A0 w0 st.recs st.lsts w μ) (.whole 0) v ∧ WholeAt μ 0 ⟨.int .u8, l⟩ v := by
  obtain ⟨b, vs, hb, ⟨el, ho⟩, hv⟩ := hs.mem.hrec 0 _ h0
  obtain ⟨vs2, h2⟩ := hs.mem.bty.r 0 _ h0 rfl b hb
  rw [ho] at h2; cases h2
  obtain ⟨p, _, e1, r1, hv⟩ := hv.cons'
  obtain ⟨v, _, rfl, r2, hv⟩ := hv.cons'
  obtain rfl := hv.nil
  have hvs : vs = #[p, v] := by apply Array.ext'; simpa using e1
  subst hvs
  have r2' := r2
  simp only [RepAV, cx] at r1 r2'
  obtain ⟨b', hb', hp⟩ := r1.2.2 (by rw [h0]; rfl)
  rw [hb] at hb'; cases hb'
  exact ⟨b, p, v, hb, ho, hp, r2, r2'.2.2 _ h1⟩
theorem copy_ok : SoundH Tryd.prog 71 ⟨h71_I, h71_O, h71_F⟩ := by
  refine ⟨⟨_, Tryd.func71, by kernel_rfl, by kernel_rfl⟩, ?_⟩
  intro y o hF A0 w0 w vs μ hs
  simp only [Option.some.injEq] at hF; subst hF
  obtain ⟨b, p, v, hb, hh, hp, hv, hw⟩ := bld_block hs (l := y.2.2.1) rfl rfl
  obtain ⟨x, _, e, hx, hn⟩ := hs.slots.cons'
  obtain rfl := hn.nil
  simp only [fillA, RepAV, cx] at hx
  obtain ⟨b', hb', rfl⟩ := hx.2.2 rfl
  rw [hb] at hb'; cases hb'
  have hvs : vs = [.pointer (some ⟨b, 0, none⟩)] := by simpa using e
  subst hvs
  rcases hp with rfl | rfl
  · refine (copy_fresh b w v hh).mono ?_
    rintro e w' ⟨rfl, rfl⟩
    refine ⟨[], μ, rfl, ?_, ?_⟩
    · simp [fill, fillL, RepAVs]
    · rw [setCell_eq_setRow w b 0 _ 59 (0, 0) _ hh]
      exact hs.mem.setRec (r := 0) (cells := [.bld 0, .whole 0]) (cells' := [.bld 0, .whole 0]) rfl hb ⟨59, hh⟩ (by
        refine RepAVs.cons ?_ (RepAVs.cons hv (by simp [RepAVs]))
        simp only [RepAV, cx]
        exact ⟨by simp [fill, fillR], rfl, fun _ => ⟨b, hb, .inr rfl⟩⟩) (fun h => h)
  · refine (copy_used b w (by rw [Lib.cell_of_heap hh]; rfl)).mono ?_
    rintro e w' ⟨rfl, rfl⟩
    exact ⟨[], μ, rfl, by simp [fill, fillL, RepAVs], hs.mem⟩
theorem freeze_other {w : World} {g n k : Nat} (h : k ≠ g) : (w.freeze ⟨g, 0, none⟩ n).heap[k]? = w.heap[k]? := by
  unfold World.freeze
  split
  · rfl
  · simp [Array.getElem?_modify, Ne.symm h]
theorem freeze_size {w : World} {a : Addr} {n : Nat} : (w.freeze a n).heap.size = w.heap.size := by
  unfold World.freeze
  split <;> simp
/-- What is left behind String: nothing is known of the builder. -/
theorem str_post {A0 : Dom} {w0 w : World} {l : List Int} {tmps : Array Value} {μ : Mu} (hs : Sim A0 w0 (fill h35_I (((), ()), (((), (), ()), ()), (l, ()))) tmps w μ) {w' : World} (s : List UInt8) (hsz : w.heap.size ≤ w'.heap.size) (hb : Below w0.heap.size w w')
    (hk : ∀ k, k < w.heap.size → (∀ x, μ.at_ x ≠ some k) → w'.heap[k]? = w.heap[k]?) : Sim A0 w0 (fill h35_O ((s, ()), (), ())) #[.string ⟨s.toArray⟩] w' ⟨fun _ => none, fun _ => 0⟩ := by
  have hm := hs.mem
  refine ⟨?_, ?_, ?_, (fun x b hx => by cases hx), (fun x y b hx => by cases hx), hm.below.trans hb, ?_, ?_, hm.np, ?_, hm.gi, ?_⟩
  · simp [fill, fillL, fillA, RepAVs, RepAV, Rep]
  · intro r cells h
    cases r <;> simp [fill, fillR, getL] at h
  · intro r o h
    cases r <;> simp [fill, fillT, getL] at h
  · intro b hF
    obtain ⟨h1, h2, h3⟩ := hm.fr b hF
    exact ⟨by omega, (hk b h1 h3).trans h2, fun x hx => by cases hx⟩
  · intro b hX
    obtain ⟨h1, h2⟩ := hm.xo b hX
    exact ⟨by omega, fun x hx => by cases hx⟩
  · intro r b h
    obtain ⟨h1, h2⟩ := hm.pins r b h
    exact ⟨h1, fun h3 => by cases r <;> simp [fill, fillR, getL] at h3⟩
  · exact ⟨fun r c h => by cases r <;> simp [fill, fillR, getL] at h, fun r o h => by cases r <;> simp [fill, fillT, getL] at h⟩
theorem u8s {A : Nat → Prop} {w : World} : ∀ {xs : List Int} {us : List Value}, RepAll (Rep A w (.int .u8)) xs us → us = xs.map fun n => Value.int .u8 n
  | [], _, h => by simpa [RepAll] using h
  | x :: xs, _, ⟨u1, u2, e, h1, h2⟩ => by
    simp only [Rep] at h1
    rw [e, h1, u8s h2]; rfl
theorem str_ok : SoundH Tryd.prog 35 ⟨h35_I, h35_O, h35_F⟩ := by
  refine ⟨⟨_, Tryd.func35, by kernel_rfl, by kernel_rfl⟩, ?_⟩
  intro y o hF A0 w0 w vs μ hs
  obtain ⟨⟨⟨⟩, ⟨⟩⟩, ⟨⟨⟨⟩, ⟨⟩, ⟨⟩⟩, ⟨⟩⟩, l, ⟨⟩⟩ := y
  obtain ⟨b, p, v, hb, hh, hp, hv, hw⟩ := bld_block hs (l := l) rfl rfl
  obtain ⟨x, _, e, hx, hn⟩ := hs.slots.cons'
  obtain rfl := hn.nil
  simp only [fillA, RepAV, cx] at hx
  obtain ⟨b', hb', rfl⟩ := hx.2.2 rfl
  rw [hb] at hb'; cases hb'
  have hvs : vs = [.pointer (some ⟨b, 0, none⟩)] := by simpa using e
  subst hvs
  simp only [h35_F] at hF
  split at hF
  · rename_i hc
    obtain ⟨hc, hlen⟩ := hc
    cases hF
    have fin : ∀ {e : Ending} {w' : World}, e = .returned (.string ⟨(strOf l).toArray⟩) → w.heap.size ≤ w'.heap.size → Below w0.heap.size w w' → (∀ k, k < w.heap.size → (∀ x, μ.at_ x ≠ some k) → w'.heap[k]? = w.heap[k]?) →
        ∃ us μ', e = .returned (retVal us) ∧ Sim A0 w0 (fill h35_O ((strOf l, ()), (), ())) us.toArray w' μ' := fun he h1 h2 h3 =>
      ⟨[.string ⟨(strOf l).toArray⟩], _, by rw [he]; rfl, str_post hs (strOf l) h1 h2 h3⟩
    rcases hw with ⟨hat, rfl⟩ | ⟨g, hg, rfl⟩
    · rcases hs.mem.hlst 0 _ (show getL _ 0 = some ⟨.int .u8, l⟩ from rfl) with ⟨_, h2⟩ | ⟨g, _, h2, _⟩
      · simp only at h2; subst h2
        refine (str_nil b p w hh).mono ?_
        rintro e w' ⟨rfl, rfl⟩
        exact fin rfl (Nat.le_refl _) (Below.drew (Below.refl _ w)) fun k _ _ => rfl
      · rw [show (cx A0 w0 _ _ w μ).μ.at_ (.l 0) = μ.at_ (.l 0) from rfl, hat] at h2; cases h2
    · rcases hs.mem.hlst 0 _ (show getL _ 0 = some ⟨.int .u8, l⟩ from rfl) with ⟨h2, _⟩ | ⟨g', cs, h2, hown, hsz, hcap, us, rest, e1, hr⟩
      · rw [show (cx A0 w0 _ _ w μ).μ.at_ (.l 0) = μ.at_ (.l 0) from rfl, hg] at h2; cases h2
      · rw [show (cx A0 w0 _ _ w μ).μ.at_ (.l 0) = μ.at_ (.l 0) from rfl, hg] at h2; cases h2
        obtain ⟨cs2, hg2⟩ := hs.mem.bty.l 0 _ (show getL _ 0 = some ⟨.int .u8, l⟩ from rfl) rfl g hg
        obtain ⟨el, hg3⟩ := hown
        have hg4 : w.heap[g]? = some (.cells cs el (0, 0)) := hg3
        rw [hg4] at hg2; cases hg2
        have hus := u8s hr
        have hul : us.length = l.length := by rw [hus]; simp
        have hsz' : cs.size = μ.cap 0 := (show cs.size = μ.cap 0 * 1 from hsz).trans (Nat.mul_one _)
        have hcap' : l.length ≤ μ.cap 0 := hcap
        have hlive := hs.mem.live _ _ hg
        by_cases h0 : l = []
        · subst h0
          by_cases hc0 : μ.cap 0 = 0
          · have hh' := hh
            rw [hc0] at hh'
            refine (str_noroom b g p cs w hh' hg4).mono ?_
            rintro e w' ⟨rfl, rfl⟩
            refine fin rfl ((Below.drew (Below.refl w.heap.size w)).alloc (Nat.le_refl _) (.view ⟨g, 0, none⟩ 5)).size ((Below.drew (Below.refl _ w)).alloc hs.mem.below.size _) fun k hk _ => (Lib.alloc_old w.drew _ k hk)
          · refine (str_room b g _ p w hc0 hh).mono ?_
            rintro e w' ⟨rfl, rfl⟩
            exact fin rfl (Nat.le_refl _) (Below.drew (Below.refl _ w)) fun k _ _ => rfl
        · have hsl : (strOf l).length = l.length := by
            have := congrArg List.length hc
            simpa [bytesOf] using this
          have hne : strOf l ≠ [] := by intro e; rw [e] at hsl; exact h0 (List.eq_nil_of_length_eq_zero hsl.symm)
          rw [← hsl] at hh hcap' hlen
          refine (str_bytes b g _ p cs (strOf l) hne w hh hg4 (by rw [hsz']; exact hcap') hcap' hlen fun j x hx => ?_).mono ?_
          · rw [Lib.cell_of_heap hg4, ← Array.getElem?_toList, e1]
            have hj : j < l.length := by rw [← hsl]; exact (List.getElem?_eq_some_iff.1 hx).1
            have hx2 : (bytesOf (strOf l))[j]? = some (x.toNat : Int) := by simp only [bytesOf, List.getElem?_map, hx]; rfl
            rw [hc] at hx2
            rw [List.getElem?_append_left (by omega), hus, List.getElem?_map, hx2]; rfl
          · rintro e w' ⟨rfl, rfl⟩
            refine fin rfl (by rw [freeze_size]; exact Nat.le_refl _) (Lib.below_freeze (Below.drew (Below.refl _ w)) (p := ⟨g, 0, none⟩) hlive.1 _) fun k hk hx => freeze_other (w := w.drew) (fun e => hx (.l 0) (by rw [e]; exact hg))
  · cases hF
end Go.Pe.Tryd
