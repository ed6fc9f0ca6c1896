/- slices.Repeat of one text: the row, filled by copies. Of one text, up to a million times. -/
import Derived.WalkKit
import Derived.LoopTactic
import Derived.Laws.CopyOwn
import Derived.Laws.MakeOwn
import Derived.OwnWalk
import Derived.Deep.RegionLaw
import Derived.Below
import Derived.IntWalk
import Derived.Lib.Hide
import Derived.Test.YtgkolhopfiogpaaPeShelfTry
import Derived.Test.YtgkolhopfiogpaaPeIter
import Derived.Test.YtgkolhopfiogpaaPeLibS
namespace Go.Pe.Try
open Go.Proofs Go.RowKit
def RepsPost (s : ByteArray) (n : Nat) (w : World) (e : Ending) (w' : World) : Prop := ∃ g t, e = .returned (.slice (some ⟨g, 0, none⟩) n n) ∧ Below w.heap.size w w' ∧ w.heap.size ≤ g ∧ g < w'.heap.size ∧ w'.heap[g]? = some (.cells (List.replicate n (Value.string s)).toArray t (0,0))
theorem mul_one (n : Nat) (hn : n ≤ 1000000) (w : World) : Calls Try.prog 55 #[.int .u64 1, .int .u64 (n : Int)] w fun e w' => e = .returned (.tuple #[.int .u64 0, .int .u64 (n : Int)]) ∧ w' = w := by
  refine (Try.bits_Mul 1 n (by omega) (by omega) w).mono ?_
  rintro e w' ⟨rfl, rfl⟩
  refine ⟨?_, rfl⟩
  have e1 : (1 * n / 18446744073709551616 : Nat) = 0 := by omega
  have e2 : (1 * n % 18446744073709551616 : Nat) = n := by omega
  rw [e1, e2]; rfl
/-- The row, k of which are told. -/
def Row (s : ByteArray) (g n k : Nat) (t : TypeId) (w : World) : Prop := ∃ rest : List Value, rest.length = n - k ∧ w.heap[g]? = some (.cells (List.replicate k (Value.string s) ++ rest).toArray t (0,0))
theorem made_row {w' w1 : World} {n : Nat} {xs : List Value} (h : w1.ownsRow 0 9 1 (Value.slice (some { block := w'.heap.size, off := 0 }) n n) n xs) : ∃ L : List Value, L.length = n ∧ w1.heap[w'.heap.size]? = some (.cells L.toArray 9 (0, 0)) := by
  obtain ⟨_, h | ⟨g, cap, cur, e, _, hh, _, _, hs, _⟩⟩ := h
  · cases h.1
  · cases e
    exact ⟨cur.toList, by simpa using hs, by simpa using hh⟩
theorem row_first {s : ByteArray} {g n : Nat} {t : TypeId} {w : World} {L : List Value} (hL : L.length = n) (h1 : 1 ≤ n) (h : Hid (w.heap[g]? = some (.cells (Go.splice L 0 [Value.string s]).toArray t (0,0)))) : Row s g n 1 t w :=
  ⟨L.drop 1, by simp [hL], h.trans (by simp [Go.splice])⟩
theorem row_more {s : ByteArray} {g n k : Nat} {t : TypeId} {w : World} {rest : List Value} (hr : rest.length = n - k) (hk : k < n) (h : Hid (w.heap[g]? = some (.cells (Go.splice (List.replicate k (Value.string s) ++ rest) k (List.replicate (min k (n - k)) (Value.string s))).toArray t (0,0)))) : Row s g n (k + min k (n - k)) t w := by
  refine ⟨rest.drop (min k (n - k)), by simp [hr]; omega, h.trans ?_⟩
  have e := List.replicate_append_replicate (n := k) (m := min k (n - k)) (a := Value.string s)
  simp only [Go.splice, List.length_replicate, List.take_left', List.drop_append, Nat.add_sub_cancel_left]
  simp
  rw [← List.append_assoc, e]
theorem addr0 (bk o : Nat) : (⟨bk, o, none⟩ : Addr).add 0 = ⟨bk, o, none⟩ := by simp [Addr.add]
theorem src_cells {s : ByteArray} {g n k : Nat} {t : TypeId} {w : World} {rest : List Value} (h : w.heap[g]? = some (.cells (List.replicate k (Value.string s) ++ rest).toArray t (0,0))) (j : Nat) (v : Value) (hv : (List.replicate (Nat.min k (n - k)) (Value.string s))[j]? = some v) : w.cell? ((⟨g, 0, none⟩ : Addr).add j) = some v := by
  have hj : j < Nat.min k (n - k) := by have := (List.getElem?_eq_some_iff.1 hv).1; simpa using this
  have e : (⟨g, 0, none⟩ : Addr).add j = ⟨g, j, none⟩ := by unfold Addr.add; split <;> simp_all
  rw [e]
  have hv2 : v = .string s := List.eq_of_mem_replicate (List.mem_of_getElem? hv)
  have hj2 : j < k := Nat.lt_of_lt_of_le hj (Nat.min_le_left _ _)
  simp [World.cell?, h, hv2, List.getElem?_append_left, hj2]
theorem rep_len (s : ByteArray) (m : Nat) : (List.replicate m (Value.string s)).length = m := List.length_replicate
theorem rep_fit (s : ByteArray) (k n : Nat) (rest : List Value) (h : rest.length = n - k) (hk : k < n) : k + (List.replicate (Nat.min k (n - k)) (Value.string s)).length ≤ (List.replicate k (Value.string s) ++ rest).length := by
  rw [rep_len, List.length_append, rep_len]
  exact Nat.add_le_add_left (h ▸ Nat.min_le_right k (n - k)) k
theorem rep_one (s : ByteArray) (m : Nat) : ∀ v ∈ List.replicate m (Value.string s), v.oneCell' = true := fun v hv => by rw [List.eq_of_mem_replicate hv]; rfl
theorem if_k (G n k : Nat) (h : k < n) : (if n = k then some (⟨G, 0, none⟩ : Addr) else some ⟨G, k, none⟩) = some ⟨G, k, none⟩ := if_neg (by omega)
theorem wrap_k {k n m : Nat} (hm : m ≤ k) (h : k ≤ n) (hn : n ≤ 1000000) : IntKind.i64.wrap ((k : Int) + (m : Int)) = ((k + m : Nat) : Int) := by
  rw [IntWalk.i64_in _ (by omega)]; omega
theorem fit_k {k n m r : Nat} (hm : m ≤ n - k) (hr : r = n - k) (h : k < n) : k + m ≤ k + r := by omega
def copyOps : Op → Bool | .call c => (match c.callee with | .builtin .copy => true | _ => false) | _ => false
set_option maxRecDepth 100000 in
set_option maxHeartbeats 1000000 in
theorem reps_calls (bk o c n : Nat) (s : ByteArray) (w : World) (hc : w.cell? ⟨bk, o, none⟩ = some (.string s)) (hbk : bk < w.heap.size) (h1 : 1 ≤ n) (hn : n ≤ 1000000) (hcc : 1 ≤ c) :
    Calls Try.prog 45 #[.slice (some ⟨bk, o, none⟩) 1 c, .int .i64 (n : Int)] w (RepsPost s n w) := by
  obtain ⟨i, hi1, hi2, hi3, hi4⟩ := info_parts (P := Try.prog) (e := 9) (z := .string ByteArray.empty) (size := 1) (bytes := 16) (by kernel_rfl)
  have hsz : (Try.prog.info? 9).map (·.size) = some 1 := by rw [hi1]; simp [hi3]
  go_enter Try.func45, Try.ntmps45
  go_wp2_with (first | (go_at_call 55; refine (mul_one n hn _).mono ?_; rintro e w' ⟨rfl, rfl⟩) | (at_make; (refine wpList_make_full _ rfl _ _ 22 rfl 0 9 i _ 1 Try.underlying22 hi1 hi2 hi3 .i64 .i64 _ _ n rfl rfl rfl rfl (by rw [hi4]; omega) (by unfold maxLen; omega) (by omega) ?_)))
  intro w1 hr hg
  obtain ⟨W, hWW⟩ : ∃ W, W = w' := ⟨_, rfl⟩
  subst hWW
  obtain ⟨L, hL, hH⟩ := made_row hr
  have hB : Below W.heap.size W w1 := (Below.refl _ W).grown hg (Nat.le_refl _) (fun k hk => by cases hk)
  have hc1 : w1.cell? ⟨bk, o, none⟩ = some (.string s) := by rw [hB.cell (p := ⟨bk, o, none⟩) hbk]; exact hc
  have hc0 : w1.cell? ((⟨bk, o, none⟩ : Addr).add 0) = some (.string s) := by rw [addr0]; exact hc1
  have hgz : W.heap.size < w1.heap.size := (Array.getElem?_eq_some_iff.1 hH).1
  have HH := Lib.hid hH
  have HL := Lib.hid hL
  clear hH hL hr hg hsz
  generalize hG : W.heap.size = G at *
  have HGG := Lib.hid hG
  clear hG
  go_wp2_with (((refine wpList_copy_splice rfl (.tmp 31) (.tmp 32) 22 22 rfl 9 Try.underlying22 (by rw [hi1]; simp [hi3]) _ _ n n 1 c rfl rfl G 0 L 9 HH.out [.string s] (Nat.min_eq_left h1).symm (fun _ => ⟨rfl, _, rfl, fun j v hv => by cases j with | zero => (simp at hv; subst hv; exact hc0) | succ j => simp at hv⟩) (by rw [HL.out]; simpa using h1) (by intro v hv; simp at hv; subst hv; rfl) G W hB (Nat.le_refl _) ?_)); intro w2 HG2 hB2)
  have hR2 := row_first HL.out h1 HG2
  clear HG2 HH HL hc1 hc0 hgz hB hc hbk hi2 hi4
  go_loopw [8] (fun i wr => ∃ k : Nat, 1 ≤ k ∧ k ≤ n ∧ i = .int .i64 k ∧ Row s G n k 9 wr ∧ Below G W wr) (fun i _ => n - (intOf i).toNat)
  case atStart => exact ⟨1, by omega, by omega, rfl, hR2, hB2⟩
  case round =>
    obtain ⟨k, hk1, hk2, rfl, ⟨rest, hrest, hrow⟩, hBk⟩ := hrel
    have HR := Lib.hid hrow
    have HL2 := Lib.hid hrest
    clear hrow hrest
    by_cases hlt : k < n
    · have A1 := Lib.hid (rep_len s (Nat.min k (n - k)))
      have A2 := Lib.hid (rep_fit s k n rest HL2.out hlt)
      have A3 := Lib.hid (rep_one s (Nat.min k (n - k)))
      have A4 := Lib.hid (src_cells (n := n) HR.out)
      have A5 := Lib.hid (if_k G n k hlt)
      have A6 : Below G W wr.drew := ⟨hBk.os, hBk.tape, hBk.output, hBk.size, hBk.block⟩
      have A7 : Hid (wr.drew.heap[G]? = some (.cells (List.replicate k (Value.string s) ++ rest).toArray 9 (0,0))) := HR
      have hw1 := Lib.hid (wrap_k (Nat.min_le_left k (n - k)) hk2 hn)
      have HL2x := HL2
      clear HR HL2
      generalize hE : List.replicate (Nat.min k (n - k)) (Value.string s) = cs at A1 A2 A3 A4
      have HE := Lib.hid hE
      have HL3 := HL2x
      clear hE
      go_wp2
      go_region_law ((refine step_copy_splice rfl (.tmp 41) (.tmp 44) 22 22 rfl 9 Try.underlying22 (by rw [hi1]; simp [hi3]) (if n = k then some ⟨G, 0, none⟩ else some ⟨G, k, none⟩) (some ⟨G, 0, none⟩) (n - k) (n - k) k n (by go_simp) (by go_simp) G k (List.replicate k (Value.string s) ++ rest) 9 A7.out cs A1.out (fun _ => by exact ⟨if_neg (by omega), _, rfl, A4.out⟩) A2.out A3.out G W A6 (Nat.le_refl _) ?_); intro w4 HG4 hB4)
      have hR4 : Row s G n (k + Nat.min k (n - k)) 9 w4 := row_more HL3.out hlt (by rw [HE.out]; exact HG4)
      have hle := Nat.min_le_left k (n - k)
      have hle2 := Nat.min_le_right k (n - k)
      have hpos : 1 ≤ Nat.min k (n - k) := Nat.le_min.2 ⟨hk1, by omega⟩
      have hcl := A1.out
      rw [hcl]
      rw [hw1.out]
      clear A1 A2 A3 A4 A5 A6 A7 HE HG4 HL3 HL2x hcl hw1 hBk
      go_wp2
      refine ⟨⟨k + min k (n - k), by omega, by omega, by omega, hR4⟩, ?_⟩
      have hpos2 : 1 ≤ min k (n - k) := hpos
      simp [intOf]; omega
    · have hkn : k = n := by omega
      subst hkn
      have hfin : RepsPost s k W (.returned (.slice (some ⟨G, 0, none⟩) k k)) wr := by
        refine ⟨G, 9, rfl, by rw [HGG.out]; exact hBk, by rw [HGG.out]; exact Nat.le_refl _, ?_, ?_⟩
        · exact (Array.getElem?_eq_some_iff.1 HR.out).1
        · have hr0 : rest = [] := List.eq_nil_of_length_eq_zero (by have := HL2.out; omega)
          have := HR.out
          rw [hr0, List.append_nil] at this
          exact this
      clear HR HL2 HGG hBk
      go_wp2
      go_ret
      exact hfin
def repsF (y : argsDen [.one (.list .str), .one (.int .i64)]) : Option (argsDen [.one (.list .str)]) :=
  match y.1 with
  | [x] => if 1 ≤ y.2.1 ∧ y.2.1 ≤ 1000000 then some (List.replicate y.2.1.toNat x, ()) else none
  | _ => none
theorem repAll_rep (x : List UInt8) : ∀ n : Nat, RepAll (fun (x : List UInt8) (u : List Value) => u = [Value.string ⟨x.toArray⟩]) (List.replicate n x) (List.replicate n (Value.string ⟨x.toArray⟩))
  | 0 => rfl
  | n + 1 => ⟨[_], _, rfl, rfl, repAll_rep x n⟩
theorem reps_ok : Sound Try.prog 45 (pfun repsF) := by
  refine ⟨⟨Try.f45, Try.func45, by kernel_rfl, by kernel_rfl⟩, ?_⟩
  intro S args K r hG A w vs hA hcl hrep
  simp only [pfun, Option.bind_eq_some_iff] at hG
  obtain ⟨⟨xs, c, _⟩, hy, z, hz, hK⟩ := hG
  refine ⟨_, hK, encRes_closed _ z, ?_⟩
  have hargs := decArgs_rep hy hrep
  simp only [encArgs, KD.enc] at hargs
  obtain ⟨v1, _, rfl, r1, hargs⟩ := hargs.cons'
  obtain ⟨v2, _, rfl, r2, hargs⟩ := hargs.cons'
  obtain rfl := hargs.nil
  simp only [RepAV, Rep, List.cons.injEq, and_true] at r2
  subst r2
  simp only [RepAV] at r1
  obtain ⟨v, e, a, cap, rfl, hcap, hm⟩ := r1
  simp only [List.cons.injEq, and_true] at e
  subst e
  unfold repsF at hz
  split at hz
  · rename_i x hx
    replace hx : xs = [x] := hx
    subst hx
    split at hz
    · rename_i hc
      cases hz
      have hc1 : (1 : Int) ≤ c := hc.1
      have hc2 : c ≤ 1000000 := hc.2
      obtain ⟨n, rfl⟩ := Int.eq_ofNat_of_zero_le (show (0 : Int) ≤ c by omega)
      rcases hm with hm | ⟨ad, us, rfl, hsp, hAb, hcells, hall⟩
      · cases hm
      · have hus := strs_of hall
        have hc0 := hcells 0 (by rw [hus]; simp)
        rw [hus] at hc0
        have hc0' : w.cell? ⟨ad.block, ad.off, none⟩ = some (Value.string ⟨x.toArray⟩) := by have h0 : w.cell? ⟨ad.block, ad.off + 0, none⟩ = _ := hc0; simpa using h0
        have hn1 : 1 ≤ n := by have h1 : (1 : Int) ≤ (n : Int) := hc1; omega
        have hn2 : n ≤ 1000000 := by have h1 : (n : Int) ≤ 1000000 := hc2; omega
        have h := reps_calls ad.block ad.off cap n ⟨x.toArray⟩ w hc0' (hA _ hAb) hn1 hn2 (by simpa using hcap)
        have ead : (⟨ad.block, ad.off, none⟩ : Addr) = ad := by cases ad; simp_all
        rw [ead] at h
        refine h.mono fun e w' ⟨g, t, he, hb, hg1, hg2, hg3⟩ => ⟨_, he, hb, ?_⟩
        simp only [encRes, encArgs, resVal, KD.enc, RepAV, Rep, Int.toNat_natCast]
        refine ⟨_, rfl, some ⟨g, 0, none⟩, n, by simp, by simp, .inr ⟨⟨g, 0, none⟩, List.replicate n (Value.string ⟨x.toArray⟩), rfl, rfl, .inr ⟨hg1, hg2⟩, ?_, ?_⟩⟩
        · intro j hj
          show w'.cell? ⟨g, 0 + j, none⟩ = _
          rw [Nat.zero_add]
          have h3 : w'.heap[g]? = _ := hg3
          have hj2 : j < n := by simpa using hj
          simp [World.cell?, h3, hj2]
        · exact repAll_rep x n
    · cases hz
  · cases hz
end Go.Pe.Try
