/- The evaluator hands on what it finds: to whomever. -/
import Derived.Test.YtgghmllnhaahgaaPeEv
namespace Go.Pe
open Go.RowKit
set_option linter.unusedSimpArgs false
set_option linter.unusedVariables false

def PFun.Uni (G : PFun) : Prop := ∀ (S : Type) (args : List AV) (K : AV → Option S), G args K = (G args some).bind K

theorem PFun.Uni.two {G : PFun} (hG : PFun.Uni @G) {S β : Type} (as : List AV) (g : AV → Option β) (K : β → Option S) (f : AV → Option S) (hf : ∀ v, f v = (g v).bind K) : @G S as f = (@G β as g).bind K := by
  have e : f = fun v => (g v).bind K := funext hf
  subst e
  have h1 := hG S as (fun v => (g v).bind K)
  have h2 := hG β as g
  exact h1.trans (by rw [show @G β as g = _ from h2, Option.bind_assoc])
section
variable {S : Type}
theorem evInt_nat (op : BinOp) (k : IntKind) (a b : Int) (K : AV → Option S) : evInt op k a b K = (evInt op k a b some).bind K := by
  cases op <;> simp only [evInt, Option.bind_some, Option.bind_none] <;> split <;> rfl
theorem evStr_nat (op : BinOp) (a b : List UInt8) (K : AV → Option S) : evStr op a b K = (evStr op a b some).bind K := by
  cases op <;> simp only [evStr, Option.bind_some, Option.bind_none] <;> split <;> rfl
theorem evBool_nat (op : BinOp) (a b : Bool) (K : AV → Option S) : evBool op a b K = (evBool op a b some).bind K := by
  cases op <;> simp only [evBool, Option.bind_some, Option.bind_none]
theorem evBin_nat (ε : Env) (op : BinOp) (t : Nat) (x y : AV) (K : AV → Option S) : evBin ε op t x y K = (evBin ε op t x y some).bind K := by
  unfold evBin
  split
  · split
    · split <;> rfl
    · split <;> rfl
    · split
      · exact evInt_nat ..
      · rfl
  · exact evStr_nat ..
  · split
    · cases op <;> first | rfl | (simp only [Option.bind_assoc]; rfl)
    · rfl
  · split
    · exact evBool_nat ..
    · rfl
  · rfl
theorem evUn_nat (op : UnOp) (x : AV) (K : AV → Option S) : evUn op x K = (evUn op x some).bind K := by
  unfold evUn; split <;> rfl
theorem cutLo_nat {α : Type} (l : List α) (a : Int) (K : List α → Option S) : cutLo l a K = (cutLo l a some).bind K := by unfold cutLo; split <;> rfl
theorem cutHi_nat {α : Type} (l : List α) (a : Int) (K : List α → Option S) : cutHi l a K = (cutHi l a some).bind K := by unfold cutHi; split <;> rfl
theorem cutMid_nat {α : Type} (l : List α) (a b : Int) (K : List α → Option S) : cutMid l a b K = (cutMid l a b some).bind K := by unfold cutMid; split <;> rfl
theorem cut_nat {α : Type} (l : List α) (lo hi : Option AV) (K : List α → Option S) : cut l lo hi K = (cut l lo hi some).bind K := by
  unfold cut; split
  · rfl
  · exact cutLo_nat ..
  · exact cutHi_nat ..
  · exact cutMid_nat ..
  · rfl
theorem cut_nat' {α β : Type} (l : List α) (lo hi : Option AV) (g : List α → β) (K : β → Option S) : (cut l lo hi fun r => K (g r)) = (cut l lo hi fun r => some (g r)).bind K := by
  rw [cut_nat, cut_nat (K := fun r => some (g r)), Option.bind_assoc]; rfl
theorem sameInt_nat {α : Type} (a b : Int) (x : Option α) (K : α → Option S) : sameInt a b (x.bind K) = (sameInt a b x).bind K := by unfold sameInt; split <;> rfl
theorem within_nat {α : Type} (n : Int) (len : Nat) (x : Option α) (K : α → Option S) : within n len (x.bind K) = (within n len x).bind K := by unfold within; split <;> rfl
theorem appOk_nat {α : Type} (n : Nat) (x : Option α) (K : α → Option S) : appOk n (x.bind K) = (appOk n x).bind K := by unfold appOk; split <;> rfl
theorem makeOk_nat {α : Type} (n c : Int) (x : Option α) (K : α → Option S) : makeOk n c (x.bind K) = (makeOk n c x).bind K := by unfold makeOk; split <;> rfl

variable (ε : Env)
theorem evConv_nat (lsts) (src dst : Nat) (x : AV) (K : AV → Option S) : evConv ε lsts src dst x K = (evConv ε lsts src dst x some).bind K := by
  unfold evConv
  split
  · split
    · rfl
    · rfl
    · split
      · rw [Option.bind_assoc]; rfl
      · rfl
    · split <;> rfl
    · rfl
  · rfl
theorem evLen_nat (t : Nat) (lsts) (x : AV) (K : AV → Option S) : evLen ε t lsts x K = (evLen ε t lsts x some).bind K := by
  unfold evLen
  split
  · split <;> rfl
  · split <;> rfl
  · split <;> rfl
  · split <;> rfl
  · split
    · split <;> rfl
    · rfl
theorem evSlice_nat (t : Nat) (x : AV) (lo hi mx : Option AV) (K : AV → Option S) : evSlice ε t x lo hi mx K = (evSlice ε t x lo hi mx some).bind K := by
  unfold evSlice
  split
  · split
    · exact cut_nat' ..
    · rfl
  · split
    · exact cut_nat' ..
    · rfl
  · split
    · exact cut_nat' ..
    · rfl
  · split
    · split
      · rw [← sameInt_nat]; exact congrArg _ (cut_nat' ..)
      · rfl
    · rfl
  · split
    · split
      · rw [← sameInt_nat]; exact congrArg _ (cut_nat' ..)
      · rfl
    · rfl
  · split
    · split
      · rw [← sameInt_nat]; rfl
      · rfl
    · rfl
  · rfl
theorem evField_nat (t : Nat) (x : AV) (f : Nat) (K : AV → Option S) : evField ε t x f K = (evField ε t x f some).bind K := by
  unfold evField; split
  · rw [Option.bind_assoc]; rfl
  · rfl
theorem evFieldAddr_nat (st : St) (t : Nat) (x : AV) (f : Nat) (K : AV → Option S) : evFieldAddr ε st t x f K = (evFieldAddr ε st t x f some).bind K := by
  unfold evFieldAddr; split
  · split
    · rfl
    · split
      · split <;> rfl
      · split <;> rfl
      · split <;> rfl
      · rfl
      · rfl
  · rfl
theorem evIndex_nat (t : Nat) (x i : AV) (K : AV → Option S) : evIndex ε t x i K = (evIndex ε t x i some).bind K := by
  unfold evIndex; split
  · split
    · rw [Option.bind_assoc]; rfl
    · rfl
  · rfl
theorem evIndexAddr_nat (t : Nat) (lsts) (x i : AV) (K : AV → Option S) : evIndexAddr ε t lsts x i K = (evIndexAddr ε t lsts x i some).bind K := by
  unfold evIndexAddr; split
  · split
    · split
      · rw [← within_nat]; rfl
      · rfl
    · rfl
  · split
    · rw [Option.bind_assoc]; rfl
    · rfl
  · split
    · rw [Option.bind_assoc]; rfl
    · rfl
  · split
    · rw [← sameInt_nat]; rfl
    · rfl
  · rfl
theorem evLoad_nat (st : St) (t : Nat) (a : AV) (K : AV → Option S) : evLoad ε st t a K = (evLoad ε st t a some).bind K := by
  unfold evLoad; split
  · rfl
  · split
    · split
      · rw [Option.bind_assoc]; rfl
      · rfl
    · rw [Option.bind_assoc]; rfl
    · split
      · rw [Option.bind_assoc]; congr; funext y; rw [Option.bind_assoc]; rfl
      · rfl
    · split
      · rw [Option.bind_assoc]; rfl
      · rfl
    · rfl
theorem evBuild_nat (t : Nat) (parts : List (Nat × AV)) (K : AV → Option S) : evBuild ε t parts K = (evBuild ε t parts some).bind K := by
  unfold evBuild; split
  · split
    · split
      · rfl
      · rw [Option.bind_assoc]; rfl
    · split
      · rw [Option.bind_assoc]; rfl
      · rfl
    · rfl
  · rfl
theorem evMin_nat (x y : AV) (K : AV → Option S) : evMin x y K = (evMin x y some).bind K := by unfold evMin; split <;> rfl
theorem evMax_nat (x y : AV) (K : AV → Option S) : evMax x y K = (evMax x y some).bind K := by unfold evMax; split <;> rfl

/-- Both, as one. -/
def two : AV → St → Option (AV × St) := fun v st => some (v, st)
def un2 (K : AV → St → Option S) : AV × St → Option S := fun q => K q.1 q.2
theorem evStore_nat (st : St) (t : Nat) (a v : Operand) (K : St → Option S) : evStore ε st t a v K = (evStore ε st t a v some).bind K := by
  unfold evStore; split
  · rfl
  · split
    · split
      · split
        · split <;> rfl
        · rfl
      · rfl
    · dsimp only
      split
      · split
        · split
          · rw [Option.bind_assoc]; congr; funext y
            split
            · rw [Option.bind_assoc]; congr; funext z; split <;> rfl
            · rfl
          · rfl
        · rfl
      · rfl
    · split
      · split
        · split <;> rfl
        · rfl
      · rfl
    · rfl
theorem evAppend_nat (st : St) (sT xT : Nat) (s x : AV) (K : AV → St → Option S) : evAppend ε st sT xT s x K = (evAppend ε st sT xT s x two).bind (un2 K) := by
  unfold evAppend; split
  · split
    · rw [Option.bind_assoc]; congr; funext y; rw [← appOk_nat]; rfl
    · rfl
  · split
    · rw [Option.bind_assoc]; congr; funext y; rw [← appOk_nat]; rfl
    · rfl
  · split
    · split
      · rw [Option.bind_assoc]; congr; funext y; rw [← appOk_nat]; rfl
      · rfl
    · rfl
  · split
    · rw [Option.bind_assoc]; congr; funext y; rw [Option.bind_assoc]; congr; funext z; rw [← appOk_nat]; rfl
    · rfl
  · rfl
theorem evMake_nat (st : St) (t : Nat) (len cap : AV) (K : AV → St → Option S) : evMake ε st t len cap K = (evMake ε st t len cap two).bind (un2 K) := by
  unfold evMake; split
  · rfl
  · split
    · split
      · split
        · rw [← makeOk_nat]; rfl
        · rfl
      · rfl
    · rfl
theorem evBuildSlice_nat (st : St) (own : Bool) (t len : Nat) (parts : List (Nat × Operand)) (K : AV → St → Option S) : evBuildSlice ε st own t len parts K = (evBuildSlice ε st own t len parts two).bind (un2 K) := by
  unfold evBuildSlice; split
  · split
    · split
      · rfl
      · dsimp only; rw [Option.bind_assoc]; cases own <;> rfl
    · rfl
  · rfl
theorem evHand_nat (h : HF) (ρ lm : List Nat) (sm : SM) (st : St) (args : List AV) (K : AV → St → Option S) : evHand h ρ lm sm st args K = (evHand h ρ lm sm st args two).bind (un2 K) := by
  unfold evHand; split
  · rfl
  · rw [Option.bind_assoc]; congr; funext y; rw [Option.bind_assoc]; rfl
theorem evHands_nat (st : St) (args : St → Option (List AV)) (K : AV → St → Option S) : ∀ l : List HF, evHands st args K l = (evHands st args two l).bind (un2 K)
  | [] => rfl
  | h :: r => by
    unfold evHands; split
    · rw [Option.bind_assoc]; congr; funext l; exact evHand_nat ..
    · exact evHands_nat st args K r
theorem evCall_nat (hu : ∀ f G sc, ε.fn f = some (G, sc) → G.Uni) (st : St) (f : Nat) (args : List Operand) (pre post : List AV) (K : AV → St → Option S) : evCall ε st f args pre post K = (evCall ε st f args pre post two).bind (un2 K) := by
  unfold evCall; split
  · rfl
  · rename_i G sc h
    have hG := hu f G sc h
    split
    · rw [Option.bind_assoc]; congr; funext as
      exact PFun.Uni.two hG as (fun v => if v.scalar = true then two v st else none) (un2 K) _ fun v => by split <;> rfl
    · dsimp only
      split
      · exact PFun.Uni.two hG _ (fun v => two v _) (un2 K) _ fun v => rfl
      · rfl
end
end Go.Pe
