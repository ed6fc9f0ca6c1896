/-
  No cell of these rows narrows 'for every input' (looked for: loops, veiled, ifaces, maps, wideKeys, modest, calm, conditions, laid).
  DERIVED. THE GIVEN ROWS OF THIS SEAT. 4 by the template 'for every input the law returns true; each argument reads behind the call as it read before'; 0 by the template 'total and deterministic' (their statements: YtobcopbplngdaaaTotals.lean).
  GIVEN WITH THE SEED: the statements are not yours to turn. If you find one false, say at which input.
  Laid BY PROGRAM, IN A SANDBOX (cutbox-rows.mjs): the forced cells as the released guide's own fill.sh prints them over the translation ae018a9cbff93f2d… (all of the seat's roots in one cut). By AI agents, Wed Nov 11 2026. No macro, syntax, notation, axiom, sorry.
-/
import Derived.Test.YtobcopbplngdaaaChecked
import GoSem.Claim
import GoSem.ClaimJoined
import GoSem.ClaimMapViews
import Derived.JoinedTies
import Derived.KernelRfl
namespace Go.Proofs.Ytobcopbplngdaaa
/- THE CELL 'sum', in the pinned program and in every row, IS THE sha256 OF THE DUMP (.gsa) THAT YtobcopbplngdaaaProg.lean LOADS. Nothing in Lean hashes anything: it is a label: what it is worth is what the hold of that sum in a sandbox is worth. -/
noncomputable def Try.pinned : Pinned := { name := "ytobcopbplngdaaa", sum := "ae018a9cbff93f2d13ce20c1a3fb3d6bf80bd767c5a0a5bd43ed3cedc2daefcf", checked := Try.checked }
namespace Rows
def none {H : Type} : Left H := { results := [], args := [] }

/-- 'imprimaturlaw19.KvModel': WHATEVER THE INPUT: true; the input reads as it did. -/
def kvModelSpec : ChangeSpec := { name := "kvModel", fn := fun _ => fun
  | [d1, d2] => { results := [.lit (.bool true)], args := [d1, d2] }
  | _ => none }
def kvModelRow : OpenClaim := { program := "ytobcopbplngdaaa", sum := "ae018a9cbff93f2d13ce20c1a3fb3d6bf80bd767c5a0a5bd43ed3cedc2daefcf", func := "imprimatur/imprimaturlaw19.KvModel", spec := "kvModel", inPlace := ["internal/abi.NoEscape", "internal/bytealg.MakeNoZero"], unfollowed := true, recurses := true, apart := false }
def KvModelSaid : Prop := kvModelRow.holds Try.pinned (OpenSpec.ofChange kvModelSpec)

/-- ITS FALSE NEIGHBOUR: 'it returns false'. Refute it at one input. -/
def kvModelWrong : ChangeSpec := { name := "kvModel", fn := fun _ => fun
  | [d1, d2] => { results := [.lit (.bool false)], args := [d1, d2] }
  | _ => none }
def KvModelWrongFalsely : Prop := kvModelRow.holds Try.pinned (OpenSpec.ofChange kvModelWrong)

/-- 'imprimaturlaw19.KvGone': WHATEVER THE INPUT: true; the input reads as it did. -/
def kvGoneSpec : ChangeSpec := { name := "kvGone", fn := fun _ => fun
  | [d1, d2, d3, d4] => { results := [.lit (.bool true)], args := [d1, d2, d3, d4] }
  | _ => none }
def kvGoneRow : OpenClaim := { program := "ytobcopbplngdaaa", sum := "ae018a9cbff93f2d13ce20c1a3fb3d6bf80bd767c5a0a5bd43ed3cedc2daefcf", func := "imprimatur/imprimaturlaw19.KvGone", spec := "kvGone", inPlace := ["internal/abi.NoEscape", "internal/bytealg.MakeNoZero"], unfollowed := true, recurses := true, apart := false }
def KvGoneSaid : Prop := kvGoneRow.holds Try.pinned (OpenSpec.ofChange kvGoneSpec)

/-- ITS FALSE NEIGHBOUR: 'it returns false'. Refute it at one input. -/
def kvGoneWrong : ChangeSpec := { name := "kvGone", fn := fun _ => fun
  | [d1, d2, d3, d4] => { results := [.lit (.bool false)], args := [d1, d2, d3, d4] }
  | _ => none }
def KvGoneWrongFalsely : Prop := kvGoneRow.holds Try.pinned (OpenSpec.ofChange kvGoneWrong)

/-- 'imprimaturlaw19.KvFull': WHATEVER THE INPUT: true; the input reads as it did. -/
def kvFullSpec : ChangeSpec := { name := "kvFull", fn := fun _ => fun
  | [d1, d2] => { results := [.lit (.bool true)], args := [d1, d2] }
  | _ => none }
def kvFullRow : OpenClaim := { program := "ytobcopbplngdaaa", sum := "ae018a9cbff93f2d13ce20c1a3fb3d6bf80bd767c5a0a5bd43ed3cedc2daefcf", func := "imprimatur/imprimaturlaw19.KvFull", spec := "kvFull", inPlace := ["internal/abi.NoEscape", "internal/bytealg.MakeNoZero"], unfollowed := true, recurses := true, apart := false }
def KvFullSaid : Prop := kvFullRow.holds Try.pinned (OpenSpec.ofChange kvFullSpec)

/-- ITS FALSE NEIGHBOUR: 'it returns false'. Refute it at one input. -/
def kvFullWrong : ChangeSpec := { name := "kvFull", fn := fun _ => fun
  | [d1, d2] => { results := [.lit (.bool false)], args := [d1, d2] }
  | _ => none }
def KvFullWrongFalsely : Prop := kvFullRow.holds Try.pinned (OpenSpec.ofChange kvFullWrong)

/-- 'imprimaturlaw19.KvCrashes': WHATEVER THE INPUT: true; the input reads as it did. -/
def kvCrashesSpec : ChangeSpec := { name := "kvCrashes", fn := fun _ => fun
  | [d1, d2, d3, d4, d5] => { results := [.lit (.bool true)], args := [d1, d2, d3, d4, d5] }
  | _ => none }
def kvCrashesRow : OpenClaim := { program := "ytobcopbplngdaaa", sum := "ae018a9cbff93f2d13ce20c1a3fb3d6bf80bd767c5a0a5bd43ed3cedc2daefcf", func := "imprimatur/imprimaturlaw19.KvCrashes", spec := "kvCrashes", inPlace := ["internal/abi.NoEscape", "internal/bytealg.MakeNoZero"], unfollowed := true, recurses := true, apart := false }
def KvCrashesSaid : Prop := kvCrashesRow.holds Try.pinned (OpenSpec.ofChange kvCrashesSpec)

/-- ITS FALSE NEIGHBOUR: 'it returns false'. Refute it at one input. -/
def kvCrashesWrong : ChangeSpec := { name := "kvCrashes", fn := fun _ => fun
  | [d1, d2, d3, d4, d5] => { results := [.lit (.bool false)], args := [d1, d2, d3, d4, d5] }
  | _ => none }
def KvCrashesWrongFalsely : Prop := kvCrashesRow.holds Try.pinned (OpenSpec.ofChange kvCrashesWrong)

/- THE SECOND FORM. 'bulk': how many values and letters a reading holds, each counted each time it is reached (what is shared counts as often as it is met; a slice's spare places count too). A statement '..UptoSaid' is the law's where the arguments, and the package variables that the reading takes, are together of bulk at most 1048576: NARROWER than '..Said'. Prove '..Said' where nothing that the law and all that it calls make is longer than what came in: it says more and counts as full. Else prove '..UptoSaid'. A law counts once. -/
mutual
def uptoBulk {H : Type} : DataW H → Nat
  | .lit (.string bytes) => bytes.length + 1
  | .lit _ => 1
  | .nil => 1
  | .ptr d => uptoBulk d + 1
  | .slice elems spare => uptoBulkAll elems + uptoBulkAll spare + 1
  | .agg parts => uptoBulkAll parts + 1
  | .iface _ d => uptoBulk d + 1
  | .map entries => uptoBulkEntries entries + 1
  | .held _ => 1
def uptoBulkAll {H : Type} : List (DataW H) → Nat
  | [] => 0
  | d :: r => uptoBulk d + uptoBulkAll r
def uptoBulkEntries {H : Type} : List (Lit × DataW H) → Nat
  | [] => 0
  | x :: r => uptoBulkEntry x + uptoBulkEntries r
def uptoBulkEntry {H : Type} : Lit × DataW H → Nat
  | (.string bytes, d) => bytes.length + uptoBulk d + 1
  | (_, d) => uptoBulk d + 1
 end
def uptoSmall : (H : Type) → List (DataW H) → Bool := fun _ ds => decide (uptoBulkAll ds ≤ 1048576)
def OpenSpec.upto (s : _root_.Go.ChangeSpec) : _root_.Go.OpenSpec := { _root_.Go.OpenSpec.ofChange s with cond := some uptoSmall }

/-- 'imprimaturlaw19.KvModel', WHERE WHAT IT READS IS OF BULK AT MOST 1048576: true; the input reads as it did. -/
def kvModelUptoRow : OpenClaim := { program := "ytobcopbplngdaaa", sum := "ae018a9cbff93f2d13ce20c1a3fb3d6bf80bd767c5a0a5bd43ed3cedc2daefcf", func := "imprimatur/imprimaturlaw19.KvModel", spec := "kvModel", inPlace := ["internal/abi.NoEscape", "internal/bytealg.MakeNoZero"], unfollowed := true, recurses := true, apart := false, narrowed := true }
def KvModelUptoSaid : Prop := kvModelUptoRow.holds Try.pinned (OpenSpec.upto kvModelSpec)

/-- 'imprimaturlaw19.KvGone', WHERE WHAT IT READS IS OF BULK AT MOST 1048576: true; the input reads as it did. -/
def kvGoneUptoRow : OpenClaim := { program := "ytobcopbplngdaaa", sum := "ae018a9cbff93f2d13ce20c1a3fb3d6bf80bd767c5a0a5bd43ed3cedc2daefcf", func := "imprimatur/imprimaturlaw19.KvGone", spec := "kvGone", inPlace := ["internal/abi.NoEscape", "internal/bytealg.MakeNoZero"], unfollowed := true, recurses := true, apart := false, narrowed := true }
def KvGoneUptoSaid : Prop := kvGoneUptoRow.holds Try.pinned (OpenSpec.upto kvGoneSpec)

/-- 'imprimaturlaw19.KvFull', WHERE WHAT IT READS IS OF BULK AT MOST 1048576: true; the input reads as it did. -/
def kvFullUptoRow : OpenClaim := { program := "ytobcopbplngdaaa", sum := "ae018a9cbff93f2d13ce20c1a3fb3d6bf80bd767c5a0a5bd43ed3cedc2daefcf", func := "imprimatur/imprimaturlaw19.KvFull", spec := "kvFull", inPlace := ["internal/abi.NoEscape", "internal/bytealg.MakeNoZero"], unfollowed := true, recurses := true, apart := false, narrowed := true }
def KvFullUptoSaid : Prop := kvFullUptoRow.holds Try.pinned (OpenSpec.upto kvFullSpec)

/-- 'imprimaturlaw19.KvCrashes', WHERE WHAT IT READS IS OF BULK AT MOST 1048576: true; the input reads as it did. -/
def kvCrashesUptoRow : OpenClaim := { program := "ytobcopbplngdaaa", sum := "ae018a9cbff93f2d13ce20c1a3fb3d6bf80bd767c5a0a5bd43ed3cedc2daefcf", func := "imprimatur/imprimaturlaw19.KvCrashes", spec := "kvCrashes", inPlace := ["internal/abi.NoEscape", "internal/bytealg.MakeNoZero"], unfollowed := true, recurses := true, apart := false, narrowed := true }
def KvCrashesUptoSaid : Prop := kvCrashesUptoRow.holds Try.pinned (OpenSpec.upto kvCrashesSpec)

end Rows
end Go.Proofs.Ytobcopbplngdaaa
