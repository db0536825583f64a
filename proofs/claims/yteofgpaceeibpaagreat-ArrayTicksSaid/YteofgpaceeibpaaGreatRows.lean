/-
  No cell of these rows narrows 'for every input' (looked for: loops, veiled, ifaces, maps, wideKeys, modest, calm, conditions, laid).
  DERIVED. THE GIVEN ROWS OF THIS SEAT. 4 by the template 'for every input the law returns true; each argument reads behind the call as it read before'; 0 by the template 'total and deterministic' (their statements: YteofgpaceeibpaaGreatTotals.lean).
  GIVEN WITH THE SEED: the statements are not yours to turn. If you find one false, say at which input.
  Laid BY PROGRAM, IN A SANDBOX (cutbox-rows.mjs): the forced cells as the released guide's own fill.sh prints them over the translation 2ffa812a6b5bc9a2… (all of the seat's roots in one cut). By AI agents, Wed Nov 11 2026. No macro, syntax, notation, axiom, sorry.
-/
import Derived.Test.YteofgpaceeibpaaGreatChecked
import GoSem.Claim
import GoSem.ClaimJoined
import GoSem.ClaimMapViews
import Derived.JoinedTies
import Derived.KernelRfl
namespace Go.Proofs.YteofgpaceeibpaaGreat
/- THE CELL 'sum', in the pinned program and in every row, IS THE sha256 OF THE DUMP (.gsa) THAT YteofgpaceeibpaaGreatProg.lean LOADS. Nothing in Lean hashes anything: it is a label: what it is worth is what the hold of that sum in a sandbox is worth. -/
noncomputable def Tryz.pinned : Pinned := { name := "yteofgpaceeibpaagreat", sum := "2ffa812a6b5bc9a225b97aac54cff236e17d247726194591596b767700b2aa23", checked := Tryz.checked }
namespace Rows
def none {H : Type} : Left H := { results := [], args := [] }

/-- 'gabionlaw13.ArrayFresh': WHATEVER THE INPUT: true; the input reads as it did. -/
def arrayFreshSpec : ChangeSpec := { name := "arrayFresh", fn := fun _ => fun
  | [d1, d2, d3] => { results := [.lit (.bool true)], args := [d1, d2, d3] }
  | _ => none }
def arrayFreshRow : OpenClaim := { program := "yteofgpaceeibpaagreat", sum := "2ffa812a6b5bc9a225b97aac54cff236e17d247726194591596b767700b2aa23", func := "gabion/gabionlaw13.ArrayFresh", spec := "arrayFresh", unfollowed := true, recurses := true, apart := false }
def ArrayFreshSaid : Prop := arrayFreshRow.holds Tryz.pinned (OpenSpec.ofChange arrayFreshSpec)

/-- ITS FALSE NEIGHBOUR: 'it returns false'. Refute it at one input. -/
def arrayFreshWrong : ChangeSpec := { name := "arrayFresh", fn := fun _ => fun
  | [d1, d2, d3] => { results := [.lit (.bool false)], args := [d1, d2, d3] }
  | _ => none }
def ArrayFreshWrongFalsely : Prop := arrayFreshRow.holds Tryz.pinned (OpenSpec.ofChange arrayFreshWrong)

/-- 'gabionlaw13.ArrayDies': WHATEVER THE INPUT: true; the input reads as it did. -/
def arrayDiesSpec : ChangeSpec := { name := "arrayDies", fn := fun _ => fun
  | [d] => { results := [.lit (.bool true)], args := [d] }
  | _ => none }
def arrayDiesRow : OpenClaim := { program := "yteofgpaceeibpaagreat", sum := "2ffa812a6b5bc9a225b97aac54cff236e17d247726194591596b767700b2aa23", func := "gabion/gabionlaw13.ArrayDies", spec := "arrayDies", unfollowed := true, recurses := true, apart := false }
def ArrayDiesSaid : Prop := arrayDiesRow.holds Tryz.pinned (OpenSpec.ofChange arrayDiesSpec)

/-- ITS FALSE NEIGHBOUR: 'it returns false'. Refute it at one input. -/
def arrayDiesWrong : ChangeSpec := { name := "arrayDies", fn := fun _ => fun
  | [d] => { results := [.lit (.bool false)], args := [d] }
  | _ => none }
def ArrayDiesWrongFalsely : Prop := arrayDiesRow.holds Tryz.pinned (OpenSpec.ofChange arrayDiesWrong)

/-- 'gabionlaw13.ArrayTicks': WHATEVER THE INPUT: true; the input reads as it did. -/
def arrayTicksSpec : ChangeSpec := { name := "arrayTicks", fn := fun _ => fun
  | [d] => { results := [.lit (.bool true)], args := [d] }
  | _ => none }
def arrayTicksRow : OpenClaim := { program := "yteofgpaceeibpaagreat", sum := "2ffa812a6b5bc9a225b97aac54cff236e17d247726194591596b767700b2aa23", func := "gabion/gabionlaw13.ArrayTicks", spec := "arrayTicks", unfollowed := true, recurses := true, apart := false }
def ArrayTicksSaid : Prop := arrayTicksRow.holds Tryz.pinned (OpenSpec.ofChange arrayTicksSpec)

/-- ITS FALSE NEIGHBOUR: 'it returns false'. Refute it at one input. -/
def arrayTicksWrong : ChangeSpec := { name := "arrayTicks", fn := fun _ => fun
  | [d] => { results := [.lit (.bool false)], args := [d] }
  | _ => none }
def ArrayTicksWrongFalsely : Prop := arrayTicksRow.holds Tryz.pinned (OpenSpec.ofChange arrayTicksWrong)

/-- 'gabionlaw13.ArrayCrashes': WHATEVER THE INPUT: true; the input reads as it did. -/
def arrayCrashesSpec : ChangeSpec := { name := "arrayCrashes", fn := fun _ => fun
  | [d] => { results := [.lit (.bool true)], args := [d] }
  | _ => none }
def arrayCrashesRow : OpenClaim := { program := "yteofgpaceeibpaagreat", sum := "2ffa812a6b5bc9a225b97aac54cff236e17d247726194591596b767700b2aa23", func := "gabion/gabionlaw13.ArrayCrashes", spec := "arrayCrashes", unfollowed := true, recurses := true, apart := false }
def ArrayCrashesSaid : Prop := arrayCrashesRow.holds Tryz.pinned (OpenSpec.ofChange arrayCrashesSpec)

/-- ITS FALSE NEIGHBOUR: 'it returns false'. Refute it at one input. -/
def arrayCrashesWrong : ChangeSpec := { name := "arrayCrashes", fn := fun _ => fun
  | [d] => { results := [.lit (.bool false)], args := [d] }
  | _ => none }
def ArrayCrashesWrongFalsely : Prop := arrayCrashesRow.holds Tryz.pinned (OpenSpec.ofChange arrayCrashesWrong)

/- THE SECOND FORM. 'bulk': how many values and letters a reading holds, each counted each time it is reached (what is shared counts as often as it is met; a slice's spare places count too). A statement '..UptoSaid' is the law's where the arguments, and the package variables that the reading takes, are together of bulk at most 1048576: NARROWER than '..Said'. Prove '..Said' where nothing that the law and all that it calls make is longer than what came in: it says more and counts as full. Else prove '..UptoSaid'. A law counts once. -/
mutual
def uptoBulk {H : Type} : DataW H → Nat
  | .lit (.string bytes) => bytes.length + 1
  | .lit _ => 1
  | .nil => 1
  | .ptr d => uptoBulk d + 1
  | .slice elems spare => uptoBulkAll elems + uptoBulkAll spare + 1
  | .agg parts => uptoBulkAll parts + 1
  | .iface _ d => uptoBulk d + 1
  | .map entries => uptoBulkEntries entries + 1
  | .held _ => 1
def uptoBulkAll {H : Type} : List (DataW H) → Nat
  | [] => 0
  | d :: r => uptoBulk d + uptoBulkAll r
def uptoBulkEntries {H : Type} : List (Lit × DataW H) → Nat
  | [] => 0
  | x :: r => uptoBulkEntry x + uptoBulkEntries r
def uptoBulkEntry {H : Type} : Lit × DataW H → Nat
  | (.string bytes, d) => bytes.length + uptoBulk d + 1
  | (_, d) => uptoBulk d + 1
 end
def uptoSmall : (H : Type) → List (DataW H) → Bool := fun _ ds => decide (uptoBulkAll ds ≤ 1048576)
def OpenSpec.upto (s : _root_.Go.ChangeSpec) : _root_.Go.OpenSpec := { _root_.Go.OpenSpec.ofChange s with cond := some uptoSmall }

/-- 'gabionlaw13.ArrayFresh', WHERE WHAT IT READS IS OF BULK AT MOST 1048576: true; the input reads as it did. -/
def arrayFreshUptoRow : OpenClaim := { program := "yteofgpaceeibpaagreat", sum := "2ffa812a6b5bc9a225b97aac54cff236e17d247726194591596b767700b2aa23", func := "gabion/gabionlaw13.ArrayFresh", spec := "arrayFresh", unfollowed := true, recurses := true, apart := false, narrowed := true }
def ArrayFreshUptoSaid : Prop := arrayFreshUptoRow.holds Tryz.pinned (OpenSpec.upto arrayFreshSpec)

/-- 'gabionlaw13.ArrayDies', WHERE WHAT IT READS IS OF BULK AT MOST 1048576: true; the input reads as it did. -/
def arrayDiesUptoRow : OpenClaim := { program := "yteofgpaceeibpaagreat", sum := "2ffa812a6b5bc9a225b97aac54cff236e17d247726194591596b767700b2aa23", func := "gabion/gabionlaw13.ArrayDies", spec := "arrayDies", unfollowed := true, recurses := true, apart := false, narrowed := true }
def ArrayDiesUptoSaid : Prop := arrayDiesUptoRow.holds Tryz.pinned (OpenSpec.upto arrayDiesSpec)

/-- 'gabionlaw13.ArrayTicks', WHERE WHAT IT READS IS OF BULK AT MOST 1048576: true; the input reads as it did. -/
def arrayTicksUptoRow : OpenClaim := { program := "yteofgpaceeibpaagreat", sum := "2ffa812a6b5bc9a225b97aac54cff236e17d247726194591596b767700b2aa23", func := "gabion/gabionlaw13.ArrayTicks", spec := "arrayTicks", unfollowed := true, recurses := true, apart := false, narrowed := true }
def ArrayTicksUptoSaid : Prop := arrayTicksUptoRow.holds Tryz.pinned (OpenSpec.upto arrayTicksSpec)

/-- 'gabionlaw13.ArrayCrashes', WHERE WHAT IT READS IS OF BULK AT MOST 1048576: true; the input reads as it did. -/
def arrayCrashesUptoRow : OpenClaim := { program := "yteofgpaceeibpaagreat", sum := "2ffa812a6b5bc9a225b97aac54cff236e17d247726194591596b767700b2aa23", func := "gabion/gabionlaw13.ArrayCrashes", spec := "arrayCrashes", unfollowed := true, recurses := true, apart := false, narrowed := true }
def ArrayCrashesUptoSaid : Prop := arrayCrashesUptoRow.holds Tryz.pinned (OpenSpec.upto arrayCrashesSpec)

end Rows
end Go.Proofs.YteofgpaceeibpaaGreat
