/-
  No cell of these rows narrows 'for every input' (looked for: loops, veiled, ifaces, maps, wideKeys, modest, calm, conditions, laid).
  DERIVED. THE GIVEN ROWS OF THIS SEAT. 9 by the template 'for every input the law returns true; each argument reads behind the call as it read before'; 0 by the template 'total and deterministic' (their statements: YtlhgbamajabnfaaTotals.lean).
  GIVEN WITH THE SEED: the statements are not yours to turn. If you find one false, say at which input.
  Laid BY PROGRAM, IN A SANDBOX (cutbox-rows.mjs): the forced cells as the released guide's own fill.sh prints them over the translation ff2c83f28cab971b… (all of the seat's roots in one cut). By AI agents, Wed Nov 11 2026. No macro, syntax, notation, axiom, sorry.
-/
import Derived.Test.YtlhgbamajabnfaaChecked
import GoSem.Claim
import GoSem.ClaimJoined
import GoSem.ClaimMapViews
import Derived.JoinedTies
import Derived.KernelRfl
namespace Go.Proofs.Ytlhgbamajabnfaa
/- THE CELL 'sum', in the pinned program and in every row, IS THE sha256 OF THE DUMP (.gsa) THAT YtlhgbamajabnfaaProg.lean LOADS. Nothing in Lean hashes anything: it is a label: what it is worth is what the hold of that sum in a sandbox is worth. -/
noncomputable def Try.pinned : Pinned := { name := "ytlhgbamajabnfaa", sum := "ff2c83f28cab971bec910d9034e9d7059bd6c66706bf578c6861541a4295c4b4", checked := Try.checked }
namespace Rows
def none {H : Type} : Left H := { results := [], args := [] }

/-- 'gabionlaw10.StripeWrites': WHATEVER THE INPUT: true; the input reads as it did. -/
def stripeWritesSpec : ChangeSpec := { name := "stripeWrites", fn := fun _ => fun
  | [d] => { results := [.lit (.bool true)], args := [d] }
  | _ => none }
def stripeWritesRow : OpenClaim := { program := "ytlhgbamajabnfaa", sum := "ff2c83f28cab971bec910d9034e9d7059bd6c66706bf578c6861541a4295c4b4", func := "gabion/gabionlaw10.StripeWrites", spec := "stripeWrites", unfollowed := true, recurses := true, plainKeys := false, apart := false }
def StripeWritesSaid : Prop := stripeWritesRow.holds Try.pinned (OpenSpec.ofChange stripeWritesSpec)

/-- ITS FALSE NEIGHBOUR: 'it returns false'. Refute it at one input. -/
def stripeWritesWrong : ChangeSpec := { name := "stripeWrites", fn := fun _ => fun
  | [d] => { results := [.lit (.bool false)], args := [d] }
  | _ => none }
def StripeWritesWrongFalsely : Prop := stripeWritesRow.holds Try.pinned (OpenSpec.ofChange stripeWritesWrong)

/-- 'gabionlaw10.StripeReads': WHATEVER THE INPUT: true; the input reads as it did. -/
def stripeReadsSpec : ChangeSpec := { name := "stripeReads", fn := fun _ => fun
  | [d] => { results := [.lit (.bool true)], args := [d] }
  | _ => none }
def stripeReadsRow : OpenClaim := { program := "ytlhgbamajabnfaa", sum := "ff2c83f28cab971bec910d9034e9d7059bd6c66706bf578c6861541a4295c4b4", func := "gabion/gabionlaw10.StripeReads", spec := "stripeReads", unfollowed := true, recurses := true, plainKeys := false, apart := false }
def StripeReadsSaid : Prop := stripeReadsRow.holds Try.pinned (OpenSpec.ofChange stripeReadsSpec)

/-- ITS FALSE NEIGHBOUR: 'it returns false'. Refute it at one input. -/
def stripeReadsWrong : ChangeSpec := { name := "stripeReads", fn := fun _ => fun
  | [d] => { results := [.lit (.bool false)], args := [d] }
  | _ => none }
def StripeReadsWrongFalsely : Prop := stripeReadsRow.holds Try.pinned (OpenSpec.ofChange stripeReadsWrong)

/-- 'gabionlaw10.StripeMany': WHATEVER THE INPUT: true; the input reads as it did. -/
def stripeManySpec : ChangeSpec := { name := "stripeMany", fn := fun _ => fun
  | [d1, d2] => { results := [.lit (.bool true)], args := [d1, d2] }
  | _ => none }
def stripeManyRow : OpenClaim := { program := "ytlhgbamajabnfaa", sum := "ff2c83f28cab971bec910d9034e9d7059bd6c66706bf578c6861541a4295c4b4", func := "gabion/gabionlaw10.StripeMany", spec := "stripeMany", unfollowed := true, recurses := true, plainKeys := false, apart := false }
def StripeManySaid : Prop := stripeManyRow.holds Try.pinned (OpenSpec.ofChange stripeManySpec)

/-- ITS FALSE NEIGHBOUR: 'it returns false'. Refute it at one input. -/
def stripeManyWrong : ChangeSpec := { name := "stripeMany", fn := fun _ => fun
  | [d1, d2] => { results := [.lit (.bool false)], args := [d1, d2] }
  | _ => none }
def StripeManyWrongFalsely : Prop := stripeManyRow.holds Try.pinned (OpenSpec.ofChange stripeManyWrong)

/-- 'gabionlaw14.PointCodes': WHATEVER THE INPUT: true; the input reads as it did. -/
def pointCodesSpec : ChangeSpec := { name := "pointCodes", fn := fun _ => fun
  | [d1, d2] => { results := [.lit (.bool true)], args := [d1, d2] }
  | _ => none }
def pointCodesRow : OpenClaim := { program := "ytlhgbamajabnfaa", sum := "ff2c83f28cab971bec910d9034e9d7059bd6c66706bf578c6861541a4295c4b4", func := "gabion/gabionlaw14.PointCodes", spec := "pointCodes", unfollowed := true, recurses := true, plainKeys := false, apart := false }
def PointCodesSaid : Prop := pointCodesRow.holds Try.pinned (OpenSpec.ofChange pointCodesSpec)

/-- ITS FALSE NEIGHBOUR: 'it returns false'. Refute it at one input. -/
def pointCodesWrong : ChangeSpec := { name := "pointCodes", fn := fun _ => fun
  | [d1, d2] => { results := [.lit (.bool false)], args := [d1, d2] }
  | _ => none }
def PointCodesWrongFalsely : Prop := pointCodesRow.holds Try.pinned (OpenSpec.ofChange pointCodesWrong)

/-- 'gabionlaw14.PointDecodes': WHATEVER THE INPUT: true; the input reads as it did. -/
def pointDecodesSpec : ChangeSpec := { name := "pointDecodes", fn := fun _ => fun
  | [d1, d2, d3] => { results := [.lit (.bool true)], args := [d1, d2, d3] }
  | _ => none }
def pointDecodesRow : OpenClaim := { program := "ytlhgbamajabnfaa", sum := "ff2c83f28cab971bec910d9034e9d7059bd6c66706bf578c6861541a4295c4b4", func := "gabion/gabionlaw14.PointDecodes", spec := "pointDecodes", unfollowed := true, recurses := true, plainKeys := false, apart := false }
def PointDecodesSaid : Prop := pointDecodesRow.holds Try.pinned (OpenSpec.ofChange pointDecodesSpec)

/-- ITS FALSE NEIGHBOUR: 'it returns false'. Refute it at one input. -/
def pointDecodesWrong : ChangeSpec := { name := "pointDecodes", fn := fun _ => fun
  | [d1, d2, d3] => { results := [.lit (.bool false)], args := [d1, d2, d3] }
  | _ => none }
def PointDecodesWrongFalsely : Prop := pointDecodesRow.holds Try.pinned (OpenSpec.ofChange pointDecodesWrong)

/-- 'gabionlaw14.PointWrites': WHATEVER THE INPUT: true; the input reads as it did. -/
def pointWritesSpec : ChangeSpec := { name := "pointWrites", fn := fun _ => fun
  | [d1, d2, d3] => { results := [.lit (.bool true)], args := [d1, d2, d3] }
  | _ => none }
def pointWritesRow : OpenClaim := { program := "ytlhgbamajabnfaa", sum := "ff2c83f28cab971bec910d9034e9d7059bd6c66706bf578c6861541a4295c4b4", func := "gabion/gabionlaw14.PointWrites", spec := "pointWrites", unfollowed := true, recurses := true, plainKeys := false, apart := false }
def PointWritesSaid : Prop := pointWritesRow.holds Try.pinned (OpenSpec.ofChange pointWritesSpec)

/-- ITS FALSE NEIGHBOUR: 'it returns false'. Refute it at one input. -/
def pointWritesWrong : ChangeSpec := { name := "pointWrites", fn := fun _ => fun
  | [d1, d2, d3] => { results := [.lit (.bool false)], args := [d1, d2, d3] }
  | _ => none }
def PointWritesWrongFalsely : Prop := pointWritesRow.holds Try.pinned (OpenSpec.ofChange pointWritesWrong)

/-- 'gabionlaw14.PointSpoilt': WHATEVER THE INPUT: true; the input reads as it did. -/
def pointSpoiltSpec : ChangeSpec := { name := "pointSpoilt", fn := fun _ => fun
  | [d] => { results := [.lit (.bool true)], args := [d] }
  | _ => none }
def pointSpoiltRow : OpenClaim := { program := "ytlhgbamajabnfaa", sum := "ff2c83f28cab971bec910d9034e9d7059bd6c66706bf578c6861541a4295c4b4", func := "gabion/gabionlaw14.PointSpoilt", spec := "pointSpoilt", unfollowed := true, recurses := true, plainKeys := false, apart := false }
def PointSpoiltSaid : Prop := pointSpoiltRow.holds Try.pinned (OpenSpec.ofChange pointSpoiltSpec)

/-- ITS FALSE NEIGHBOUR: 'it returns false'. Refute it at one input. -/
def pointSpoiltWrong : ChangeSpec := { name := "pointSpoilt", fn := fun _ => fun
  | [d] => { results := [.lit (.bool false)], args := [d] }
  | _ => none }
def PointSpoiltWrongFalsely : Prop := pointSpoiltRow.holds Try.pinned (OpenSpec.ofChange pointSpoiltWrong)

/-- 'gabionlaw14.PointNils': WHATEVER THE INPUT: true; the input reads as it did. -/
def pointNilsSpec : ChangeSpec := { name := "pointNils", fn := fun _ => fun
  | [d1, d2] => { results := [.lit (.bool true)], args := [d1, d2] }
  | _ => none }
def pointNilsRow : OpenClaim := { program := "ytlhgbamajabnfaa", sum := "ff2c83f28cab971bec910d9034e9d7059bd6c66706bf578c6861541a4295c4b4", func := "gabion/gabionlaw14.PointNils", spec := "pointNils", unfollowed := true, recurses := true, plainKeys := false, apart := false }
def PointNilsSaid : Prop := pointNilsRow.holds Try.pinned (OpenSpec.ofChange pointNilsSpec)

/-- ITS FALSE NEIGHBOUR: 'it returns false'. Refute it at one input. -/
def pointNilsWrong : ChangeSpec := { name := "pointNils", fn := fun _ => fun
  | [d1, d2] => { results := [.lit (.bool false)], args := [d1, d2] }
  | _ => none }
def PointNilsWrongFalsely : Prop := pointNilsRow.holds Try.pinned (OpenSpec.ofChange pointNilsWrong)

/-- 'gabionlaw14.PointAgain': WHATEVER THE INPUT: true; the input reads as it did. -/
def pointAgainSpec : ChangeSpec := { name := "pointAgain", fn := fun _ => fun
  | [d1, d2, d3] => { results := [.lit (.bool true)], args := [d1, d2, d3] }
  | _ => none }
def pointAgainRow : OpenClaim := { program := "ytlhgbamajabnfaa", sum := "ff2c83f28cab971bec910d9034e9d7059bd6c66706bf578c6861541a4295c4b4", func := "gabion/gabionlaw14.PointAgain", spec := "pointAgain", unfollowed := true, recurses := true, plainKeys := false, apart := false }
def PointAgainSaid : Prop := pointAgainRow.holds Try.pinned (OpenSpec.ofChange pointAgainSpec)

/-- ITS FALSE NEIGHBOUR: 'it returns false'. Refute it at one input. -/
def pointAgainWrong : ChangeSpec := { name := "pointAgain", fn := fun _ => fun
  | [d1, d2, d3] => { results := [.lit (.bool false)], args := [d1, d2, d3] }
  | _ => none }
def PointAgainWrongFalsely : Prop := pointAgainRow.holds Try.pinned (OpenSpec.ofChange pointAgainWrong)

/- THE SECOND FORM. 'bulk': how many values and letters a reading holds, each counted each time it is reached (what is shared counts as often as it is met; a slice's spare places count too). A statement '..UptoSaid' is the law's where the arguments, and the package variables that the reading takes, are together of bulk at most 1048576: NARROWER than '..Said'. Prove '..Said' where nothing that the law and all that it calls make is longer than what came in: it says more and counts as full. Else prove '..UptoSaid'. A law counts once. -/
mutual
def uptoBulk {H : Type} : DataW H → Nat
  | .lit (.string bytes) => bytes.length + 1
  | .lit _ => 1
  | .nil => 1
  | .ptr d => uptoBulk d + 1
  | .slice elems spare => uptoBulkAll elems + uptoBulkAll spare + 1
  | .agg parts => uptoBulkAll parts + 1
  | .iface _ d => uptoBulk d + 1
  | .map entries => uptoBulkEntries entries + 1
  | .held _ => 1
def uptoBulkAll {H : Type} : List (DataW H) → Nat
  | [] => 0
  | d :: r => uptoBulk d + uptoBulkAll r
def uptoBulkEntries {H : Type} : List (Lit × DataW H) → Nat
  | [] => 0
  | x :: r => uptoBulkEntry x + uptoBulkEntries r
def uptoBulkEntry {H : Type} : Lit × DataW H → Nat
  | (.string bytes, d) => bytes.length + uptoBulk d + 1
  | (_, d) => uptoBulk d + 1
 end
def uptoSmall : (H : Type) → List (DataW H) → Bool := fun _ ds => decide (uptoBulkAll ds ≤ 1048576)
def OpenSpec.upto (s : _root_.Go.ChangeSpec) : _root_.Go.OpenSpec := { _root_.Go.OpenSpec.ofChange s with cond := some uptoSmall }

/-- 'gabionlaw10.StripeWrites', WHERE WHAT IT READS IS OF BULK AT MOST 1048576: true; the input reads as it did. -/
def stripeWritesUptoRow : OpenClaim := { program := "ytlhgbamajabnfaa", sum := "ff2c83f28cab971bec910d9034e9d7059bd6c66706bf578c6861541a4295c4b4", func := "gabion/gabionlaw10.StripeWrites", spec := "stripeWrites", unfollowed := true, recurses := true, plainKeys := false, apart := false, narrowed := true }
def StripeWritesUptoSaid : Prop := stripeWritesUptoRow.holds Try.pinned (OpenSpec.upto stripeWritesSpec)

/-- 'gabionlaw10.StripeReads', WHERE WHAT IT READS IS OF BULK AT MOST 1048576: true; the input reads as it did. -/
def stripeReadsUptoRow : OpenClaim := { program := "ytlhgbamajabnfaa", sum := "ff2c83f28cab971bec910d9034e9d7059bd6c66706bf578c6861541a4295c4b4", func := "gabion/gabionlaw10.StripeReads", spec := "stripeReads", unfollowed := true, recurses := true, plainKeys := false, apart := false, narrowed := true }
def StripeReadsUptoSaid : Prop := stripeReadsUptoRow.holds Try.pinned (OpenSpec.upto stripeReadsSpec)

/-- 'gabionlaw10.StripeMany', WHERE WHAT IT READS IS OF BULK AT MOST 1048576: true; the input reads as it did. -/
def stripeManyUptoRow : OpenClaim := { program := "ytlhgbamajabnfaa", sum := "ff2c83f28cab971bec910d9034e9d7059bd6c66706bf578c6861541a4295c4b4", func := "gabion/gabionlaw10.StripeMany", spec := "stripeMany", unfollowed := true, recurses := true, plainKeys := false, apart := false, narrowed := true }
def StripeManyUptoSaid : Prop := stripeManyUptoRow.holds Try.pinned (OpenSpec.upto stripeManySpec)

/-- 'gabionlaw14.PointCodes', WHERE WHAT IT READS IS OF BULK AT MOST 1048576: true; the input reads as it did. -/
def pointCodesUptoRow : OpenClaim := { program := "ytlhgbamajabnfaa", sum := "ff2c83f28cab971bec910d9034e9d7059bd6c66706bf578c6861541a4295c4b4", func := "gabion/gabionlaw14.PointCodes", spec := "pointCodes", unfollowed := true, recurses := true, plainKeys := false, apart := false, narrowed := true }
def PointCodesUptoSaid : Prop := pointCodesUptoRow.holds Try.pinned (OpenSpec.upto pointCodesSpec)

/-- 'gabionlaw14.PointDecodes', WHERE WHAT IT READS IS OF BULK AT MOST 1048576: true; the input reads as it did. -/
def pointDecodesUptoRow : OpenClaim := { program := "ytlhgbamajabnfaa", sum := "ff2c83f28cab971bec910d9034e9d7059bd6c66706bf578c6861541a4295c4b4", func := "gabion/gabionlaw14.PointDecodes", spec := "pointDecodes", unfollowed := true, recurses := true, plainKeys := false, apart := false, narrowed := true }
def PointDecodesUptoSaid : Prop := pointDecodesUptoRow.holds Try.pinned (OpenSpec.upto pointDecodesSpec)

/-- 'gabionlaw14.PointWrites', WHERE WHAT IT READS IS OF BULK AT MOST 1048576: true; the input reads as it did. -/
def pointWritesUptoRow : OpenClaim := { program := "ytlhgbamajabnfaa", sum := "ff2c83f28cab971bec910d9034e9d7059bd6c66706bf578c6861541a4295c4b4", func := "gabion/gabionlaw14.PointWrites", spec := "pointWrites", unfollowed := true, recurses := true, plainKeys := false, apart := false, narrowed := true }
def PointWritesUptoSaid : Prop := pointWritesUptoRow.holds Try.pinned (OpenSpec.upto pointWritesSpec)

/-- 'gabionlaw14.PointSpoilt', WHERE WHAT IT READS IS OF BULK AT MOST 1048576: true; the input reads as it did. -/
def pointSpoiltUptoRow : OpenClaim := { program := "ytlhgbamajabnfaa", sum := "ff2c83f28cab971bec910d9034e9d7059bd6c66706bf578c6861541a4295c4b4", func := "gabion/gabionlaw14.PointSpoilt", spec := "pointSpoilt", unfollowed := true, recurses := true, plainKeys := false, apart := false, narrowed := true }
def PointSpoiltUptoSaid : Prop := pointSpoiltUptoRow.holds Try.pinned (OpenSpec.upto pointSpoiltSpec)

/-- 'gabionlaw14.PointNils', WHERE WHAT IT READS IS OF BULK AT MOST 1048576: true; the input reads as it did. -/
def pointNilsUptoRow : OpenClaim := { program := "ytlhgbamajabnfaa", sum := "ff2c83f28cab971bec910d9034e9d7059bd6c66706bf578c6861541a4295c4b4", func := "gabion/gabionlaw14.PointNils", spec := "pointNils", unfollowed := true, recurses := true, plainKeys := false, apart := false, narrowed := true }
def PointNilsUptoSaid : Prop := pointNilsUptoRow.holds Try.pinned (OpenSpec.upto pointNilsSpec)

/-- 'gabionlaw14.PointAgain', WHERE WHAT IT READS IS OF BULK AT MOST 1048576: true; the input reads as it did. -/
def pointAgainUptoRow : OpenClaim := { program := "ytlhgbamajabnfaa", sum := "ff2c83f28cab971bec910d9034e9d7059bd6c66706bf578c6861541a4295c4b4", func := "gabion/gabionlaw14.PointAgain", spec := "pointAgain", unfollowed := true, recurses := true, plainKeys := false, apart := false, narrowed := true }
def PointAgainUptoSaid : Prop := pointAgainUptoRow.holds Try.pinned (OpenSpec.upto pointAgainSpec)

end Rows
end Go.Proofs.Ytlhgbamajabnfaa
