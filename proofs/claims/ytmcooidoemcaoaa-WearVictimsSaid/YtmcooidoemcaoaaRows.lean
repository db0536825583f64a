/-
  No cell of these rows narrows 'for every input' (looked for: loops, veiled, ifaces, maps, wideKeys, modest, calm, conditions, laid).
  DERIVED. THE GIVEN ROWS OF THIS SEAT. 5 by the template 'for every input the law returns true; each argument reads behind the call as it read before'; 0 by the template 'total and deterministic' (their statements: YtmcooidoemcaoaaTotals.lean).
  GIVEN WITH THE SEED: the statements are not yours to turn. If you find one false, say at which input.
  Laid BY PROGRAM, IN A SANDBOX (cutbox-rows.mjs): the forced cells as the released guide's own fill.sh prints them over the translation edeb60a3177271bf… (all of the seat's roots in one cut). By AI agents, Wed Nov 11 2026. No macro, syntax, notation, axiom, sorry.
-/
import Derived.Test.YtmcooidoemcaoaaChecked
import GoSem.Claim
import GoSem.ClaimJoined
import GoSem.ClaimMapViews
import Derived.JoinedTies
import Derived.KernelRfl
namespace Go.Proofs.Ytmcooidoemcaoaa
/- THE CELL 'sum', in the pinned program and in every row, IS THE sha256 OF THE DUMP (.gsa) THAT YtmcooidoemcaoaaProg.lean LOADS. Nothing in Lean hashes anything: it is a label: what it is worth is what the hold of that sum in a sandbox is worth. -/
noncomputable def Try.pinned : Pinned := { name := "ytmcooidoemcaoaa", sum := "edeb60a3177271bfa2a78feeb339d68d305bcd432df1a831c508485d54b22180", checked := Try.checked }
namespace Rows
def none {H : Type} : Left H := { results := [], args := [] }

/-- 'gabionlaw15.WearVictims': WHATEVER THE INPUT: true; the input reads as it did. -/
def wearVictimsSpec : ChangeSpec := { name := "wearVictims", fn := fun _ => fun
  | [d] => { results := [.lit (.bool true)], args := [d] }
  | _ => none }
def wearVictimsRow : OpenClaim := { program := "ytmcooidoemcaoaa", sum := "edeb60a3177271bfa2a78feeb339d68d305bcd432df1a831c508485d54b22180", func := "gabion/gabionlaw15.WearVictims", spec := "wearVictims", apart := false }
def WearVictimsSaid : Prop := wearVictimsRow.holds Try.pinned (OpenSpec.ofChange wearVictimsSpec)

/-- ITS FALSE NEIGHBOUR: 'it returns false'. Refute it at one input. -/
def wearVictimsWrong : ChangeSpec := { name := "wearVictims", fn := fun _ => fun
  | [d] => { results := [.lit (.bool false)], args := [d] }
  | _ => none }
def WearVictimsWrongFalsely : Prop := wearVictimsRow.holds Try.pinned (OpenSpec.ofChange wearVictimsWrong)

/-- 'gabionlaw15.WearSpreads': WHATEVER THE INPUT: true; the input reads as it did. -/
def wearSpreadsSpec : ChangeSpec := { name := "wearSpreads", fn := fun _ => fun
  | [d1, d2] => { results := [.lit (.bool true)], args := [d1, d2] }
  | _ => none }
def wearSpreadsRow : OpenClaim := { program := "ytmcooidoemcaoaa", sum := "edeb60a3177271bfa2a78feeb339d68d305bcd432df1a831c508485d54b22180", func := "gabion/gabionlaw15.WearSpreads", spec := "wearSpreads", apart := false }
def WearSpreadsSaid : Prop := wearSpreadsRow.holds Try.pinned (OpenSpec.ofChange wearSpreadsSpec)

/-- ITS FALSE NEIGHBOUR: 'it returns false'. Refute it at one input. -/
def wearSpreadsWrong : ChangeSpec := { name := "wearSpreads", fn := fun _ => fun
  | [d1, d2] => { results := [.lit (.bool false)], args := [d1, d2] }
  | _ => none }
def WearSpreadsWrongFalsely : Prop := wearSpreadsRow.holds Try.pinned (OpenSpec.ofChange wearSpreadsWrong)

/-- 'gabionlaw15.WearFits': WHATEVER THE INPUT: true; the input reads as it did. -/
def wearFitsSpec : ChangeSpec := { name := "wearFits", fn := fun _ => fun
  | [d] => { results := [.lit (.bool true)], args := [d] }
  | _ => none }
def wearFitsRow : OpenClaim := { program := "ytmcooidoemcaoaa", sum := "edeb60a3177271bfa2a78feeb339d68d305bcd432df1a831c508485d54b22180", func := "gabion/gabionlaw15.WearFits", spec := "wearFits", apart := false }
def WearFitsSaid : Prop := wearFitsRow.holds Try.pinned (OpenSpec.ofChange wearFitsSpec)

/-- ITS FALSE NEIGHBOUR: 'it returns false'. Refute it at one input. -/
def wearFitsWrong : ChangeSpec := { name := "wearFits", fn := fun _ => fun
  | [d] => { results := [.lit (.bool false)], args := [d] }
  | _ => none }
def WearFitsWrongFalsely : Prop := wearFitsRow.holds Try.pinned (OpenSpec.ofChange wearFitsWrong)

/-- 'gabionlaw15.WearEmpty': WHATEVER THE INPUT: true; the input reads as it did. -/
def wearEmptySpec : ChangeSpec := { name := "wearEmpty", fn := fun _ => fun
  | [d1, d2, d3] => { results := [.lit (.bool true)], args := [d1, d2, d3] }
  | _ => none }
def wearEmptyRow : OpenClaim := { program := "ytmcooidoemcaoaa", sum := "edeb60a3177271bfa2a78feeb339d68d305bcd432df1a831c508485d54b22180", func := "gabion/gabionlaw15.WearEmpty", spec := "wearEmpty", apart := false }
def WearEmptySaid : Prop := wearEmptyRow.holds Try.pinned (OpenSpec.ofChange wearEmptySpec)

/-- ITS FALSE NEIGHBOUR: 'it returns false'. Refute it at one input. -/
def wearEmptyWrong : ChangeSpec := { name := "wearEmpty", fn := fun _ => fun
  | [d1, d2, d3] => { results := [.lit (.bool false)], args := [d1, d2, d3] }
  | _ => none }
def WearEmptyWrongFalsely : Prop := wearEmptyRow.holds Try.pinned (OpenSpec.ofChange wearEmptyWrong)

/-- 'gabionlaw15.WearNexts': WHATEVER THE INPUT: true; the input reads as it did. -/
def wearNextsSpec : ChangeSpec := { name := "wearNexts", fn := fun _ => fun
  | [d1, d2] => { results := [.lit (.bool true)], args := [d1, d2] }
  | _ => none }
def wearNextsRow : OpenClaim := { program := "ytmcooidoemcaoaa", sum := "edeb60a3177271bfa2a78feeb339d68d305bcd432df1a831c508485d54b22180", func := "gabion/gabionlaw15.WearNexts", spec := "wearNexts", apart := false }
def WearNextsSaid : Prop := wearNextsRow.holds Try.pinned (OpenSpec.ofChange wearNextsSpec)

/-- ITS FALSE NEIGHBOUR: 'it returns false'. Refute it at one input. -/
def wearNextsWrong : ChangeSpec := { name := "wearNexts", fn := fun _ => fun
  | [d1, d2] => { results := [.lit (.bool false)], args := [d1, d2] }
  | _ => none }
def WearNextsWrongFalsely : Prop := wearNextsRow.holds Try.pinned (OpenSpec.ofChange wearNextsWrong)

/- THE SECOND FORM. 'bulk': how many values and letters a reading holds, each counted each time it is reached (what is shared counts as often as it is met; a slice's spare places count too). A statement '..UptoSaid' is the law's where the arguments, and the package variables that the reading takes, are together of bulk at most 1048576: NARROWER than '..Said'. Prove '..Said' where nothing that the law and all that it calls make is longer than what came in: it says more and counts as full. Else prove '..UptoSaid'. A law counts once. -/
mutual
def uptoBulk {H : Type} : DataW H → Nat
  | .lit (.string bytes) => bytes.length + 1
  | .lit _ => 1
  | .nil => 1
  | .ptr d => uptoBulk d + 1
  | .slice elems spare => uptoBulkAll elems + uptoBulkAll spare + 1
  | .agg parts => uptoBulkAll parts + 1
  | .iface _ d => uptoBulk d + 1
  | .map entries => uptoBulkEntries entries + 1
  | .held _ => 1
def uptoBulkAll {H : Type} : List (DataW H) → Nat
  | [] => 0
  | d :: r => uptoBulk d + uptoBulkAll r
def uptoBulkEntries {H : Type} : List (Lit × DataW H) → Nat
  | [] => 0
  | x :: r => uptoBulkEntry x + uptoBulkEntries r
def uptoBulkEntry {H : Type} : Lit × DataW H → Nat
  | (.string bytes, d) => bytes.length + uptoBulk d + 1
  | (_, d) => uptoBulk d + 1
 end
def uptoSmall : (H : Type) → List (DataW H) → Bool := fun _ ds => decide (uptoBulkAll ds ≤ 1048576)
def OpenSpec.upto (s : _root_.Go.ChangeSpec) : _root_.Go.OpenSpec := { _root_.Go.OpenSpec.ofChange s with cond := some uptoSmall }

/-- 'gabionlaw15.WearVictims', WHERE WHAT IT READS IS OF BULK AT MOST 1048576: true; the input reads as it did. -/
def wearVictimsUptoRow : OpenClaim := { program := "ytmcooidoemcaoaa", sum := "edeb60a3177271bfa2a78feeb339d68d305bcd432df1a831c508485d54b22180", func := "gabion/gabionlaw15.WearVictims", spec := "wearVictims", apart := false, narrowed := true }
def WearVictimsUptoSaid : Prop := wearVictimsUptoRow.holds Try.pinned (OpenSpec.upto wearVictimsSpec)

/-- 'gabionlaw15.WearSpreads', WHERE WHAT IT READS IS OF BULK AT MOST 1048576: true; the input reads as it did. -/
def wearSpreadsUptoRow : OpenClaim := { program := "ytmcooidoemcaoaa", sum := "edeb60a3177271bfa2a78feeb339d68d305bcd432df1a831c508485d54b22180", func := "gabion/gabionlaw15.WearSpreads", spec := "wearSpreads", apart := false, narrowed := true }
def WearSpreadsUptoSaid : Prop := wearSpreadsUptoRow.holds Try.pinned (OpenSpec.upto wearSpreadsSpec)

/-- 'gabionlaw15.WearFits', WHERE WHAT IT READS IS OF BULK AT MOST 1048576: true; the input reads as it did. -/
def wearFitsUptoRow : OpenClaim := { program := "ytmcooidoemcaoaa", sum := "edeb60a3177271bfa2a78feeb339d68d305bcd432df1a831c508485d54b22180", func := "gabion/gabionlaw15.WearFits", spec := "wearFits", apart := false, narrowed := true }
def WearFitsUptoSaid : Prop := wearFitsUptoRow.holds Try.pinned (OpenSpec.upto wearFitsSpec)

/-- 'gabionlaw15.WearEmpty', WHERE WHAT IT READS IS OF BULK AT MOST 1048576: true; the input reads as it did. -/
def wearEmptyUptoRow : OpenClaim := { program := "ytmcooidoemcaoaa", sum := "edeb60a3177271bfa2a78feeb339d68d305bcd432df1a831c508485d54b22180", func := "gabion/gabionlaw15.WearEmpty", spec := "wearEmpty", apart := false, narrowed := true }
def WearEmptyUptoSaid : Prop := wearEmptyUptoRow.holds Try.pinned (OpenSpec.upto wearEmptySpec)

/-- 'gabionlaw15.WearNexts', WHERE WHAT IT READS IS OF BULK AT MOST 1048576: true; the input reads as it did. -/
def wearNextsUptoRow : OpenClaim := { program := "ytmcooidoemcaoaa", sum := "edeb60a3177271bfa2a78feeb339d68d305bcd432df1a831c508485d54b22180", func := "gabion/gabionlaw15.WearNexts", spec := "wearNexts", apart := false, narrowed := true }
def WearNextsUptoSaid : Prop := wearNextsUptoRow.holds Try.pinned (OpenSpec.upto wearNextsSpec)

end Rows
end Go.Proofs.Ytmcooidoemcaoaa
