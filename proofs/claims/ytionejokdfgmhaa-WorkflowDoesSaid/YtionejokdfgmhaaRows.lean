/-
  No cell of these rows narrows 'for every input' (looked for: loops, veiled, ifaces, maps, wideKeys, modest, calm, conditions, laid).
  DERIVED. THE GIVEN ROWS OF THIS SEAT. 6 by the template 'for every input the law returns true; each argument reads behind the call as it read before'; 0 by the template 'total and deterministic' (their statements: YtionejokdfgmhaaTotals.lean).
  GIVEN WITH THE SEED: the statements are not yours to turn. If you find one false, say at which input.
  Laid BY PROGRAM, IN A SANDBOX (cutbox-rows.mjs): the forced cells as the released guide's own fill.sh prints them over the translation 44b1bb883f413987… (all of the seat's roots in one cut). By AI agents, Wed Nov 11 2026. No macro, syntax, notation, axiom, sorry.
-/
import Derived.Test.YtionejokdfgmhaaChecked
import GoSem.Claim
import GoSem.ClaimJoined
import GoSem.ClaimMapViews
import Derived.JoinedTies
import Derived.KernelRfl
namespace Go.Proofs.Ytionejokdfgmhaa
/- THE CELL 'sum', in the pinned program and in every row, IS THE sha256 OF THE DUMP (.gsa) THAT YtionejokdfgmhaaProg.lean LOADS. Nothing in Lean hashes anything: it is a label: what it is worth is what the hold of that sum in a sandbox is worth. -/
noncomputable def Try.pinned : Pinned := { name := "ytionejokdfgmhaa", sum := "44b1bb883f413987ed1274d96efe2134cc36979a79d811a2666e79f6bfcc9f81", checked := Try.checked }
namespace Rows
def none {H : Type} : Left H := { results := [], args := [] }

/-- 'identitylaw49.WorkflowDoes': WHATEVER THE INPUT: true; the input reads as it did. -/
def workflowDoesSpec : ChangeSpec := { name := "workflowDoes", fn := fun _ => fun
  | [d] => { results := [.lit (.bool true)], args := [d] }
  | _ => none }
def workflowDoesRow : OpenClaim := { program := "ytionejokdfgmhaa", sum := "44b1bb883f413987ed1274d96efe2134cc36979a79d811a2666e79f6bfcc9f81", func := "identity/identitylaw49.WorkflowDoes", spec := "workflowDoes", unfollowed := true, recurses := true, apart := false }
def WorkflowDoesSaid : Prop := workflowDoesRow.holds Try.pinned (OpenSpec.ofChange workflowDoesSpec)

/-- ITS FALSE NEIGHBOUR: 'it returns false'. Refute it at one input. -/
def workflowDoesWrong : ChangeSpec := { name := "workflowDoes", fn := fun _ => fun
  | [d] => { results := [.lit (.bool false)], args := [d] }
  | _ => none }
def WorkflowDoesWrongFalsely : Prop := workflowDoesRow.holds Try.pinned (OpenSpec.ofChange workflowDoesWrong)

/-- 'identitylaw49.WorkflowCounts': WHATEVER THE INPUT: true; the input reads as it did. -/
def workflowCountsSpec : ChangeSpec := { name := "workflowCounts", fn := fun _ => fun
  | [d1, d2] => { results := [.lit (.bool true)], args := [d1, d2] }
  | _ => none }
def workflowCountsRow : OpenClaim := { program := "ytionejokdfgmhaa", sum := "44b1bb883f413987ed1274d96efe2134cc36979a79d811a2666e79f6bfcc9f81", func := "identity/identitylaw49.WorkflowCounts", spec := "workflowCounts", unfollowed := true, recurses := true, apart := false }
def WorkflowCountsSaid : Prop := workflowCountsRow.holds Try.pinned (OpenSpec.ofChange workflowCountsSpec)

/-- ITS FALSE NEIGHBOUR: 'it returns false'. Refute it at one input. -/
def workflowCountsWrong : ChangeSpec := { name := "workflowCounts", fn := fun _ => fun
  | [d1, d2] => { results := [.lit (.bool false)], args := [d1, d2] }
  | _ => none }
def WorkflowCountsWrongFalsely : Prop := workflowCountsRow.holds Try.pinned (OpenSpec.ofChange workflowCountsWrong)

/-- 'identitylaw49.WorkflowFails': WHATEVER THE INPUT: true; the input reads as it did. -/
def workflowFailsSpec : ChangeSpec := { name := "workflowFails", fn := fun _ => fun
  | [d1, d2, d3, d4, d5] => { results := [.lit (.bool true)], args := [d1, d2, d3, d4, d5] }
  | _ => none }
def workflowFailsRow : OpenClaim := { program := "ytionejokdfgmhaa", sum := "44b1bb883f413987ed1274d96efe2134cc36979a79d811a2666e79f6bfcc9f81", func := "identity/identitylaw49.WorkflowFails", spec := "workflowFails", unfollowed := true, recurses := true, apart := false }
def WorkflowFailsSaid : Prop := workflowFailsRow.holds Try.pinned (OpenSpec.ofChange workflowFailsSpec)

/-- ITS FALSE NEIGHBOUR: 'it returns false'. Refute it at one input. -/
def workflowFailsWrong : ChangeSpec := { name := "workflowFails", fn := fun _ => fun
  | [d1, d2, d3, d4, d5] => { results := [.lit (.bool false)], args := [d1, d2, d3, d4, d5] }
  | _ => none }
def WorkflowFailsWrongFalsely : Prop := workflowFailsRow.holds Try.pinned (OpenSpec.ofChange workflowFailsWrong)

/-- 'identitylaw49.WorkflowApart': WHATEVER THE INPUT: true; the input reads as it did. -/
def workflowApartSpec : ChangeSpec := { name := "workflowApart", fn := fun _ => fun
  | [d1, d2, d3] => { results := [.lit (.bool true)], args := [d1, d2, d3] }
  | _ => none }
def workflowApartRow : OpenClaim := { program := "ytionejokdfgmhaa", sum := "44b1bb883f413987ed1274d96efe2134cc36979a79d811a2666e79f6bfcc9f81", func := "identity/identitylaw49.WorkflowApart", spec := "workflowApart", unfollowed := true, recurses := true, apart := false }
def WorkflowApartSaid : Prop := workflowApartRow.holds Try.pinned (OpenSpec.ofChange workflowApartSpec)

/-- ITS FALSE NEIGHBOUR: 'it returns false'. Refute it at one input. -/
def workflowApartWrong : ChangeSpec := { name := "workflowApart", fn := fun _ => fun
  | [d1, d2, d3] => { results := [.lit (.bool false)], args := [d1, d2, d3] }
  | _ => none }
def WorkflowApartWrongFalsely : Prop := workflowApartRow.holds Try.pinned (OpenSpec.ofChange workflowApartWrong)

/-- 'identitylaw49.WorkflowOpens': WHATEVER THE INPUT: true; the input reads as it did. -/
def workflowOpensSpec : ChangeSpec := { name := "workflowOpens", fn := fun _ => fun
  | [d1, d2, d3, d4] => { results := [.lit (.bool true)], args := [d1, d2, d3, d4] }
  | _ => none }
def workflowOpensRow : OpenClaim := { program := "ytionejokdfgmhaa", sum := "44b1bb883f413987ed1274d96efe2134cc36979a79d811a2666e79f6bfcc9f81", func := "identity/identitylaw49.WorkflowOpens", spec := "workflowOpens", unfollowed := true, recurses := true, apart := false }
def WorkflowOpensSaid : Prop := workflowOpensRow.holds Try.pinned (OpenSpec.ofChange workflowOpensSpec)

/-- ITS FALSE NEIGHBOUR: 'it returns false'. Refute it at one input. -/
def workflowOpensWrong : ChangeSpec := { name := "workflowOpens", fn := fun _ => fun
  | [d1, d2, d3, d4] => { results := [.lit (.bool false)], args := [d1, d2, d3, d4] }
  | _ => none }
def WorkflowOpensWrongFalsely : Prop := workflowOpensRow.holds Try.pinned (OpenSpec.ofChange workflowOpensWrong)

/-- 'identitylaw49.WorkflowOnce': WHATEVER THE INPUT: true; the input reads as it did. -/
def workflowOnceSpec : ChangeSpec := { name := "workflowOnce", fn := fun _ => fun
  | [d1, d2, d3, d4] => { results := [.lit (.bool true)], args := [d1, d2, d3, d4] }
  | _ => none }
def workflowOnceRow : OpenClaim := { program := "ytionejokdfgmhaa", sum := "44b1bb883f413987ed1274d96efe2134cc36979a79d811a2666e79f6bfcc9f81", func := "identity/identitylaw49.WorkflowOnce", spec := "workflowOnce", unfollowed := true, recurses := true, apart := false }
def WorkflowOnceSaid : Prop := workflowOnceRow.holds Try.pinned (OpenSpec.ofChange workflowOnceSpec)

/-- ITS FALSE NEIGHBOUR: 'it returns false'. Refute it at one input. -/
def workflowOnceWrong : ChangeSpec := { name := "workflowOnce", fn := fun _ => fun
  | [d1, d2, d3, d4] => { results := [.lit (.bool false)], args := [d1, d2, d3, d4] }
  | _ => none }
def WorkflowOnceWrongFalsely : Prop := workflowOnceRow.holds Try.pinned (OpenSpec.ofChange workflowOnceWrong)

/- THE SECOND FORM. 'bulk': how many values and letters a reading holds, each counted each time it is reached (what is shared counts as often as it is met; a slice's spare places count too). A statement '..UptoSaid' is the law's where the arguments, and the package variables that the reading takes, are together of bulk at most 1048576: NARROWER than '..Said'. Prove '..Said' where nothing that the law and all that it calls make is longer than what came in: it says more and counts as full. Else prove '..UptoSaid'. A law counts once. -/
mutual
def uptoBulk {H : Type} : DataW H → Nat
  | .lit (.string bytes) => bytes.length + 1
  | .lit _ => 1
  | .nil => 1
  | .ptr d => uptoBulk d + 1
  | .slice elems spare => uptoBulkAll elems + uptoBulkAll spare + 1
  | .agg parts => uptoBulkAll parts + 1
  | .iface _ d => uptoBulk d + 1
  | .map entries => uptoBulkEntries entries + 1
  | .held _ => 1
def uptoBulkAll {H : Type} : List (DataW H) → Nat
  | [] => 0
  | d :: r => uptoBulk d + uptoBulkAll r
def uptoBulkEntries {H : Type} : List (Lit × DataW H) → Nat
  | [] => 0
  | x :: r => uptoBulkEntry x + uptoBulkEntries r
def uptoBulkEntry {H : Type} : Lit × DataW H → Nat
  | (.string bytes, d) => bytes.length + uptoBulk d + 1
  | (_, d) => uptoBulk d + 1
 end
def uptoSmall : (H : Type) → List (DataW H) → Bool := fun _ ds => decide (uptoBulkAll ds ≤ 1048576)
def OpenSpec.upto (s : _root_.Go.ChangeSpec) : _root_.Go.OpenSpec := { _root_.Go.OpenSpec.ofChange s with cond := some uptoSmall }

/-- 'identitylaw49.WorkflowDoes', WHERE WHAT IT READS IS OF BULK AT MOST 1048576: true; the input reads as it did. -/
def workflowDoesUptoRow : OpenClaim := { program := "ytionejokdfgmhaa", sum := "44b1bb883f413987ed1274d96efe2134cc36979a79d811a2666e79f6bfcc9f81", func := "identity/identitylaw49.WorkflowDoes", spec := "workflowDoes", unfollowed := true, recurses := true, apart := false, narrowed := true }
def WorkflowDoesUptoSaid : Prop := workflowDoesUptoRow.holds Try.pinned (OpenSpec.upto workflowDoesSpec)

/-- 'identitylaw49.WorkflowCounts', WHERE WHAT IT READS IS OF BULK AT MOST 1048576: true; the input reads as it did. -/
def workflowCountsUptoRow : OpenClaim := { program := "ytionejokdfgmhaa", sum := "44b1bb883f413987ed1274d96efe2134cc36979a79d811a2666e79f6bfcc9f81", func := "identity/identitylaw49.WorkflowCounts", spec := "workflowCounts", unfollowed := true, recurses := true, apart := false, narrowed := true }
def WorkflowCountsUptoSaid : Prop := workflowCountsUptoRow.holds Try.pinned (OpenSpec.upto workflowCountsSpec)

/-- 'identitylaw49.WorkflowFails', WHERE WHAT IT READS IS OF BULK AT MOST 1048576: true; the input reads as it did. -/
def workflowFailsUptoRow : OpenClaim := { program := "ytionejokdfgmhaa", sum := "44b1bb883f413987ed1274d96efe2134cc36979a79d811a2666e79f6bfcc9f81", func := "identity/identitylaw49.WorkflowFails", spec := "workflowFails", unfollowed := true, recurses := true, apart := false, narrowed := true }
def WorkflowFailsUptoSaid : Prop := workflowFailsUptoRow.holds Try.pinned (OpenSpec.upto workflowFailsSpec)

/-- 'identitylaw49.WorkflowApart', WHERE WHAT IT READS IS OF BULK AT MOST 1048576: true; the input reads as it did. -/
def workflowApartUptoRow : OpenClaim := { program := "ytionejokdfgmhaa", sum := "44b1bb883f413987ed1274d96efe2134cc36979a79d811a2666e79f6bfcc9f81", func := "identity/identitylaw49.WorkflowApart", spec := "workflowApart", unfollowed := true, recurses := true, apart := false, narrowed := true }
def WorkflowApartUptoSaid : Prop := workflowApartUptoRow.holds Try.pinned (OpenSpec.upto workflowApartSpec)

/-- 'identitylaw49.WorkflowOpens', WHERE WHAT IT READS IS OF BULK AT MOST 1048576: true; the input reads as it did. -/
def workflowOpensUptoRow : OpenClaim := { program := "ytionejokdfgmhaa", sum := "44b1bb883f413987ed1274d96efe2134cc36979a79d811a2666e79f6bfcc9f81", func := "identity/identitylaw49.WorkflowOpens", spec := "workflowOpens", unfollowed := true, recurses := true, apart := false, narrowed := true }
def WorkflowOpensUptoSaid : Prop := workflowOpensUptoRow.holds Try.pinned (OpenSpec.upto workflowOpensSpec)

/-- 'identitylaw49.WorkflowOnce', WHERE WHAT IT READS IS OF BULK AT MOST 1048576: true; the input reads as it did. -/
def workflowOnceUptoRow : OpenClaim := { program := "ytionejokdfgmhaa", sum := "44b1bb883f413987ed1274d96efe2134cc36979a79d811a2666e79f6bfcc9f81", func := "identity/identitylaw49.WorkflowOnce", spec := "workflowOnce", unfollowed := true, recurses := true, apart := false, narrowed := true }
def WorkflowOnceUptoSaid : Prop := workflowOnceUptoRow.holds Try.pinned (OpenSpec.upto workflowOnceSpec)

end Rows
end Go.Proofs.Ytionejokdfgmhaa
