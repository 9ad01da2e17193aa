/-
  No cell of these rows narrows 'for every input' (looked for: loops, veiled, ifaces, maps, wideKeys, modest, calm, conditions, laid).
  DERIVED. THE GIVEN ROWS OF THIS SEAT. 6 by the template 'for every input the law returns true; each argument reads behind the call as it read before'; 0 by the template 'total and deterministic' (their statements: YtdikijbkfhimoaaTotals.lean).
  GIVEN WITH THE SEED: the statements are not yours to turn. If you find one false, say at which input.
  Laid BY PROGRAM, IN A SANDBOX (cutbox-rows.mjs): the forced cells as the released guide's own fill.sh prints them over the translation 32089051fe448300… (all of the seat's roots in one cut). By AI agents, Wed Nov 11 2026. No macro, syntax, notation, axiom, sorry.
-/
import Derived.Test.YtdikijbkfhimoaaChecked
import GoSem.Claim
import GoSem.ClaimJoined
import GoSem.ClaimMapViews
import Derived.JoinedTies
import Derived.KernelRfl
namespace Go.Proofs.Ytdikijbkfhimoaa
/- THE CELL 'sum', in the pinned program and in every row, IS THE sha256 OF THE DUMP (.gsa) THAT YtdikijbkfhimoaaProg.lean LOADS. Nothing in Lean hashes anything: it is a label: what it is worth is what the hold of that sum in a sandbox is worth. -/
noncomputable def Try.pinned : Pinned := { name := "ytdikijbkfhimoaa", sum := "32089051fe448300a5dca1b5d2734694cae6301f778b3ca5e415367272a3db6f", checked := Try.checked }
namespace Rows
def none {H : Type} : Left H := { results := [], args := [] }

/-- 'identitylaw45.LogoutPlays': WHATEVER THE INPUT: true; the input reads as it did. -/
def logoutPlaysSpec : ChangeSpec := { name := "logoutPlays", fn := fun _ => fun
  | [d1, d2, d3] => { results := [.lit (.bool true)], args := [d1, d2, d3] }
  | _ => none }
def logoutPlaysRow : OpenClaim := { program := "ytdikijbkfhimoaa", sum := "32089051fe448300a5dca1b5d2734694cae6301f778b3ca5e415367272a3db6f", func := "identity/identitylaw45.LogoutPlays", spec := "logoutPlays", inPlace := ["internal/bytealg.abigen_runtime_cmpstring"], unfollowed := true, recurses := true, apart := false }
def LogoutPlaysSaid : Prop := logoutPlaysRow.holds Try.pinned (OpenSpec.ofChange logoutPlaysSpec)

/-- ITS FALSE NEIGHBOUR: 'it returns false'. Refute it at one input. -/
def logoutPlaysWrong : ChangeSpec := { name := "logoutPlays", fn := fun _ => fun
  | [d1, d2, d3] => { results := [.lit (.bool false)], args := [d1, d2, d3] }
  | _ => none }
def LogoutPlaysWrongFalsely : Prop := logoutPlaysRow.holds Try.pinned (OpenSpec.ofChange logoutPlaysWrong)

/-- 'identitylaw45.LogoutAttempts': WHATEVER THE INPUT: true; the input reads as it did. -/
def logoutAttemptsSpec : ChangeSpec := { name := "logoutAttempts", fn := fun _ => fun
  | [d1, d2] => { results := [.lit (.bool true)], args := [d1, d2] }
  | _ => none }
def logoutAttemptsRow : OpenClaim := { program := "ytdikijbkfhimoaa", sum := "32089051fe448300a5dca1b5d2734694cae6301f778b3ca5e415367272a3db6f", func := "identity/identitylaw45.LogoutAttempts", spec := "logoutAttempts", inPlace := ["internal/bytealg.abigen_runtime_cmpstring"], unfollowed := true, recurses := true, apart := false }
def LogoutAttemptsSaid : Prop := logoutAttemptsRow.holds Try.pinned (OpenSpec.ofChange logoutAttemptsSpec)

/-- ITS FALSE NEIGHBOUR: 'it returns false'. Refute it at one input. -/
def logoutAttemptsWrong : ChangeSpec := { name := "logoutAttempts", fn := fun _ => fun
  | [d1, d2] => { results := [.lit (.bool false)], args := [d1, d2] }
  | _ => none }
def LogoutAttemptsWrongFalsely : Prop := logoutAttemptsRow.holds Try.pinned (OpenSpec.ofChange logoutAttemptsWrong)

/-- 'identitylaw45.LogoutCounts': WHATEVER THE INPUT: true; the input reads as it did. -/
def logoutCountsSpec : ChangeSpec := { name := "logoutCounts", fn := fun _ => fun
  | [d1, d2] => { results := [.lit (.bool true)], args := [d1, d2] }
  | _ => none }
def logoutCountsRow : OpenClaim := { program := "ytdikijbkfhimoaa", sum := "32089051fe448300a5dca1b5d2734694cae6301f778b3ca5e415367272a3db6f", func := "identity/identitylaw45.LogoutCounts", spec := "logoutCounts", inPlace := ["internal/bytealg.abigen_runtime_cmpstring"], unfollowed := true, recurses := true, apart := false }
def LogoutCountsSaid : Prop := logoutCountsRow.holds Try.pinned (OpenSpec.ofChange logoutCountsSpec)

/-- ITS FALSE NEIGHBOUR: 'it returns false'. Refute it at one input. -/
def logoutCountsWrong : ChangeSpec := { name := "logoutCounts", fn := fun _ => fun
  | [d1, d2] => { results := [.lit (.bool false)], args := [d1, d2] }
  | _ => none }
def LogoutCountsWrongFalsely : Prop := logoutCountsRow.holds Try.pinned (OpenSpec.ofChange logoutCountsWrong)

/-- 'identitylaw45.LogoutOrders': WHATEVER THE INPUT: true; the input reads as it did. -/
def logoutOrdersSpec : ChangeSpec := { name := "logoutOrders", fn := fun _ => fun
  | [d1, d2] => { results := [.lit (.bool true)], args := [d1, d2] }
  | _ => none }
def logoutOrdersRow : OpenClaim := { program := "ytdikijbkfhimoaa", sum := "32089051fe448300a5dca1b5d2734694cae6301f778b3ca5e415367272a3db6f", func := "identity/identitylaw45.LogoutOrders", spec := "logoutOrders", inPlace := ["internal/bytealg.abigen_runtime_cmpstring"], unfollowed := true, recurses := true, apart := false }
def LogoutOrdersSaid : Prop := logoutOrdersRow.holds Try.pinned (OpenSpec.ofChange logoutOrdersSpec)

/-- ITS FALSE NEIGHBOUR: 'it returns false'. Refute it at one input. -/
def logoutOrdersWrong : ChangeSpec := { name := "logoutOrders", fn := fun _ => fun
  | [d1, d2] => { results := [.lit (.bool false)], args := [d1, d2] }
  | _ => none }
def LogoutOrdersWrongFalsely : Prop := logoutOrdersRow.holds Try.pinned (OpenSpec.ofChange logoutOrdersWrong)

/-- 'identitylaw45.LogoutNil': WHATEVER THE INPUT: true; the input reads as it did. -/
def logoutNilSpec : ChangeSpec := { name := "logoutNil", fn := fun _ => fun
  | [d] => { results := [.lit (.bool true)], args := [d] }
  | _ => none }
def logoutNilRow : OpenClaim := { program := "ytdikijbkfhimoaa", sum := "32089051fe448300a5dca1b5d2734694cae6301f778b3ca5e415367272a3db6f", func := "identity/identitylaw45.LogoutNil", spec := "logoutNil", inPlace := ["internal/bytealg.abigen_runtime_cmpstring"], unfollowed := true, recurses := true, apart := false }
def LogoutNilSaid : Prop := logoutNilRow.holds Try.pinned (OpenSpec.ofChange logoutNilSpec)

/-- ITS FALSE NEIGHBOUR: 'it returns false'. Refute it at one input. -/
def logoutNilWrong : ChangeSpec := { name := "logoutNil", fn := fun _ => fun
  | [d] => { results := [.lit (.bool false)], args := [d] }
  | _ => none }
def LogoutNilWrongFalsely : Prop := logoutNilRow.holds Try.pinned (OpenSpec.ofChange logoutNilWrong)

/-- 'identitylaw45.LogoutBound': WHATEVER THE INPUT: true; the input reads as it did. -/
def logoutBoundSpec : ChangeSpec := { name := "logoutBound", fn := fun _ => fun
  | [d1, d2, d3] => { results := [.lit (.bool true)], args := [d1, d2, d3] }
  | _ => none }
def logoutBoundRow : OpenClaim := { program := "ytdikijbkfhimoaa", sum := "32089051fe448300a5dca1b5d2734694cae6301f778b3ca5e415367272a3db6f", func := "identity/identitylaw45.LogoutBound", spec := "logoutBound", inPlace := ["internal/bytealg.abigen_runtime_cmpstring"], unfollowed := true, recurses := true, apart := false }
def LogoutBoundSaid : Prop := logoutBoundRow.holds Try.pinned (OpenSpec.ofChange logoutBoundSpec)

/-- ITS FALSE NEIGHBOUR: 'it returns false'. Refute it at one input. -/
def logoutBoundWrong : ChangeSpec := { name := "logoutBound", fn := fun _ => fun
  | [d1, d2, d3] => { results := [.lit (.bool false)], args := [d1, d2, d3] }
  | _ => none }
def LogoutBoundWrongFalsely : Prop := logoutBoundRow.holds Try.pinned (OpenSpec.ofChange logoutBoundWrong)

/- THE SECOND FORM. 'bulk': how many values and letters a reading holds, each counted each time it is reached (what is shared counts as often as it is met; a slice's spare places count too). A statement '..UptoSaid' is the law's where the arguments, and the package variables that the reading takes, are together of bulk at most 1048576: NARROWER than '..Said'. Prove '..Said' where nothing that the law and all that it calls make is longer than what came in: it says more and counts as full. Else prove '..UptoSaid'. A law counts once. -/
mutual
def uptoBulk {H : Type} : DataW H → Nat
  | .lit (.string bytes) => bytes.length + 1
  | .lit _ => 1
  | .nil => 1
  | .ptr d => uptoBulk d + 1
  | .slice elems spare => uptoBulkAll elems + uptoBulkAll spare + 1
  | .agg parts => uptoBulkAll parts + 1
  | .iface _ d => uptoBulk d + 1
  | .map entries => uptoBulkEntries entries + 1
  | .held _ => 1
def uptoBulkAll {H : Type} : List (DataW H) → Nat
  | [] => 0
  | d :: r => uptoBulk d + uptoBulkAll r
def uptoBulkEntries {H : Type} : List (Lit × DataW H) → Nat
  | [] => 0
  | x :: r => uptoBulkEntry x + uptoBulkEntries r
def uptoBulkEntry {H : Type} : Lit × DataW H → Nat
  | (.string bytes, d) => bytes.length + uptoBulk d + 1
  | (_, d) => uptoBulk d + 1
 end
def uptoSmall : (H : Type) → List (DataW H) → Bool := fun _ ds => decide (uptoBulkAll ds ≤ 1048576)
def OpenSpec.upto (s : _root_.Go.ChangeSpec) : _root_.Go.OpenSpec := { _root_.Go.OpenSpec.ofChange s with cond := some uptoSmall }

/-- 'identitylaw45.LogoutPlays', WHERE WHAT IT READS IS OF BULK AT MOST 1048576: true; the input reads as it did. -/
def logoutPlaysUptoRow : OpenClaim := { program := "ytdikijbkfhimoaa", sum := "32089051fe448300a5dca1b5d2734694cae6301f778b3ca5e415367272a3db6f", func := "identity/identitylaw45.LogoutPlays", spec := "logoutPlays", inPlace := ["internal/bytealg.abigen_runtime_cmpstring"], unfollowed := true, recurses := true, apart := false, narrowed := true }
def LogoutPlaysUptoSaid : Prop := logoutPlaysUptoRow.holds Try.pinned (OpenSpec.upto logoutPlaysSpec)

/-- 'identitylaw45.LogoutAttempts', WHERE WHAT IT READS IS OF BULK AT MOST 1048576: true; the input reads as it did. -/
def logoutAttemptsUptoRow : OpenClaim := { program := "ytdikijbkfhimoaa", sum := "32089051fe448300a5dca1b5d2734694cae6301f778b3ca5e415367272a3db6f", func := "identity/identitylaw45.LogoutAttempts", spec := "logoutAttempts", inPlace := ["internal/bytealg.abigen_runtime_cmpstring"], unfollowed := true, recurses := true, apart := false, narrowed := true }
def LogoutAttemptsUptoSaid : Prop := logoutAttemptsUptoRow.holds Try.pinned (OpenSpec.upto logoutAttemptsSpec)

/-- 'identitylaw45.LogoutCounts', WHERE WHAT IT READS IS OF BULK AT MOST 1048576: true; the input reads as it did. -/
def logoutCountsUptoRow : OpenClaim := { program := "ytdikijbkfhimoaa", sum := "32089051fe448300a5dca1b5d2734694cae6301f778b3ca5e415367272a3db6f", func := "identity/identitylaw45.LogoutCounts", spec := "logoutCounts", inPlace := ["internal/bytealg.abigen_runtime_cmpstring"], unfollowed := true, recurses := true, apart := false, narrowed := true }
def LogoutCountsUptoSaid : Prop := logoutCountsUptoRow.holds Try.pinned (OpenSpec.upto logoutCountsSpec)

/-- 'identitylaw45.LogoutOrders', WHERE WHAT IT READS IS OF BULK AT MOST 1048576: true; the input reads as it did. -/
def logoutOrdersUptoRow : OpenClaim := { program := "ytdikijbkfhimoaa", sum := "32089051fe448300a5dca1b5d2734694cae6301f778b3ca5e415367272a3db6f", func := "identity/identitylaw45.LogoutOrders", spec := "logoutOrders", inPlace := ["internal/bytealg.abigen_runtime_cmpstring"], unfollowed := true, recurses := true, apart := false, narrowed := true }
def LogoutOrdersUptoSaid : Prop := logoutOrdersUptoRow.holds Try.pinned (OpenSpec.upto logoutOrdersSpec)

/-- 'identitylaw45.LogoutNil', WHERE WHAT IT READS IS OF BULK AT MOST 1048576: true; the input reads as it did. -/
def logoutNilUptoRow : OpenClaim := { program := "ytdikijbkfhimoaa", sum := "32089051fe448300a5dca1b5d2734694cae6301f778b3ca5e415367272a3db6f", func := "identity/identitylaw45.LogoutNil", spec := "logoutNil", inPlace := ["internal/bytealg.abigen_runtime_cmpstring"], unfollowed := true, recurses := true, apart := false, narrowed := true }
def LogoutNilUptoSaid : Prop := logoutNilUptoRow.holds Try.pinned (OpenSpec.upto logoutNilSpec)

/-- 'identitylaw45.LogoutBound', WHERE WHAT IT READS IS OF BULK AT MOST 1048576: true; the input reads as it did. -/
def logoutBoundUptoRow : OpenClaim := { program := "ytdikijbkfhimoaa", sum := "32089051fe448300a5dca1b5d2734694cae6301f778b3ca5e415367272a3db6f", func := "identity/identitylaw45.LogoutBound", spec := "logoutBound", inPlace := ["internal/bytealg.abigen_runtime_cmpstring"], unfollowed := true, recurses := true, apart := false, narrowed := true }
def LogoutBoundUptoSaid : Prop := logoutBoundUptoRow.holds Try.pinned (OpenSpec.upto logoutBoundSpec)

end Rows
end Go.Proofs.Ytdikijbkfhimoaa
