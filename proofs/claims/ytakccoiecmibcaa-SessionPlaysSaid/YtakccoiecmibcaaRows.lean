/-
  No cell of these rows narrows 'for every input' (looked for: loops, veiled, ifaces, maps, wideKeys, modest, calm, conditions, laid).
  DERIVED. THE GIVEN ROWS OF THIS SEAT. 5 by the template 'for every input the law returns true; each argument reads behind the call as it read before'; 0 by the template 'total and deterministic' (their statements: YtakccoiecmibcaaTotals.lean).
  GIVEN WITH THE SEED: the statements are not yours to turn. If you find one false, say at which input.
  Laid BY PROGRAM, IN A SANDBOX (cutbox-rows.mjs): the forced cells as the released guide's own fill.sh prints them over the translation 27a8bcdf3d5f4d35… (all of the seat's roots in one cut). By AI agents, Wed Nov 11 2026. No macro, syntax, notation, axiom, sorry.
-/
import Derived.Test.YtakccoiecmibcaaChecked
import GoSem.Claim
import GoSem.ClaimJoined
import GoSem.ClaimMapViews
import Derived.JoinedTies
import Derived.KernelRfl
namespace Go.Proofs.Ytakccoiecmibcaa
/- THE CELL 'sum', in the pinned program and in every row, IS THE sha256 OF THE DUMP (.gsa) THAT YtakccoiecmibcaaProg.lean LOADS. Nothing in Lean hashes anything: it is a label: what it is worth is what the hold of that sum in a sandbox is worth. -/
noncomputable def Try.pinned : Pinned := { name := "ytakccoiecmibcaa", sum := "27a8bcdf3d5f4d35573925ab39cc1b6f9fef508ddae50a57dd9e1be3b3f3a980", checked := Try.checked }
namespace Rows
def none {H : Type} : Left H := { results := [], args := [] }

/-- 'identitylaw38.SessionLimits': WHATEVER THE INPUT: true; the input reads as it did. -/
def sessionLimitsSpec : ChangeSpec := { name := "sessionLimits", fn := fun _ => fun
  | [d1, d2] => { results := [.lit (.bool true)], args := [d1, d2] }
  | _ => none }
def sessionLimitsRow : OpenClaim := { program := "ytakccoiecmibcaa", sum := "27a8bcdf3d5f4d35573925ab39cc1b6f9fef508ddae50a57dd9e1be3b3f3a980", func := "identity/identitylaw38.SessionLimits", spec := "sessionLimits", unfollowed := true, recurses := true, apart := false }
def SessionLimitsSaid : Prop := sessionLimitsRow.holds Try.pinned (OpenSpec.ofChange sessionLimitsSpec)

/-- ITS FALSE NEIGHBOUR: 'it returns false'. Refute it at one input. -/
def sessionLimitsWrong : ChangeSpec := { name := "sessionLimits", fn := fun _ => fun
  | [d1, d2] => { results := [.lit (.bool false)], args := [d1, d2] }
  | _ => none }
def SessionLimitsWrongFalsely : Prop := sessionLimitsRow.holds Try.pinned (OpenSpec.ofChange sessionLimitsWrong)

/-- 'identitylaw38.SessionPlays': WHATEVER THE INPUT: true; the input reads as it did. -/
def sessionPlaysSpec : ChangeSpec := { name := "sessionPlays", fn := fun _ => fun
  | [d1, d2, d3, d4] => { results := [.lit (.bool true)], args := [d1, d2, d3, d4] }
  | _ => none }
def sessionPlaysRow : OpenClaim := { program := "ytakccoiecmibcaa", sum := "27a8bcdf3d5f4d35573925ab39cc1b6f9fef508ddae50a57dd9e1be3b3f3a980", func := "identity/identitylaw38.SessionPlays", spec := "sessionPlays", unfollowed := true, recurses := true, apart := false }
def SessionPlaysSaid : Prop := sessionPlaysRow.holds Try.pinned (OpenSpec.ofChange sessionPlaysSpec)

/-- ITS FALSE NEIGHBOUR: 'it returns false'. Refute it at one input. -/
def sessionPlaysWrong : ChangeSpec := { name := "sessionPlays", fn := fun _ => fun
  | [d1, d2, d3, d4] => { results := [.lit (.bool false)], args := [d1, d2, d3, d4] }
  | _ => none }
def SessionPlaysWrongFalsely : Prop := sessionPlaysRow.holds Try.pinned (OpenSpec.ofChange sessionPlaysWrong)

/-- 'identitylaw38.SessionEnded': WHATEVER THE INPUT: true; the input reads as it did. -/
def sessionEndedSpec : ChangeSpec := { name := "sessionEnded", fn := fun _ => fun
  | [d1, d2, d3, d4, d5] => { results := [.lit (.bool true)], args := [d1, d2, d3, d4, d5] }
  | _ => none }
def sessionEndedRow : OpenClaim := { program := "ytakccoiecmibcaa", sum := "27a8bcdf3d5f4d35573925ab39cc1b6f9fef508ddae50a57dd9e1be3b3f3a980", func := "identity/identitylaw38.SessionEnded", spec := "sessionEnded", unfollowed := true, recurses := true, apart := false }
def SessionEndedSaid : Prop := sessionEndedRow.holds Try.pinned (OpenSpec.ofChange sessionEndedSpec)

/-- ITS FALSE NEIGHBOUR: 'it returns false'. Refute it at one input. -/
def sessionEndedWrong : ChangeSpec := { name := "sessionEnded", fn := fun _ => fun
  | [d1, d2, d3, d4, d5] => { results := [.lit (.bool false)], args := [d1, d2, d3, d4, d5] }
  | _ => none }
def SessionEndedWrongFalsely : Prop := sessionEndedRow.holds Try.pinned (OpenSpec.ofChange sessionEndedWrong)

/-- 'identitylaw38.SessionBounded': WHATEVER THE INPUT: true; the input reads as it did. -/
def sessionBoundedSpec : ChangeSpec := { name := "sessionBounded", fn := fun _ => fun
  | [d1, d2, d3, d4] => { results := [.lit (.bool true)], args := [d1, d2, d3, d4] }
  | _ => none }
def sessionBoundedRow : OpenClaim := { program := "ytakccoiecmibcaa", sum := "27a8bcdf3d5f4d35573925ab39cc1b6f9fef508ddae50a57dd9e1be3b3f3a980", func := "identity/identitylaw38.SessionBounded", spec := "sessionBounded", unfollowed := true, recurses := true, apart := false }
def SessionBoundedSaid : Prop := sessionBoundedRow.holds Try.pinned (OpenSpec.ofChange sessionBoundedSpec)

/-- ITS FALSE NEIGHBOUR: 'it returns false'. Refute it at one input. -/
def sessionBoundedWrong : ChangeSpec := { name := "sessionBounded", fn := fun _ => fun
  | [d1, d2, d3, d4] => { results := [.lit (.bool false)], args := [d1, d2, d3, d4] }
  | _ => none }
def SessionBoundedWrongFalsely : Prop := sessionBoundedRow.holds Try.pinned (OpenSpec.ofChange sessionBoundedWrong)

/-- 'identitylaw38.SessionKept': WHATEVER THE INPUT: true; the input reads as it did. -/
def sessionKeptSpec : ChangeSpec := { name := "sessionKept", fn := fun _ => fun
  | [d1, d2, d3, d4, d5] => { results := [.lit (.bool true)], args := [d1, d2, d3, d4, d5] }
  | _ => none }
def sessionKeptRow : OpenClaim := { program := "ytakccoiecmibcaa", sum := "27a8bcdf3d5f4d35573925ab39cc1b6f9fef508ddae50a57dd9e1be3b3f3a980", func := "identity/identitylaw38.SessionKept", spec := "sessionKept", unfollowed := true, recurses := true, apart := false }
def SessionKeptSaid : Prop := sessionKeptRow.holds Try.pinned (OpenSpec.ofChange sessionKeptSpec)

/-- ITS FALSE NEIGHBOUR: 'it returns false'. Refute it at one input. -/
def sessionKeptWrong : ChangeSpec := { name := "sessionKept", fn := fun _ => fun
  | [d1, d2, d3, d4, d5] => { results := [.lit (.bool false)], args := [d1, d2, d3, d4, d5] }
  | _ => none }
def SessionKeptWrongFalsely : Prop := sessionKeptRow.holds Try.pinned (OpenSpec.ofChange sessionKeptWrong)

/- THE SECOND FORM. 'bulk': how many values and letters a reading holds, each counted each time it is reached (what is shared counts as often as it is met; a slice's spare places count too). A statement '..UptoSaid' is the law's where the arguments, and the package variables that the reading takes, are together of bulk at most 1048576: NARROWER than '..Said'. Prove '..Said' where nothing that the law and all that it calls make is longer than what came in: it says more and counts as full. Else prove '..UptoSaid'. A law counts once. -/
mutual
def uptoBulk {H : Type} : DataW H → Nat
  | .lit (.string bytes) => bytes.length + 1
  | .lit _ => 1
  | .nil => 1
  | .ptr d => uptoBulk d + 1
  | .slice elems spare => uptoBulkAll elems + uptoBulkAll spare + 1
  | .agg parts => uptoBulkAll parts + 1
  | .iface _ d => uptoBulk d + 1
  | .map entries => uptoBulkEntries entries + 1
  | .held _ => 1
def uptoBulkAll {H : Type} : List (DataW H) → Nat
  | [] => 0
  | d :: r => uptoBulk d + uptoBulkAll r
def uptoBulkEntries {H : Type} : List (Lit × DataW H) → Nat
  | [] => 0
  | x :: r => uptoBulkEntry x + uptoBulkEntries r
def uptoBulkEntry {H : Type} : Lit × DataW H → Nat
  | (.string bytes, d) => bytes.length + uptoBulk d + 1
  | (_, d) => uptoBulk d + 1
 end
def uptoSmall : (H : Type) → List (DataW H) → Bool := fun _ ds => decide (uptoBulkAll ds ≤ 1048576)
def OpenSpec.upto (s : _root_.Go.ChangeSpec) : _root_.Go.OpenSpec := { _root_.Go.OpenSpec.ofChange s with cond := some uptoSmall }

/-- 'identitylaw38.SessionLimits', WHERE WHAT IT READS IS OF BULK AT MOST 1048576: true; the input reads as it did. -/
def sessionLimitsUptoRow : OpenClaim := { program := "ytakccoiecmibcaa", sum := "27a8bcdf3d5f4d35573925ab39cc1b6f9fef508ddae50a57dd9e1be3b3f3a980", func := "identity/identitylaw38.SessionLimits", spec := "sessionLimits", unfollowed := true, recurses := true, apart := false, narrowed := true }
def SessionLimitsUptoSaid : Prop := sessionLimitsUptoRow.holds Try.pinned (OpenSpec.upto sessionLimitsSpec)

/-- 'identitylaw38.SessionPlays', WHERE WHAT IT READS IS OF BULK AT MOST 1048576: true; the input reads as it did. -/
def sessionPlaysUptoRow : OpenClaim := { program := "ytakccoiecmibcaa", sum := "27a8bcdf3d5f4d35573925ab39cc1b6f9fef508ddae50a57dd9e1be3b3f3a980", func := "identity/identitylaw38.SessionPlays", spec := "sessionPlays", unfollowed := true, recurses := true, apart := false, narrowed := true }
def SessionPlaysUptoSaid : Prop := sessionPlaysUptoRow.holds Try.pinned (OpenSpec.upto sessionPlaysSpec)

/-- 'identitylaw38.SessionEnded', WHERE WHAT IT READS IS OF BULK AT MOST 1048576: true; the input reads as it did. -/
def sessionEndedUptoRow : OpenClaim := { program := "ytakccoiecmibcaa", sum := "27a8bcdf3d5f4d35573925ab39cc1b6f9fef508ddae50a57dd9e1be3b3f3a980", func := "identity/identitylaw38.SessionEnded", spec := "sessionEnded", unfollowed := true, recurses := true, apart := false, narrowed := true }
def SessionEndedUptoSaid : Prop := sessionEndedUptoRow.holds Try.pinned (OpenSpec.upto sessionEndedSpec)

/-- 'identitylaw38.SessionBounded', WHERE WHAT IT READS IS OF BULK AT MOST 1048576: true; the input reads as it did. -/
def sessionBoundedUptoRow : OpenClaim := { program := "ytakccoiecmibcaa", sum := "27a8bcdf3d5f4d35573925ab39cc1b6f9fef508ddae50a57dd9e1be3b3f3a980", func := "identity/identitylaw38.SessionBounded", spec := "sessionBounded", unfollowed := true, recurses := true, apart := false, narrowed := true }
def SessionBoundedUptoSaid : Prop := sessionBoundedUptoRow.holds Try.pinned (OpenSpec.upto sessionBoundedSpec)

/-- 'identitylaw38.SessionKept', WHERE WHAT IT READS IS OF BULK AT MOST 1048576: true; the input reads as it did. -/
def sessionKeptUptoRow : OpenClaim := { program := "ytakccoiecmibcaa", sum := "27a8bcdf3d5f4d35573925ab39cc1b6f9fef508ddae50a57dd9e1be3b3f3a980", func := "identity/identitylaw38.SessionKept", spec := "sessionKept", unfollowed := true, recurses := true, apart := false, narrowed := true }
def SessionKeptUptoSaid : Prop := sessionKeptUptoRow.holds Try.pinned (OpenSpec.upto sessionKeptSpec)

end Rows
end Go.Proofs.Ytakccoiecmibcaa
