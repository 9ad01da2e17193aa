/-
  No cell of these rows narrows 'for every input' (looked for: loops, veiled, ifaces, maps, wideKeys, modest, calm, conditions, laid).
  DERIVED. THE GIVEN ROWS OF THIS SEAT. 6 by the template 'for every input the law returns true; each argument reads behind the call as it read before'; 0 by the template 'total and deterministic' (their statements: YtbcbffmbpoffpaaTotals.lean).
  GIVEN WITH THE SEED: the statements are not yours to turn. If you find one false, say at which input.
  Laid BY PROGRAM, IN A SANDBOX (cutbox-rows.mjs): the forced cells as the released guide's own fill.sh prints them over the translation 79f43e78f451e62d… (all of the seat's roots in one cut). By AI agents, Wed Nov 11 2026. No macro, syntax, notation, axiom, sorry.
-/
import Derived.Test.YtbcbffmbpoffpaaChecked
import GoSem.Claim
import GoSem.ClaimJoined
import GoSem.ClaimMapViews
import Derived.JoinedTies
import Derived.KernelRfl
namespace Go.Proofs.Ytbcbffmbpoffpaa
/- THE CELL 'sum', in the pinned program and in every row, IS THE sha256 OF THE DUMP (.gsa) THAT YtbcbffmbpoffpaaProg.lean LOADS. Nothing in Lean hashes anything: it is a label: what it is worth is what the hold of that sum in a sandbox is worth. -/
noncomputable def Try.pinned : Pinned := { name := "ytbcbffmbpoffpaa", sum := "79f43e78f451e62d56453dff7d70b62dda3019f587174109e899ea0572f8178d", checked := Try.checked }
namespace Rows
def none {H : Type} : Left H := { results := [], args := [] }

/-- 'identitylaw33.RiskScores': WHATEVER THE INPUT: true; the input reads as it did. -/
def riskScoresSpec : ChangeSpec := { name := "riskScores", fn := fun _ => fun
  | [d1, d2, d3] => { results := [.lit (.bool true)], args := [d1, d2, d3] }
  | _ => none }
def riskScoresRow : OpenClaim := { program := "ytbcbffmbpoffpaa", sum := "79f43e78f451e62d56453dff7d70b62dda3019f587174109e899ea0572f8178d", func := "identity/identitylaw33.RiskScores", spec := "riskScores", inPlace := ["math/bits.Add64"], unfollowed := true, recurses := true, apart := false }
def RiskScoresSaid : Prop := riskScoresRow.holds Try.pinned (OpenSpec.ofChange riskScoresSpec)

/-- ITS FALSE NEIGHBOUR: 'it returns false'. Refute it at one input. -/
def riskScoresWrong : ChangeSpec := { name := "riskScores", fn := fun _ => fun
  | [d1, d2, d3] => { results := [.lit (.bool false)], args := [d1, d2, d3] }
  | _ => none }
def RiskScoresWrongFalsely : Prop := riskScoresRow.holds Try.pinned (OpenSpec.ofChange riskScoresWrong)

/-- 'identitylaw33.RiskPlays': WHATEVER THE INPUT: true; the input reads as it did. -/
def riskPlaysSpec : ChangeSpec := { name := "riskPlays", fn := fun _ => fun
  | [d] => { results := [.lit (.bool true)], args := [d] }
  | _ => none }
def riskPlaysRow : OpenClaim := { program := "ytbcbffmbpoffpaa", sum := "79f43e78f451e62d56453dff7d70b62dda3019f587174109e899ea0572f8178d", func := "identity/identitylaw33.RiskPlays", spec := "riskPlays", inPlace := ["math/bits.Add64"], unfollowed := true, recurses := true, apart := false }
def RiskPlaysSaid : Prop := riskPlaysRow.holds Try.pinned (OpenSpec.ofChange riskPlaysSpec)

/-- ITS FALSE NEIGHBOUR: 'it returns false'. Refute it at one input. -/
def riskPlaysWrong : ChangeSpec := { name := "riskPlays", fn := fun _ => fun
  | [d] => { results := [.lit (.bool false)], args := [d] }
  | _ => none }
def RiskPlaysWrongFalsely : Prop := riskPlaysRow.holds Try.pinned (OpenSpec.ofChange riskPlaysWrong)

/-- 'identitylaw33.RiskTotals': WHATEVER THE INPUT: true; the input reads as it did. -/
def riskTotalsSpec : ChangeSpec := { name := "riskTotals", fn := fun _ => fun
  | [d1, d2, d3] => { results := [.lit (.bool true)], args := [d1, d2, d3] }
  | _ => none }
def riskTotalsRow : OpenClaim := { program := "ytbcbffmbpoffpaa", sum := "79f43e78f451e62d56453dff7d70b62dda3019f587174109e899ea0572f8178d", func := "identity/identitylaw33.RiskTotals", spec := "riskTotals", inPlace := ["math/bits.Add64"], unfollowed := true, recurses := true, apart := false }
def RiskTotalsSaid : Prop := riskTotalsRow.holds Try.pinned (OpenSpec.ofChange riskTotalsSpec)

/-- ITS FALSE NEIGHBOUR: 'it returns false'. Refute it at one input. -/
def riskTotalsWrong : ChangeSpec := { name := "riskTotals", fn := fun _ => fun
  | [d1, d2, d3] => { results := [.lit (.bool false)], args := [d1, d2, d3] }
  | _ => none }
def RiskTotalsWrongFalsely : Prop := riskTotalsRow.holds Try.pinned (OpenSpec.ofChange riskTotalsWrong)

/-- 'identitylaw33.RiskRemembers': WHATEVER THE INPUT: true; the input reads as it did. -/
def riskRemembersSpec : ChangeSpec := { name := "riskRemembers", fn := fun _ => fun
  | [d1, d2] => { results := [.lit (.bool true)], args := [d1, d2] }
  | _ => none }
def riskRemembersRow : OpenClaim := { program := "ytbcbffmbpoffpaa", sum := "79f43e78f451e62d56453dff7d70b62dda3019f587174109e899ea0572f8178d", func := "identity/identitylaw33.RiskRemembers", spec := "riskRemembers", inPlace := ["math/bits.Add64"], unfollowed := true, recurses := true, apart := false }
def RiskRemembersSaid : Prop := riskRemembersRow.holds Try.pinned (OpenSpec.ofChange riskRemembersSpec)

/-- ITS FALSE NEIGHBOUR: 'it returns false'. Refute it at one input. -/
def riskRemembersWrong : ChangeSpec := { name := "riskRemembers", fn := fun _ => fun
  | [d1, d2] => { results := [.lit (.bool false)], args := [d1, d2] }
  | _ => none }
def RiskRemembersWrongFalsely : Prop := riskRemembersRow.holds Try.pinned (OpenSpec.ofChange riskRemembersWrong)

/-- 'identitylaw33.RiskForgets': WHATEVER THE INPUT: true; the input reads as it did. -/
def riskForgetsSpec : ChangeSpec := { name := "riskForgets", fn := fun _ => fun
  | [d] => { results := [.lit (.bool true)], args := [d] }
  | _ => none }
def riskForgetsRow : OpenClaim := { program := "ytbcbffmbpoffpaa", sum := "79f43e78f451e62d56453dff7d70b62dda3019f587174109e899ea0572f8178d", func := "identity/identitylaw33.RiskForgets", spec := "riskForgets", inPlace := ["math/bits.Add64"], unfollowed := true, recurses := true, apart := false }
def RiskForgetsSaid : Prop := riskForgetsRow.holds Try.pinned (OpenSpec.ofChange riskForgetsSpec)

/-- ITS FALSE NEIGHBOUR: 'it returns false'. Refute it at one input. -/
def riskForgetsWrong : ChangeSpec := { name := "riskForgets", fn := fun _ => fun
  | [d] => { results := [.lit (.bool false)], args := [d] }
  | _ => none }
def RiskForgetsWrongFalsely : Prop := riskForgetsRow.holds Try.pinned (OpenSpec.ofChange riskForgetsWrong)

/-- 'identitylaw33.RiskApart': WHATEVER THE INPUT: true; the input reads as it did. -/
def riskApartSpec : ChangeSpec := { name := "riskApart", fn := fun _ => fun
  | [d1, d2] => { results := [.lit (.bool true)], args := [d1, d2] }
  | _ => none }
def riskApartRow : OpenClaim := { program := "ytbcbffmbpoffpaa", sum := "79f43e78f451e62d56453dff7d70b62dda3019f587174109e899ea0572f8178d", func := "identity/identitylaw33.RiskApart", spec := "riskApart", inPlace := ["math/bits.Add64"], unfollowed := true, recurses := true, apart := false }
def RiskApartSaid : Prop := riskApartRow.holds Try.pinned (OpenSpec.ofChange riskApartSpec)

/-- ITS FALSE NEIGHBOUR: 'it returns false'. Refute it at one input. -/
def riskApartWrong : ChangeSpec := { name := "riskApart", fn := fun _ => fun
  | [d1, d2] => { results := [.lit (.bool false)], args := [d1, d2] }
  | _ => none }
def RiskApartWrongFalsely : Prop := riskApartRow.holds Try.pinned (OpenSpec.ofChange riskApartWrong)

/- THE SECOND FORM. 'bulk': how many values and letters a reading holds, each counted each time it is reached (what is shared counts as often as it is met; a slice's spare places count too). A statement '..UptoSaid' is the law's where the arguments, and the package variables that the reading takes, are together of bulk at most 1048576: NARROWER than '..Said'. Prove '..Said' where nothing that the law and all that it calls make is longer than what came in: it says more and counts as full. Else prove '..UptoSaid'. A law counts once. -/
mutual
def uptoBulk {H : Type} : DataW H → Nat
  | .lit (.string bytes) => bytes.length + 1
  | .lit _ => 1
  | .nil => 1
  | .ptr d => uptoBulk d + 1
  | .slice elems spare => uptoBulkAll elems + uptoBulkAll spare + 1
  | .agg parts => uptoBulkAll parts + 1
  | .iface _ d => uptoBulk d + 1
  | .map entries => uptoBulkEntries entries + 1
  | .held _ => 1
def uptoBulkAll {H : Type} : List (DataW H) → Nat
  | [] => 0
  | d :: r => uptoBulk d + uptoBulkAll r
def uptoBulkEntries {H : Type} : List (Lit × DataW H) → Nat
  | [] => 0
  | x :: r => uptoBulkEntry x + uptoBulkEntries r
def uptoBulkEntry {H : Type} : Lit × DataW H → Nat
  | (.string bytes, d) => bytes.length + uptoBulk d + 1
  | (_, d) => uptoBulk d + 1
 end
def uptoSmall : (H : Type) → List (DataW H) → Bool := fun _ ds => decide (uptoBulkAll ds ≤ 1048576)
def OpenSpec.upto (s : _root_.Go.ChangeSpec) : _root_.Go.OpenSpec := { _root_.Go.OpenSpec.ofChange s with cond := some uptoSmall }

/-- 'identitylaw33.RiskScores', WHERE WHAT IT READS IS OF BULK AT MOST 1048576: true; the input reads as it did. -/
def riskScoresUptoRow : OpenClaim := { program := "ytbcbffmbpoffpaa", sum := "79f43e78f451e62d56453dff7d70b62dda3019f587174109e899ea0572f8178d", func := "identity/identitylaw33.RiskScores", spec := "riskScores", inPlace := ["math/bits.Add64"], unfollowed := true, recurses := true, apart := false, narrowed := true }
def RiskScoresUptoSaid : Prop := riskScoresUptoRow.holds Try.pinned (OpenSpec.upto riskScoresSpec)

/-- 'identitylaw33.RiskPlays', WHERE WHAT IT READS IS OF BULK AT MOST 1048576: true; the input reads as it did. -/
def riskPlaysUptoRow : OpenClaim := { program := "ytbcbffmbpoffpaa", sum := "79f43e78f451e62d56453dff7d70b62dda3019f587174109e899ea0572f8178d", func := "identity/identitylaw33.RiskPlays", spec := "riskPlays", inPlace := ["math/bits.Add64"], unfollowed := true, recurses := true, apart := false, narrowed := true }
def RiskPlaysUptoSaid : Prop := riskPlaysUptoRow.holds Try.pinned (OpenSpec.upto riskPlaysSpec)

/-- 'identitylaw33.RiskTotals', WHERE WHAT IT READS IS OF BULK AT MOST 1048576: true; the input reads as it did. -/
def riskTotalsUptoRow : OpenClaim := { program := "ytbcbffmbpoffpaa", sum := "79f43e78f451e62d56453dff7d70b62dda3019f587174109e899ea0572f8178d", func := "identity/identitylaw33.RiskTotals", spec := "riskTotals", inPlace := ["math/bits.Add64"], unfollowed := true, recurses := true, apart := false, narrowed := true }
def RiskTotalsUptoSaid : Prop := riskTotalsUptoRow.holds Try.pinned (OpenSpec.upto riskTotalsSpec)

/-- 'identitylaw33.RiskRemembers', WHERE WHAT IT READS IS OF BULK AT MOST 1048576: true; the input reads as it did. -/
def riskRemembersUptoRow : OpenClaim := { program := "ytbcbffmbpoffpaa", sum := "79f43e78f451e62d56453dff7d70b62dda3019f587174109e899ea0572f8178d", func := "identity/identitylaw33.RiskRemembers", spec := "riskRemembers", inPlace := ["math/bits.Add64"], unfollowed := true, recurses := true, apart := false, narrowed := true }
def RiskRemembersUptoSaid : Prop := riskRemembersUptoRow.holds Try.pinned (OpenSpec.upto riskRemembersSpec)

/-- 'identitylaw33.RiskForgets', WHERE WHAT IT READS IS OF BULK AT MOST 1048576: true; the input reads as it did. -/
def riskForgetsUptoRow : OpenClaim := { program := "ytbcbffmbpoffpaa", sum := "79f43e78f451e62d56453dff7d70b62dda3019f587174109e899ea0572f8178d", func := "identity/identitylaw33.RiskForgets", spec := "riskForgets", inPlace := ["math/bits.Add64"], unfollowed := true, recurses := true, apart := false, narrowed := true }
def RiskForgetsUptoSaid : Prop := riskForgetsUptoRow.holds Try.pinned (OpenSpec.upto riskForgetsSpec)

/-- 'identitylaw33.RiskApart', WHERE WHAT IT READS IS OF BULK AT MOST 1048576: true; the input reads as it did. -/
def riskApartUptoRow : OpenClaim := { program := "ytbcbffmbpoffpaa", sum := "79f43e78f451e62d56453dff7d70b62dda3019f587174109e899ea0572f8178d", func := "identity/identitylaw33.RiskApart", spec := "riskApart", inPlace := ["math/bits.Add64"], unfollowed := true, recurses := true, apart := false, narrowed := true }
def RiskApartUptoSaid : Prop := riskApartUptoRow.holds Try.pinned (OpenSpec.upto riskApartSpec)

end Rows
end Go.Proofs.Ytbcbffmbpoffpaa
