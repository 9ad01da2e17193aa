/-
  No cell of these rows narrows 'for every input' (looked for: loops, veiled, ifaces, maps, wideKeys, modest, calm, conditions, laid).
  DERIVED. THE GIVEN ROWS OF THIS SEAT. 6 by the template 'for every input the law returns true; each argument reads behind the call as it read before'; 0 by the template 'total and deterministic' (their statements: YtmipnhdfhgekkaaTotals.lean).
  GIVEN WITH THE SEED: the statements are not yours to turn. If you find one false, say at which input.
  Laid BY PROGRAM, IN A SANDBOX (cutbox-rows.mjs): the forced cells as the released guide's own fill.sh prints them over the translation b9122f05dd265d88… (all of the seat's roots in one cut). By AI agents, Wed Nov 11 2026. No macro, syntax, notation, axiom, sorry.
-/
import Derived.Test.YtmipnhdfhgekkaaChecked
import GoSem.Claim
import GoSem.ClaimJoined
import GoSem.ClaimMapViews
import Derived.JoinedTies
import Derived.KernelRfl
namespace Go.Proofs.Ytmipnhdfhgekkaa
/- THE CELL 'sum', in the pinned program and in every row, IS THE sha256 OF THE DUMP (.gsa) THAT YtmipnhdfhgekkaaProg.lean LOADS. Nothing in Lean hashes anything: it is a label: what it is worth is what the hold of that sum in a sandbox is worth. -/
noncomputable def Try.pinned : Pinned := { name := "ytmipnhdfhgekkaa", sum := "b9122f05dd265d88817ae5af86fd48bf601956279e8f4804a80e9aced38a6e54", checked := Try.checked }
namespace Rows
def none {H : Type} : Left H := { results := [], args := [] }

/-- 'identitylaw34.StrengthLevels': WHATEVER THE INPUT: true; the input reads as it did. -/
def strengthLevelsSpec : ChangeSpec := { name := "strengthLevels", fn := fun _ => fun
  | [d1, d2] => { results := [.lit (.bool true)], args := [d1, d2] }
  | _ => none }
def strengthLevelsRow : OpenClaim := { program := "ytmipnhdfhgekkaa", sum := "b9122f05dd265d88817ae5af86fd48bf601956279e8f4804a80e9aced38a6e54", func := "identity/identitylaw34.StrengthLevels", spec := "strengthLevels", unfollowed := true, recurses := true, apart := false }
def StrengthLevelsSaid : Prop := strengthLevelsRow.holds Try.pinned (OpenSpec.ofChange strengthLevelsSpec)

/-- ITS FALSE NEIGHBOUR: 'it returns false'. Refute it at one input. -/
def strengthLevelsWrong : ChangeSpec := { name := "strengthLevels", fn := fun _ => fun
  | [d1, d2] => { results := [.lit (.bool false)], args := [d1, d2] }
  | _ => none }
def StrengthLevelsWrongFalsely : Prop := strengthLevelsRow.holds Try.pinned (OpenSpec.ofChange strengthLevelsWrong)

/-- 'identitylaw34.StrengthFresh': WHATEVER THE INPUT: true; the input reads as it did. -/
def strengthFreshSpec : ChangeSpec := { name := "strengthFresh", fn := fun _ => fun
  | [d1, d2, d3, d4] => { results := [.lit (.bool true)], args := [d1, d2, d3, d4] }
  | _ => none }
def strengthFreshRow : OpenClaim := { program := "ytmipnhdfhgekkaa", sum := "b9122f05dd265d88817ae5af86fd48bf601956279e8f4804a80e9aced38a6e54", func := "identity/identitylaw34.StrengthFresh", spec := "strengthFresh", unfollowed := true, recurses := true, apart := false }
def StrengthFreshSaid : Prop := strengthFreshRow.holds Try.pinned (OpenSpec.ofChange strengthFreshSpec)

/-- ITS FALSE NEIGHBOUR: 'it returns false'. Refute it at one input. -/
def strengthFreshWrong : ChangeSpec := { name := "strengthFresh", fn := fun _ => fun
  | [d1, d2, d3, d4] => { results := [.lit (.bool false)], args := [d1, d2, d3, d4] }
  | _ => none }
def StrengthFreshWrongFalsely : Prop := strengthFreshRow.holds Try.pinned (OpenSpec.ofChange strengthFreshWrong)

/-- 'identitylaw34.StrengthNeeds': WHATEVER THE INPUT: true; the input reads as it did. -/
def strengthNeedsSpec : ChangeSpec := { name := "strengthNeeds", fn := fun _ => fun
  | [d1, d2, d3, d4] => { results := [.lit (.bool true)], args := [d1, d2, d3, d4] }
  | _ => none }
def strengthNeedsRow : OpenClaim := { program := "ytmipnhdfhgekkaa", sum := "b9122f05dd265d88817ae5af86fd48bf601956279e8f4804a80e9aced38a6e54", func := "identity/identitylaw34.StrengthNeeds", spec := "strengthNeeds", unfollowed := true, recurses := true, apart := false }
def StrengthNeedsSaid : Prop := strengthNeedsRow.holds Try.pinned (OpenSpec.ofChange strengthNeedsSpec)

/-- ITS FALSE NEIGHBOUR: 'it returns false'. Refute it at one input. -/
def strengthNeedsWrong : ChangeSpec := { name := "strengthNeeds", fn := fun _ => fun
  | [d1, d2, d3, d4] => { results := [.lit (.bool false)], args := [d1, d2, d3, d4] }
  | _ => none }
def StrengthNeedsWrongFalsely : Prop := strengthNeedsRow.holds Try.pinned (OpenSpec.ofChange strengthNeedsWrong)

/-- 'identitylaw34.StrengthAdds': WHATEVER THE INPUT: true; the input reads as it did. -/
def strengthAddsSpec : ChangeSpec := { name := "strengthAdds", fn := fun _ => fun
  | [d1, d2] => { results := [.lit (.bool true)], args := [d1, d2] }
  | _ => none }
def strengthAddsRow : OpenClaim := { program := "ytmipnhdfhgekkaa", sum := "b9122f05dd265d88817ae5af86fd48bf601956279e8f4804a80e9aced38a6e54", func := "identity/identitylaw34.StrengthAdds", spec := "strengthAdds", unfollowed := true, recurses := true, apart := false }
def StrengthAddsSaid : Prop := strengthAddsRow.holds Try.pinned (OpenSpec.ofChange strengthAddsSpec)

/-- ITS FALSE NEIGHBOUR: 'it returns false'. Refute it at one input. -/
def strengthAddsWrong : ChangeSpec := { name := "strengthAdds", fn := fun _ => fun
  | [d1, d2] => { results := [.lit (.bool false)], args := [d1, d2] }
  | _ => none }
def StrengthAddsWrongFalsely : Prop := strengthAddsRow.holds Try.pinned (OpenSpec.ofChange strengthAddsWrong)

/-- 'identitylaw34.StrengthGrows': WHATEVER THE INPUT: true; the input reads as it did. -/
def strengthGrowsSpec : ChangeSpec := { name := "strengthGrows", fn := fun _ => fun
  | [d1, d2, d3, d4, d5, d6, d7] => { results := [.lit (.bool true)], args := [d1, d2, d3, d4, d5, d6, d7] }
  | _ => none }
def strengthGrowsRow : OpenClaim := { program := "ytmipnhdfhgekkaa", sum := "b9122f05dd265d88817ae5af86fd48bf601956279e8f4804a80e9aced38a6e54", func := "identity/identitylaw34.StrengthGrows", spec := "strengthGrows", unfollowed := true, recurses := true, apart := false }
def StrengthGrowsSaid : Prop := strengthGrowsRow.holds Try.pinned (OpenSpec.ofChange strengthGrowsSpec)

/-- ITS FALSE NEIGHBOUR: 'it returns false'. Refute it at one input. -/
def strengthGrowsWrong : ChangeSpec := { name := "strengthGrows", fn := fun _ => fun
  | [d1, d2, d3, d4, d5, d6, d7] => { results := [.lit (.bool false)], args := [d1, d2, d3, d4, d5, d6, d7] }
  | _ => none }
def StrengthGrowsWrongFalsely : Prop := strengthGrowsRow.holds Try.pinned (OpenSpec.ofChange strengthGrowsWrong)

/-- 'identitylaw34.StrengthReaches': WHATEVER THE INPUT: true; the input reads as it did. -/
def strengthReachesSpec : ChangeSpec := { name := "strengthReaches", fn := fun _ => fun
  | [d1, d2, d3, d4, d5] => { results := [.lit (.bool true)], args := [d1, d2, d3, d4, d5] }
  | _ => none }
def strengthReachesRow : OpenClaim := { program := "ytmipnhdfhgekkaa", sum := "b9122f05dd265d88817ae5af86fd48bf601956279e8f4804a80e9aced38a6e54", func := "identity/identitylaw34.StrengthReaches", spec := "strengthReaches", unfollowed := true, recurses := true, apart := false }
def StrengthReachesSaid : Prop := strengthReachesRow.holds Try.pinned (OpenSpec.ofChange strengthReachesSpec)

/-- ITS FALSE NEIGHBOUR: 'it returns false'. Refute it at one input. -/
def strengthReachesWrong : ChangeSpec := { name := "strengthReaches", fn := fun _ => fun
  | [d1, d2, d3, d4, d5] => { results := [.lit (.bool false)], args := [d1, d2, d3, d4, d5] }
  | _ => none }
def StrengthReachesWrongFalsely : Prop := strengthReachesRow.holds Try.pinned (OpenSpec.ofChange strengthReachesWrong)

/- THE SECOND FORM. 'bulk': how many values and letters a reading holds, each counted each time it is reached (what is shared counts as often as it is met; a slice's spare places count too). A statement '..UptoSaid' is the law's where the arguments, and the package variables that the reading takes, are together of bulk at most 1048576: NARROWER than '..Said'. Prove '..Said' where nothing that the law and all that it calls make is longer than what came in: it says more and counts as full. Else prove '..UptoSaid'. A law counts once. -/
mutual
def uptoBulk {H : Type} : DataW H → Nat
  | .lit (.string bytes) => bytes.length + 1
  | .lit _ => 1
  | .nil => 1
  | .ptr d => uptoBulk d + 1
  | .slice elems spare => uptoBulkAll elems + uptoBulkAll spare + 1
  | .agg parts => uptoBulkAll parts + 1
  | .iface _ d => uptoBulk d + 1
  | .map entries => uptoBulkEntries entries + 1
  | .held _ => 1
def uptoBulkAll {H : Type} : List (DataW H) → Nat
  | [] => 0
  | d :: r => uptoBulk d + uptoBulkAll r
def uptoBulkEntries {H : Type} : List (Lit × DataW H) → Nat
  | [] => 0
  | x :: r => uptoBulkEntry x + uptoBulkEntries r
def uptoBulkEntry {H : Type} : Lit × DataW H → Nat
  | (.string bytes, d) => bytes.length + uptoBulk d + 1
  | (_, d) => uptoBulk d + 1
 end
def uptoSmall : (H : Type) → List (DataW H) → Bool := fun _ ds => decide (uptoBulkAll ds ≤ 1048576)
def OpenSpec.upto (s : _root_.Go.ChangeSpec) : _root_.Go.OpenSpec := { _root_.Go.OpenSpec.ofChange s with cond := some uptoSmall }

/-- 'identitylaw34.StrengthLevels', WHERE WHAT IT READS IS OF BULK AT MOST 1048576: true; the input reads as it did. -/
def strengthLevelsUptoRow : OpenClaim := { program := "ytmipnhdfhgekkaa", sum := "b9122f05dd265d88817ae5af86fd48bf601956279e8f4804a80e9aced38a6e54", func := "identity/identitylaw34.StrengthLevels", spec := "strengthLevels", unfollowed := true, recurses := true, apart := false, narrowed := true }
def StrengthLevelsUptoSaid : Prop := strengthLevelsUptoRow.holds Try.pinned (OpenSpec.upto strengthLevelsSpec)

/-- 'identitylaw34.StrengthFresh', WHERE WHAT IT READS IS OF BULK AT MOST 1048576: true; the input reads as it did. -/
def strengthFreshUptoRow : OpenClaim := { program := "ytmipnhdfhgekkaa", sum := "b9122f05dd265d88817ae5af86fd48bf601956279e8f4804a80e9aced38a6e54", func := "identity/identitylaw34.StrengthFresh", spec := "strengthFresh", unfollowed := true, recurses := true, apart := false, narrowed := true }
def StrengthFreshUptoSaid : Prop := strengthFreshUptoRow.holds Try.pinned (OpenSpec.upto strengthFreshSpec)

/-- 'identitylaw34.StrengthNeeds', WHERE WHAT IT READS IS OF BULK AT MOST 1048576: true; the input reads as it did. -/
def strengthNeedsUptoRow : OpenClaim := { program := "ytmipnhdfhgekkaa", sum := "b9122f05dd265d88817ae5af86fd48bf601956279e8f4804a80e9aced38a6e54", func := "identity/identitylaw34.StrengthNeeds", spec := "strengthNeeds", unfollowed := true, recurses := true, apart := false, narrowed := true }
def StrengthNeedsUptoSaid : Prop := strengthNeedsUptoRow.holds Try.pinned (OpenSpec.upto strengthNeedsSpec)

/-- 'identitylaw34.StrengthAdds', WHERE WHAT IT READS IS OF BULK AT MOST 1048576: true; the input reads as it did. -/
def strengthAddsUptoRow : OpenClaim := { program := "ytmipnhdfhgekkaa", sum := "b9122f05dd265d88817ae5af86fd48bf601956279e8f4804a80e9aced38a6e54", func := "identity/identitylaw34.StrengthAdds", spec := "strengthAdds", unfollowed := true, recurses := true, apart := false, narrowed := true }
def StrengthAddsUptoSaid : Prop := strengthAddsUptoRow.holds Try.pinned (OpenSpec.upto strengthAddsSpec)

/-- 'identitylaw34.StrengthGrows', WHERE WHAT IT READS IS OF BULK AT MOST 1048576: true; the input reads as it did. -/
def strengthGrowsUptoRow : OpenClaim := { program := "ytmipnhdfhgekkaa", sum := "b9122f05dd265d88817ae5af86fd48bf601956279e8f4804a80e9aced38a6e54", func := "identity/identitylaw34.StrengthGrows", spec := "strengthGrows", unfollowed := true, recurses := true, apart := false, narrowed := true }
def StrengthGrowsUptoSaid : Prop := strengthGrowsUptoRow.holds Try.pinned (OpenSpec.upto strengthGrowsSpec)

/-- 'identitylaw34.StrengthReaches', WHERE WHAT IT READS IS OF BULK AT MOST 1048576: true; the input reads as it did. -/
def strengthReachesUptoRow : OpenClaim := { program := "ytmipnhdfhgekkaa", sum := "b9122f05dd265d88817ae5af86fd48bf601956279e8f4804a80e9aced38a6e54", func := "identity/identitylaw34.StrengthReaches", spec := "strengthReaches", unfollowed := true, recurses := true, apart := false, narrowed := true }
def StrengthReachesUptoSaid : Prop := strengthReachesUptoRow.holds Try.pinned (OpenSpec.upto strengthReachesSpec)

end Rows
end Go.Proofs.Ytmipnhdfhgekkaa
