/-
  DERIVED. GIVEN WITH THE SEED: THE CARDS: each row of YtjjmcmchcmfgnaaDoorRows.lean that lists a variable, with what it lists TIED to the program's text (the seventh form; the later family's looks); each row that meets fmt, with fmt's text TOLD by the authors' own Lean function (tested against real Go, not proved from fmt's source: count such statements apart). THE CARD IS WHAT COUNTS. Prove the row's statement (the work); the ties are given (YtjjmcmchcmfgnaaDoorTie.lean); close each card by the builder's one call (the guide's Derived/Test/ToyasCard.lean, 'card_holds'). Laid BY PROGRAM, IN A SANDBOX (cutbox-door.mjs). By AI agents, Wed Nov 11 2026. No macro, syntax, notation, axiom, sorry.
-/
import Derived.Test.YtjjmcmchcmfgnaaDoorRows
import GoSem.ClaimSeven
namespace Go.Proofs.YtjjmcmchcmfgnaaDoor
namespace Rows

/-- THE TIED CARD OF 'identitylaw04.ClockCounts'. -/
def clockCountsCard : Claim7 := { stood := { row := clockCountsRow, standIns := [], harness := (true, "7048f8666fc51be13e4c706976a81eb07056395f7b837cf5e418c50a78140faa"), looks := false }, kinds := [], alts := [], laidByText := true, laidKinds := [.data, .data, .data], laidTests := true, laidLooks := .later }
def ClockCountsCardSaid : Prop := Claim7.holds Tryd.pinned (.plain (OpenSpec.ofChange clockCountsSpec)) clockCountsCard

/-- THE TIED CARD OF 'identitylaw04.ClockChecks'. -/
def clockChecksCard : Claim7 := { stood := { row := clockChecksRow, standIns := [], harness := (true, "7048f8666fc51be13e4c706976a81eb07056395f7b837cf5e418c50a78140faa"), looks := false }, kinds := [], alts := [], laidByText := true, laidKinds := [.data, .data, .data], laidTests := true, laidLooks := .later }
def ClockChecksCardSaid : Prop := Claim7.holds Tryd.pinned (.plain (OpenSpec.ofChange clockChecksSpec)) clockChecksCard

/-- THE TIED CARD OF 'identitylaw04.ClockJoins'. -/
def clockJoinsCard : Claim7 := { stood := { row := clockJoinsRow, standIns := [], harness := (true, "7048f8666fc51be13e4c706976a81eb07056395f7b837cf5e418c50a78140faa"), looks := false }, kinds := [], alts := [], laidByText := true, laidKinds := [.data, .data, .data], laidTests := true, laidLooks := .later }
def ClockJoinsCardSaid : Prop := Claim7.holds Tryd.pinned (.plain (OpenSpec.ofChange clockJoinsSpec)) clockJoinsCard

/-- THE TIED CARD OF 'identitylaw04.ClockFormats'. -/
def clockFormatsCard : Claim7 := { stood := { row := clockFormatsRow, standIns := [], harness := (true, "7048f8666fc51be13e4c706976a81eb07056395f7b837cf5e418c50a78140faa"), looks := false }, kinds := [], alts := [], laidByText := true, laidKinds := [.data, .data, .data], laidTests := true, laidLooks := .later }
def ClockFormatsCardSaid : Prop := Claim7.holds Tryd.pinned (.plain (OpenSpec.ofChange clockFormatsSpec)) clockFormatsCard

/-- THE TIED CARD OF 'identitylaw04.ClockWindows'. -/
def clockWindowsCard : Claim7 := { stood := { row := clockWindowsRow, standIns := [], harness := (true, "7048f8666fc51be13e4c706976a81eb07056395f7b837cf5e418c50a78140faa"), looks := false }, kinds := [], alts := [], laidByText := true, laidKinds := [.data, .data, .data], laidTests := true, laidLooks := .later }
def ClockWindowsCardSaid : Prop := Claim7.holds Tryd.pinned (.plain (OpenSpec.ofChange clockWindowsSpec)) clockWindowsCard

/-- THE TIED CARD OF 'identitylaw04.ClockReturns'. -/
def clockReturnsCard : Claim7 := { stood := { row := clockReturnsRow, standIns := [], harness := (true, "7048f8666fc51be13e4c706976a81eb07056395f7b837cf5e418c50a78140faa"), looks := false }, kinds := [], alts := [], laidByText := true, laidKinds := [.data, .data, .data], laidTests := true, laidLooks := .later }
def ClockReturnsCardSaid : Prop := Claim7.holds Tryd.pinned (.plain (OpenSpec.ofChange clockReturnsSpec)) clockReturnsCard

/-- THE SECOND FORM's CARD OF 'identitylaw04.ClockCounts'. -/
def clockCountsUptoCard : Claim7 := { stood := { row := clockCountsUptoRow, standIns := [], harness := (true, "7048f8666fc51be13e4c706976a81eb07056395f7b837cf5e418c50a78140faa"), looks := false }, kinds := [], alts := [], laidByText := true, laidKinds := [.data, .data, .data], laidTests := true, laidLooks := .later }
def ClockCountsUptoCardSaid : Prop := Claim7.holds Tryd.pinned (.plain (OpenSpec.upto clockCountsSpec)) clockCountsUptoCard

/-- THE SECOND FORM's CARD OF 'identitylaw04.ClockChecks'. -/
def clockChecksUptoCard : Claim7 := { stood := { row := clockChecksUptoRow, standIns := [], harness := (true, "7048f8666fc51be13e4c706976a81eb07056395f7b837cf5e418c50a78140faa"), looks := false }, kinds := [], alts := [], laidByText := true, laidKinds := [.data, .data, .data], laidTests := true, laidLooks := .later }
def ClockChecksUptoCardSaid : Prop := Claim7.holds Tryd.pinned (.plain (OpenSpec.upto clockChecksSpec)) clockChecksUptoCard

/-- THE SECOND FORM's CARD OF 'identitylaw04.ClockJoins'. -/
def clockJoinsUptoCard : Claim7 := { stood := { row := clockJoinsUptoRow, standIns := [], harness := (true, "7048f8666fc51be13e4c706976a81eb07056395f7b837cf5e418c50a78140faa"), looks := false }, kinds := [], alts := [], laidByText := true, laidKinds := [.data, .data, .data], laidTests := true, laidLooks := .later }
def ClockJoinsUptoCardSaid : Prop := Claim7.holds Tryd.pinned (.plain (OpenSpec.upto clockJoinsSpec)) clockJoinsUptoCard

/-- THE SECOND FORM's CARD OF 'identitylaw04.ClockFormats'. -/
def clockFormatsUptoCard : Claim7 := { stood := { row := clockFormatsUptoRow, standIns := [], harness := (true, "7048f8666fc51be13e4c706976a81eb07056395f7b837cf5e418c50a78140faa"), looks := false }, kinds := [], alts := [], laidByText := true, laidKinds := [.data, .data, .data], laidTests := true, laidLooks := .later }
def ClockFormatsUptoCardSaid : Prop := Claim7.holds Tryd.pinned (.plain (OpenSpec.upto clockFormatsSpec)) clockFormatsUptoCard

/-- THE SECOND FORM's CARD OF 'identitylaw04.ClockWindows'. -/
def clockWindowsUptoCard : Claim7 := { stood := { row := clockWindowsUptoRow, standIns := [], harness := (true, "7048f8666fc51be13e4c706976a81eb07056395f7b837cf5e418c50a78140faa"), looks := false }, kinds := [], alts := [], laidByText := true, laidKinds := [.data, .data, .data], laidTests := true, laidLooks := .later }
def ClockWindowsUptoCardSaid : Prop := Claim7.holds Tryd.pinned (.plain (OpenSpec.upto clockWindowsSpec)) clockWindowsUptoCard

/-- THE SECOND FORM's CARD OF 'identitylaw04.ClockReturns'. -/
def clockReturnsUptoCard : Claim7 := { stood := { row := clockReturnsUptoRow, standIns := [], harness := (true, "7048f8666fc51be13e4c706976a81eb07056395f7b837cf5e418c50a78140faa"), looks := false }, kinds := [], alts := [], laidByText := true, laidKinds := [.data, .data, .data], laidTests := true, laidLooks := .later }
def ClockReturnsUptoCardSaid : Prop := Claim7.holds Tryd.pinned (.plain (OpenSpec.upto clockReturnsSpec)) clockReturnsUptoCard
end Rows
end Go.Proofs.YtjjmcmchcmfgnaaDoor
