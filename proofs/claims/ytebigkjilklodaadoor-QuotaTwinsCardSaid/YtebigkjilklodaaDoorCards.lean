/-
  DERIVED. GIVEN WITH THE SEED: THE CARDS: each row of YtebigkjilklodaaDoorRows.lean that lists a variable, with what it lists TIED to the program's text (the seventh form; the later family's looks); each row that meets fmt, with fmt's text TOLD by the authors' own Lean function (tested against real Go, not proved from fmt's source: count such statements apart). THE CARD IS WHAT COUNTS. Prove the row's statement (the work); the ties are given (YtebigkjilklodaaDoorTie.lean); close each card by the builder's one call (the guide's Derived/Test/ToyasCard.lean, 'card_holds'). Laid BY PROGRAM, IN A SANDBOX (cutbox-door.mjs). By AI agents, Wed Nov 11 2026. No macro, syntax, notation, axiom, sorry.
-/
import Derived.Test.YtebigkjilklodaaDoorRows
import GoSem.ClaimSeven
namespace Go.Proofs.YtebigkjilklodaaDoor
namespace Rows

/-- THE TIED CARD OF 'sorteslaw15.QuotaFeasible'. -/
def quotaFeasibleCard : Claim7 := { stood := { row := quotaFeasibleRow, standIns := [], harness := (true, "c7bf1e781a989d28fcb606c9029abc287173c977719864f747f93ede8cd2e8e8"), looks := false }, kinds := [], alts := [], laidByText := true, laidKinds := [.data, .pinned], laidTests := true, laidLooks := .later }
def QuotaFeasibleCardSaid : Prop := Claim7.holds Tryd.pinned (.plain (OpenSpec.ofChange quotaFeasibleSpec)) quotaFeasibleCard

/-- THE TIED CARD OF 'sorteslaw15.QuotaPanels'. -/
def quotaPanelsCard : Claim7 := { stood := { row := quotaPanelsRow, standIns := [], harness := (true, "c7bf1e781a989d28fcb606c9029abc287173c977719864f747f93ede8cd2e8e8"), looks := false }, kinds := [], alts := [], laidByText := true, laidKinds := [.data, .pinned], laidTests := true, laidLooks := .later }
def QuotaPanelsCardSaid : Prop := Claim7.holds Tryd.pinned (.plain (OpenSpec.ofChange quotaPanelsSpec)) quotaPanelsCard

/-- THE TIED CARD OF 'sorteslaw15.QuotaRanges'. -/
def quotaRangesCard : Claim7 := { stood := { row := quotaRangesRow, standIns := [], harness := (true, "c7bf1e781a989d28fcb606c9029abc287173c977719864f747f93ede8cd2e8e8"), looks := false }, kinds := [], alts := [], laidByText := true, laidKinds := [.data, .pinned], laidTests := true, laidLooks := .later }
def QuotaRangesCardSaid : Prop := Claim7.holds Tryd.pinned (.plain (OpenSpec.ofChange quotaRangesSpec)) quotaRangesCard

/-- THE TIED CARD OF 'sorteslaw15.QuotaSubsets'. -/
def quotaSubsetsCard : Claim7 := { stood := { row := quotaSubsetsRow, standIns := [], harness := (true, "c7bf1e781a989d28fcb606c9029abc287173c977719864f747f93ede8cd2e8e8"), looks := false }, kinds := [], alts := [], laidByText := true, laidKinds := [.data, .pinned], laidTests := true, laidLooks := .later }
def QuotaSubsetsCardSaid : Prop := Claim7.holds Tryd.pinned (.plain (OpenSpec.ofChange quotaSubsetsSpec)) quotaSubsetsCard

/-- THE TIED CARD OF 'sorteslaw15.QuotaTwins'. -/
def quotaTwinsCard : Claim7 := { stood := { row := quotaTwinsRow, standIns := [], harness := (true, "c7bf1e781a989d28fcb606c9029abc287173c977719864f747f93ede8cd2e8e8"), looks := false }, kinds := [], alts := [], laidByText := true, laidKinds := [.data, .pinned], laidTests := true, laidLooks := .later }
def QuotaTwinsCardSaid : Prop := Claim7.holds Tryd.pinned (.plain (OpenSpec.ofChange quotaTwinsSpec)) quotaTwinsCard

/-- THE TIED CARD OF 'sorteslaw15.QuotaLimits'. -/
def quotaLimitsCard : Claim7 := { stood := { row := quotaLimitsRow, standIns := [], harness := (true, "c7bf1e781a989d28fcb606c9029abc287173c977719864f747f93ede8cd2e8e8"), looks := false }, kinds := [], alts := [], laidByText := true, laidKinds := [.data, .pinned], laidTests := true, laidLooks := .later }
def QuotaLimitsCardSaid : Prop := Claim7.holds Tryd.pinned (.plain (OpenSpec.ofChange quotaLimitsSpec)) quotaLimitsCard

/-- THE TIED CARD OF 'sorteslaw15.QuotaGreatest'. -/
def quotaGreatestCard : Claim7 := { stood := { row := quotaGreatestRow, standIns := [], harness := (true, "c7bf1e781a989d28fcb606c9029abc287173c977719864f747f93ede8cd2e8e8"), looks := false }, kinds := [], alts := [], laidByText := true, laidKinds := [.data, .pinned], laidTests := true, laidLooks := .later }
def QuotaGreatestCardSaid : Prop := Claim7.holds Tryd.pinned (.plain (OpenSpec.ofChange quotaGreatestSpec)) quotaGreatestCard

/-- THE SECOND FORM's CARD OF 'sorteslaw15.QuotaFeasible'. -/
def quotaFeasibleUptoCard : Claim7 := { stood := { row := quotaFeasibleUptoRow, standIns := [], harness := (true, "c7bf1e781a989d28fcb606c9029abc287173c977719864f747f93ede8cd2e8e8"), looks := false }, kinds := [], alts := [], laidByText := true, laidKinds := [.data, .pinned], laidTests := true, laidLooks := .later }
def QuotaFeasibleUptoCardSaid : Prop := Claim7.holds Tryd.pinned (.plain (OpenSpec.upto quotaFeasibleSpec)) quotaFeasibleUptoCard

/-- THE SECOND FORM's CARD OF 'sorteslaw15.QuotaPanels'. -/
def quotaPanelsUptoCard : Claim7 := { stood := { row := quotaPanelsUptoRow, standIns := [], harness := (true, "c7bf1e781a989d28fcb606c9029abc287173c977719864f747f93ede8cd2e8e8"), looks := false }, kinds := [], alts := [], laidByText := true, laidKinds := [.data, .pinned], laidTests := true, laidLooks := .later }
def QuotaPanelsUptoCardSaid : Prop := Claim7.holds Tryd.pinned (.plain (OpenSpec.upto quotaPanelsSpec)) quotaPanelsUptoCard

/-- THE SECOND FORM's CARD OF 'sorteslaw15.QuotaRanges'. -/
def quotaRangesUptoCard : Claim7 := { stood := { row := quotaRangesUptoRow, standIns := [], harness := (true, "c7bf1e781a989d28fcb606c9029abc287173c977719864f747f93ede8cd2e8e8"), looks := false }, kinds := [], alts := [], laidByText := true, laidKinds := [.data, .pinned], laidTests := true, laidLooks := .later }
def QuotaRangesUptoCardSaid : Prop := Claim7.holds Tryd.pinned (.plain (OpenSpec.upto quotaRangesSpec)) quotaRangesUptoCard

/-- THE SECOND FORM's CARD OF 'sorteslaw15.QuotaSubsets'. -/
def quotaSubsetsUptoCard : Claim7 := { stood := { row := quotaSubsetsUptoRow, standIns := [], harness := (true, "c7bf1e781a989d28fcb606c9029abc287173c977719864f747f93ede8cd2e8e8"), looks := false }, kinds := [], alts := [], laidByText := true, laidKinds := [.data, .pinned], laidTests := true, laidLooks := .later }
def QuotaSubsetsUptoCardSaid : Prop := Claim7.holds Tryd.pinned (.plain (OpenSpec.upto quotaSubsetsSpec)) quotaSubsetsUptoCard

/-- THE SECOND FORM's CARD OF 'sorteslaw15.QuotaTwins'. -/
def quotaTwinsUptoCard : Claim7 := { stood := { row := quotaTwinsUptoRow, standIns := [], harness := (true, "c7bf1e781a989d28fcb606c9029abc287173c977719864f747f93ede8cd2e8e8"), looks := false }, kinds := [], alts := [], laidByText := true, laidKinds := [.data, .pinned], laidTests := true, laidLooks := .later }
def QuotaTwinsUptoCardSaid : Prop := Claim7.holds Tryd.pinned (.plain (OpenSpec.upto quotaTwinsSpec)) quotaTwinsUptoCard

/-- THE SECOND FORM's CARD OF 'sorteslaw15.QuotaLimits'. -/
def quotaLimitsUptoCard : Claim7 := { stood := { row := quotaLimitsUptoRow, standIns := [], harness := (true, "c7bf1e781a989d28fcb606c9029abc287173c977719864f747f93ede8cd2e8e8"), looks := false }, kinds := [], alts := [], laidByText := true, laidKinds := [.data, .pinned], laidTests := true, laidLooks := .later }
def QuotaLimitsUptoCardSaid : Prop := Claim7.holds Tryd.pinned (.plain (OpenSpec.upto quotaLimitsSpec)) quotaLimitsUptoCard

/-- THE SECOND FORM's CARD OF 'sorteslaw15.QuotaGreatest'. -/
def quotaGreatestUptoCard : Claim7 := { stood := { row := quotaGreatestUptoRow, standIns := [], harness := (true, "c7bf1e781a989d28fcb606c9029abc287173c977719864f747f93ede8cd2e8e8"), looks := false }, kinds := [], alts := [], laidByText := true, laidKinds := [.data, .pinned], laidTests := true, laidLooks := .later }
def QuotaGreatestUptoCardSaid : Prop := Claim7.holds Tryd.pinned (.plain (OpenSpec.upto quotaGreatestSpec)) quotaGreatestUptoCard
end Rows
end Go.Proofs.YtebigkjilklodaaDoor
