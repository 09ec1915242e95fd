/-
  NARROWER THAN 'FOR EVERY INPUT', by the rows' own cells (each row's printed sentence says how): QuotaFeasible: laid · QuotaPanels: laid · QuotaRanges: laid · QuotaSubsets: laid · QuotaTwins: laid · QuotaLimits: laid · QuotaGreatest: laid.
  DERIVED. THE GIVEN ROWS OF THIS SEAT. 7 by the template 'for every input the law returns true; each argument reads behind the call as it read before'; 0 by the template 'total and deterministic' (their statements: YtebigkjilklodaaDoorTotals.lean).
  GIVEN WITH THE SEED: the statements are not yours to turn. If you find one false, say at which input.
  Laid BY PROGRAM, IN A SANDBOX (cutbox-rows.mjs): the forced cells as the released guide's own fill.sh prints them over the translation 4596d6ff1da276ec… (all of the seat's roots in one cut). By AI agents, Wed Nov 11 2026. No macro, syntax, notation, axiom, sorry.
-/
import Derived.Test.YtebigkjilklodaaDoorChecked
import GoSem.PinnedTables
import GoSem.Claim
import GoSem.ClaimJoined
import GoSem.ClaimMapViews
import Derived.JoinedTies
import Derived.KernelRfl
namespace Go.Proofs.YtebigkjilklodaaDoor
/- THE CELL 'sum', in the pinned program and in every row, IS THE sha256 OF THE DUMP (.gsa) THAT YtebigkjilklodaaDoorProg.lean LOADS. Nothing in Lean hashes anything: it is a label: what it is worth is what the hold of that sum in a sandbox is worth. -/
noncomputable def Tryd.pinned : Pinned := { name := "ytebigkjilklodaadoor", sum := "4596d6ff1da276ec928470ebaa1291a0843e9cf2c11b096c2d08e4ae7cb6f839", checked := Tryd.checked }
namespace Rows
def none {H : Type} : Left H := { results := [], args := [] }

/- WHAT THE LISTED PACKAGE-LEVEL VARIABLES READ AS WHEN THE CALL BEGINS. Each datum BY PROGRAM (the guide's laid-datum.mjs) off the statement by which the dump's own 'gosem.cut.vars' lays the variable. In a bare row this is a premise. The card (YtebigkjilklodaaDoorCards.lean) ties it to the program's text. -/
def laid_unicode_utf8_acceptRanges {H : Type} : DataW H := .agg [.agg [.lit (.int .u8 128), .lit (.int .u8 191)], .agg [.lit (.int .u8 160), .lit (.int .u8 191)], .agg [.lit (.int .u8 128), .lit (.int .u8 159)], .agg [.lit (.int .u8 144), .lit (.int .u8 191)], .agg [.lit (.int .u8 128), .lit (.int .u8 143)], .agg [.lit (.int .u8 0), .lit (.int .u8 0)], .agg [.lit (.int .u8 0), .lit (.int .u8 0)], .agg [.lit (.int .u8 0), .lit (.int .u8 0)], .agg [.lit (.int .u8 0), .lit (.int .u8 0)], .agg [.lit (.int .u8 0), .lit (.int .u8 0)], .agg [.lit (.int .u8 0), .lit (.int .u8 0)], .agg [.lit (.int .u8 0), .lit (.int .u8 0)], .agg [.lit (.int .u8 0), .lit (.int .u8 0)], .agg [.lit (.int .u8 0), .lit (.int .u8 0)], .agg [.lit (.int .u8 0), .lit (.int .u8 0)], .agg [.lit (.int .u8 0), .lit (.int .u8 0)]]
/-- One of Go's own tables, pinned by name: the form's constant. -/
def laid_unicode_utf8_first : DataW Unit := Go.Pinned.utf8First

/-- 'sorteslaw15.QuotaFeasible': WHATEVER THE INPUT: true; the input reads as it did. -/
def quotaFeasibleSpec : ChangeSpec := { name := "quotaFeasible", fn := fun _ => fun
  | [d1, d2, d3] => { results := [.lit (.bool true)], args := [d1, d2, d3] }
  | _ => none }
def quotaFeasibleRow : OpenClaim := { program := "ytebigkjilklodaadoor", sum := "4596d6ff1da276ec928470ebaa1291a0843e9cf2c11b096c2d08e4ae7cb6f839", func := "sortes/sorteslaw15.QuotaFeasible", spec := "quotaFeasible", inPlace := ["internal/bytealg.IndexByteString", "internal/bytealg.IndexString"], unfollowed := true, recurses := true, named := ["unicode/utf8.first", "unicode/utf8.acceptRanges", "internal/bytealg.MaxLen"], plainKeys := false, apart := false, laid := [("unicode/utf8.acceptRanges", laid_unicode_utf8_acceptRanges), ("unicode/utf8.first", laid_unicode_utf8_first)] }
def QuotaFeasibleSaid : Prop := quotaFeasibleRow.holds Tryd.pinned (OpenSpec.ofChange quotaFeasibleSpec)

/-- ITS FALSE NEIGHBOUR: 'it returns false'. Refute it at one input. -/
def quotaFeasibleWrong : ChangeSpec := { name := "quotaFeasible", fn := fun _ => fun
  | [d1, d2, d3] => { results := [.lit (.bool false)], args := [d1, d2, d3] }
  | _ => none }
def QuotaFeasibleWrongFalsely : Prop := quotaFeasibleRow.holds Tryd.pinned (OpenSpec.ofChange quotaFeasibleWrong)

/-- 'sorteslaw15.QuotaPanels': WHATEVER THE INPUT: true; the input reads as it did. -/
def quotaPanelsSpec : ChangeSpec := { name := "quotaPanels", fn := fun _ => fun
  | [d] => { results := [.lit (.bool true)], args := [d] }
  | _ => none }
def quotaPanelsRow : OpenClaim := { program := "ytebigkjilklodaadoor", sum := "4596d6ff1da276ec928470ebaa1291a0843e9cf2c11b096c2d08e4ae7cb6f839", func := "sortes/sorteslaw15.QuotaPanels", spec := "quotaPanels", inPlace := ["internal/bytealg.IndexByteString", "internal/bytealg.IndexString"], unfollowed := true, recurses := true, named := ["unicode/utf8.first", "unicode/utf8.acceptRanges", "internal/bytealg.MaxLen"], plainKeys := false, apart := false, laid := [("unicode/utf8.acceptRanges", laid_unicode_utf8_acceptRanges), ("unicode/utf8.first", laid_unicode_utf8_first)] }
def QuotaPanelsSaid : Prop := quotaPanelsRow.holds Tryd.pinned (OpenSpec.ofChange quotaPanelsSpec)

/-- ITS FALSE NEIGHBOUR: 'it returns false'. Refute it at one input. -/
def quotaPanelsWrong : ChangeSpec := { name := "quotaPanels", fn := fun _ => fun
  | [d] => { results := [.lit (.bool false)], args := [d] }
  | _ => none }
def QuotaPanelsWrongFalsely : Prop := quotaPanelsRow.holds Tryd.pinned (OpenSpec.ofChange quotaPanelsWrong)

/-- 'sorteslaw15.QuotaRanges': WHATEVER THE INPUT: true; the input reads as it did. -/
def quotaRangesSpec : ChangeSpec := { name := "quotaRanges", fn := fun _ => fun
  | [d1, d2] => { results := [.lit (.bool true)], args := [d1, d2] }
  | _ => none }
def quotaRangesRow : OpenClaim := { program := "ytebigkjilklodaadoor", sum := "4596d6ff1da276ec928470ebaa1291a0843e9cf2c11b096c2d08e4ae7cb6f839", func := "sortes/sorteslaw15.QuotaRanges", spec := "quotaRanges", inPlace := ["internal/bytealg.IndexByteString", "internal/bytealg.IndexString"], unfollowed := true, recurses := true, named := ["unicode/utf8.first", "unicode/utf8.acceptRanges", "internal/bytealg.MaxLen"], plainKeys := false, apart := false, laid := [("unicode/utf8.acceptRanges", laid_unicode_utf8_acceptRanges), ("unicode/utf8.first", laid_unicode_utf8_first)] }
def QuotaRangesSaid : Prop := quotaRangesRow.holds Tryd.pinned (OpenSpec.ofChange quotaRangesSpec)

/-- ITS FALSE NEIGHBOUR: 'it returns false'. Refute it at one input. -/
def quotaRangesWrong : ChangeSpec := { name := "quotaRanges", fn := fun _ => fun
  | [d1, d2] => { results := [.lit (.bool false)], args := [d1, d2] }
  | _ => none }
def QuotaRangesWrongFalsely : Prop := quotaRangesRow.holds Tryd.pinned (OpenSpec.ofChange quotaRangesWrong)

/-- 'sorteslaw15.QuotaSubsets': WHATEVER THE INPUT: true; the input reads as it did. -/
def quotaSubsetsSpec : ChangeSpec := { name := "quotaSubsets", fn := fun _ => fun
  | [d1, d2, d3] => { results := [.lit (.bool true)], args := [d1, d2, d3] }
  | _ => none }
def quotaSubsetsRow : OpenClaim := { program := "ytebigkjilklodaadoor", sum := "4596d6ff1da276ec928470ebaa1291a0843e9cf2c11b096c2d08e4ae7cb6f839", func := "sortes/sorteslaw15.QuotaSubsets", spec := "quotaSubsets", inPlace := ["internal/bytealg.IndexByteString", "internal/bytealg.IndexString"], unfollowed := true, recurses := true, named := ["unicode/utf8.first", "unicode/utf8.acceptRanges", "internal/bytealg.MaxLen"], plainKeys := false, apart := false, laid := [("unicode/utf8.acceptRanges", laid_unicode_utf8_acceptRanges), ("unicode/utf8.first", laid_unicode_utf8_first)] }
def QuotaSubsetsSaid : Prop := quotaSubsetsRow.holds Tryd.pinned (OpenSpec.ofChange quotaSubsetsSpec)

/-- ITS FALSE NEIGHBOUR: 'it returns false'. Refute it at one input. -/
def quotaSubsetsWrong : ChangeSpec := { name := "quotaSubsets", fn := fun _ => fun
  | [d1, d2, d3] => { results := [.lit (.bool false)], args := [d1, d2, d3] }
  | _ => none }
def QuotaSubsetsWrongFalsely : Prop := quotaSubsetsRow.holds Tryd.pinned (OpenSpec.ofChange quotaSubsetsWrong)

/-- 'sorteslaw15.QuotaTwins': WHATEVER THE INPUT: true; the input reads as it did. -/
def quotaTwinsSpec : ChangeSpec := { name := "quotaTwins", fn := fun _ => fun
  | [d1, d2] => { results := [.lit (.bool true)], args := [d1, d2] }
  | _ => none }
def quotaTwinsRow : OpenClaim := { program := "ytebigkjilklodaadoor", sum := "4596d6ff1da276ec928470ebaa1291a0843e9cf2c11b096c2d08e4ae7cb6f839", func := "sortes/sorteslaw15.QuotaTwins", spec := "quotaTwins", inPlace := ["internal/bytealg.IndexByteString", "internal/bytealg.IndexString"], unfollowed := true, recurses := true, named := ["unicode/utf8.first", "unicode/utf8.acceptRanges", "internal/bytealg.MaxLen"], plainKeys := false, apart := false, laid := [("unicode/utf8.acceptRanges", laid_unicode_utf8_acceptRanges), ("unicode/utf8.first", laid_unicode_utf8_first)] }
def QuotaTwinsSaid : Prop := quotaTwinsRow.holds Tryd.pinned (OpenSpec.ofChange quotaTwinsSpec)

/-- ITS FALSE NEIGHBOUR: 'it returns false'. Refute it at one input. -/
def quotaTwinsWrong : ChangeSpec := { name := "quotaTwins", fn := fun _ => fun
  | [d1, d2] => { results := [.lit (.bool false)], args := [d1, d2] }
  | _ => none }
def QuotaTwinsWrongFalsely : Prop := quotaTwinsRow.holds Tryd.pinned (OpenSpec.ofChange quotaTwinsWrong)

/-- 'sorteslaw15.QuotaLimits': WHATEVER THE INPUT: true; the input reads as it did. -/
def quotaLimitsSpec : ChangeSpec := { name := "quotaLimits", fn := fun _ => fun
  | [d1, d2, d3] => { results := [.lit (.bool true)], args := [d1, d2, d3] }
  | _ => none }
def quotaLimitsRow : OpenClaim := { program := "ytebigkjilklodaadoor", sum := "4596d6ff1da276ec928470ebaa1291a0843e9cf2c11b096c2d08e4ae7cb6f839", func := "sortes/sorteslaw15.QuotaLimits", spec := "quotaLimits", inPlace := ["internal/bytealg.IndexByteString", "internal/bytealg.IndexString"], unfollowed := true, recurses := true, named := ["unicode/utf8.first", "unicode/utf8.acceptRanges", "internal/bytealg.MaxLen"], plainKeys := false, apart := false, laid := [("unicode/utf8.acceptRanges", laid_unicode_utf8_acceptRanges), ("unicode/utf8.first", laid_unicode_utf8_first)] }
def QuotaLimitsSaid : Prop := quotaLimitsRow.holds Tryd.pinned (OpenSpec.ofChange quotaLimitsSpec)

/-- ITS FALSE NEIGHBOUR: 'it returns false'. Refute it at one input. -/
def quotaLimitsWrong : ChangeSpec := { name := "quotaLimits", fn := fun _ => fun
  | [d1, d2, d3] => { results := [.lit (.bool false)], args := [d1, d2, d3] }
  | _ => none }
def QuotaLimitsWrongFalsely : Prop := quotaLimitsRow.holds Tryd.pinned (OpenSpec.ofChange quotaLimitsWrong)

/-- 'sorteslaw15.QuotaGreatest': WHATEVER THE INPUT: true; the input reads as it did. -/
def quotaGreatestSpec : ChangeSpec := { name := "quotaGreatest", fn := fun _ => fun
  | [d1, d2, d3] => { results := [.lit (.bool true)], args := [d1, d2, d3] }
  | _ => none }
def quotaGreatestRow : OpenClaim := { program := "ytebigkjilklodaadoor", sum := "4596d6ff1da276ec928470ebaa1291a0843e9cf2c11b096c2d08e4ae7cb6f839", func := "sortes/sorteslaw15.QuotaGreatest", spec := "quotaGreatest", inPlace := ["internal/bytealg.IndexByteString", "internal/bytealg.IndexString"], unfollowed := true, recurses := true, named := ["unicode/utf8.first", "unicode/utf8.acceptRanges", "internal/bytealg.MaxLen"], plainKeys := false, apart := false, laid := [("unicode/utf8.acceptRanges", laid_unicode_utf8_acceptRanges), ("unicode/utf8.first", laid_unicode_utf8_first)] }
def QuotaGreatestSaid : Prop := quotaGreatestRow.holds Tryd.pinned (OpenSpec.ofChange quotaGreatestSpec)

/-- ITS FALSE NEIGHBOUR: 'it returns false'. Refute it at one input. -/
def quotaGreatestWrong : ChangeSpec := { name := "quotaGreatest", fn := fun _ => fun
  | [d1, d2, d3] => { results := [.lit (.bool false)], args := [d1, d2, d3] }
  | _ => none }
def QuotaGreatestWrongFalsely : Prop := quotaGreatestRow.holds Tryd.pinned (OpenSpec.ofChange quotaGreatestWrong)

/- THE SECOND FORM. 'bulk': how many values and letters a reading holds, each counted each time it is reached (what is shared counts as often as it is met; a slice's spare places count too). A statement '..UptoSaid' is the law's where the arguments, and the package variables that the reading takes, are together of bulk at most 1048576: NARROWER than '..Said'. Prove '..Said' where nothing that the law and all that it calls make is longer than what came in: it says more and counts as full. Else prove '..UptoSaid'. A law counts once. -/
mutual
def uptoBulk {H : Type} : DataW H → Nat
  | .lit (.string bytes) => bytes.length + 1
  | .lit _ => 1
  | .nil => 1
  | .ptr d => uptoBulk d + 1
  | .slice elems spare => uptoBulkAll elems + uptoBulkAll spare + 1
  | .agg parts => uptoBulkAll parts + 1
  | .iface _ d => uptoBulk d + 1
  | .map entries => uptoBulkEntries entries + 1
  | .held _ => 1
def uptoBulkAll {H : Type} : List (DataW H) → Nat
  | [] => 0
  | d :: r => uptoBulk d + uptoBulkAll r
def uptoBulkEntries {H : Type} : List (Lit × DataW H) → Nat
  | [] => 0
  | x :: r => uptoBulkEntry x + uptoBulkEntries r
def uptoBulkEntry {H : Type} : Lit × DataW H → Nat
  | (.string bytes, d) => bytes.length + uptoBulk d + 1
  | (_, d) => uptoBulk d + 1
 end
def uptoSmall : (H : Type) → List (DataW H) → Bool := fun _ ds => decide (uptoBulkAll ds ≤ 1048576)
def OpenSpec.upto (s : _root_.Go.ChangeSpec) : _root_.Go.OpenSpec := { _root_.Go.OpenSpec.ofChange s with cond := some uptoSmall }

/-- 'sorteslaw15.QuotaFeasible', WHERE WHAT IT READS IS OF BULK AT MOST 1048576: true; the input reads as it did. -/
def quotaFeasibleUptoRow : OpenClaim := { program := "ytebigkjilklodaadoor", sum := "4596d6ff1da276ec928470ebaa1291a0843e9cf2c11b096c2d08e4ae7cb6f839", func := "sortes/sorteslaw15.QuotaFeasible", spec := "quotaFeasible", inPlace := ["internal/bytealg.IndexByteString", "internal/bytealg.IndexString"], unfollowed := true, recurses := true, named := ["unicode/utf8.first", "unicode/utf8.acceptRanges", "internal/bytealg.MaxLen"], plainKeys := false, apart := false, laid := [("unicode/utf8.acceptRanges", laid_unicode_utf8_acceptRanges), ("unicode/utf8.first", laid_unicode_utf8_first)], narrowed := true }
def QuotaFeasibleUptoSaid : Prop := quotaFeasibleUptoRow.holds Tryd.pinned (OpenSpec.upto quotaFeasibleSpec)

/-- 'sorteslaw15.QuotaPanels', WHERE WHAT IT READS IS OF BULK AT MOST 1048576: true; the input reads as it did. -/
def quotaPanelsUptoRow : OpenClaim := { program := "ytebigkjilklodaadoor", sum := "4596d6ff1da276ec928470ebaa1291a0843e9cf2c11b096c2d08e4ae7cb6f839", func := "sortes/sorteslaw15.QuotaPanels", spec := "quotaPanels", inPlace := ["internal/bytealg.IndexByteString", "internal/bytealg.IndexString"], unfollowed := true, recurses := true, named := ["unicode/utf8.first", "unicode/utf8.acceptRanges", "internal/bytealg.MaxLen"], plainKeys := false, apart := false, laid := [("unicode/utf8.acceptRanges", laid_unicode_utf8_acceptRanges), ("unicode/utf8.first", laid_unicode_utf8_first)], narrowed := true }
def QuotaPanelsUptoSaid : Prop := quotaPanelsUptoRow.holds Tryd.pinned (OpenSpec.upto quotaPanelsSpec)

/-- 'sorteslaw15.QuotaRanges', WHERE WHAT IT READS IS OF BULK AT MOST 1048576: true; the input reads as it did. -/
def quotaRangesUptoRow : OpenClaim := { program := "ytebigkjilklodaadoor", sum := "4596d6ff1da276ec928470ebaa1291a0843e9cf2c11b096c2d08e4ae7cb6f839", func := "sortes/sorteslaw15.QuotaRanges", spec := "quotaRanges", inPlace := ["internal/bytealg.IndexByteString", "internal/bytealg.IndexString"], unfollowed := true, recurses := true, named := ["unicode/utf8.first", "unicode/utf8.acceptRanges", "internal/bytealg.MaxLen"], plainKeys := false, apart := false, laid := [("unicode/utf8.acceptRanges", laid_unicode_utf8_acceptRanges), ("unicode/utf8.first", laid_unicode_utf8_first)], narrowed := true }
def QuotaRangesUptoSaid : Prop := quotaRangesUptoRow.holds Tryd.pinned (OpenSpec.upto quotaRangesSpec)

/-- 'sorteslaw15.QuotaSubsets', WHERE WHAT IT READS IS OF BULK AT MOST 1048576: true; the input reads as it did. -/
def quotaSubsetsUptoRow : OpenClaim := { program := "ytebigkjilklodaadoor", sum := "4596d6ff1da276ec928470ebaa1291a0843e9cf2c11b096c2d08e4ae7cb6f839", func := "sortes/sorteslaw15.QuotaSubsets", spec := "quotaSubsets", inPlace := ["internal/bytealg.IndexByteString", "internal/bytealg.IndexString"], unfollowed := true, recurses := true, named := ["unicode/utf8.first", "unicode/utf8.acceptRanges", "internal/bytealg.MaxLen"], plainKeys := false, apart := false, laid := [("unicode/utf8.acceptRanges", laid_unicode_utf8_acceptRanges), ("unicode/utf8.first", laid_unicode_utf8_first)], narrowed := true }
def QuotaSubsetsUptoSaid : Prop := quotaSubsetsUptoRow.holds Tryd.pinned (OpenSpec.upto quotaSubsetsSpec)

/-- 'sorteslaw15.QuotaTwins', WHERE WHAT IT READS IS OF BULK AT MOST 1048576: true; the input reads as it did. -/
def quotaTwinsUptoRow : OpenClaim := { program := "ytebigkjilklodaadoor", sum := "4596d6ff1da276ec928470ebaa1291a0843e9cf2c11b096c2d08e4ae7cb6f839", func := "sortes/sorteslaw15.QuotaTwins", spec := "quotaTwins", inPlace := ["internal/bytealg.IndexByteString", "internal/bytealg.IndexString"], unfollowed := true, recurses := true, named := ["unicode/utf8.first", "unicode/utf8.acceptRanges", "internal/bytealg.MaxLen"], plainKeys := false, apart := false, laid := [("unicode/utf8.acceptRanges", laid_unicode_utf8_acceptRanges), ("unicode/utf8.first", laid_unicode_utf8_first)], narrowed := true }
def QuotaTwinsUptoSaid : Prop := quotaTwinsUptoRow.holds Tryd.pinned (OpenSpec.upto quotaTwinsSpec)

/-- 'sorteslaw15.QuotaLimits', WHERE WHAT IT READS IS OF BULK AT MOST 1048576: true; the input reads as it did. -/
def quotaLimitsUptoRow : OpenClaim := { program := "ytebigkjilklodaadoor", sum := "4596d6ff1da276ec928470ebaa1291a0843e9cf2c11b096c2d08e4ae7cb6f839", func := "sortes/sorteslaw15.QuotaLimits", spec := "quotaLimits", inPlace := ["internal/bytealg.IndexByteString", "internal/bytealg.IndexString"], unfollowed := true, recurses := true, named := ["unicode/utf8.first", "unicode/utf8.acceptRanges", "internal/bytealg.MaxLen"], plainKeys := false, apart := false, laid := [("unicode/utf8.acceptRanges", laid_unicode_utf8_acceptRanges), ("unicode/utf8.first", laid_unicode_utf8_first)], narrowed := true }
def QuotaLimitsUptoSaid : Prop := quotaLimitsUptoRow.holds Tryd.pinned (OpenSpec.upto quotaLimitsSpec)

/-- 'sorteslaw15.QuotaGreatest', WHERE WHAT IT READS IS OF BULK AT MOST 1048576: true; the input reads as it did. -/
def quotaGreatestUptoRow : OpenClaim := { program := "ytebigkjilklodaadoor", sum := "4596d6ff1da276ec928470ebaa1291a0843e9cf2c11b096c2d08e4ae7cb6f839", func := "sortes/sorteslaw15.QuotaGreatest", spec := "quotaGreatest", inPlace := ["internal/bytealg.IndexByteString", "internal/bytealg.IndexString"], unfollowed := true, recurses := true, named := ["unicode/utf8.first", "unicode/utf8.acceptRanges", "internal/bytealg.MaxLen"], plainKeys := false, apart := false, laid := [("unicode/utf8.acceptRanges", laid_unicode_utf8_acceptRanges), ("unicode/utf8.first", laid_unicode_utf8_first)], narrowed := true }
def QuotaGreatestUptoSaid : Prop := quotaGreatestUptoRow.holds Tryd.pinned (OpenSpec.upto quotaGreatestSpec)

end Rows
end Go.Proofs.YtebigkjilklodaaDoor
