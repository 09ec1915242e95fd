/-
  No cell of these rows narrows 'for every input' (looked for: loops, veiled, ifaces, maps, wideKeys, modest, calm, conditions, laid).
  DERIVED. THE GIVEN ROWS OF THIS SEAT. 4 by the template 'for every input the law returns true; each argument reads behind the call as it read before'; 0 by the template 'total and deterministic' (their statements: YtkimcopmfhjjcaaTotals.lean).
  GIVEN WITH THE SEED: the statements are not yours to turn. If you find one false, say at which input.
  Laid BY PROGRAM, IN A SANDBOX (cutbox-rows.mjs): the forced cells as the released guide's own fill.sh prints them over the translation e17b5b33e85e7639… (all of the seat's roots in one cut). By AI agents, Wed Nov 11 2026. No macro, syntax, notation, axiom, sorry.
-/
import Derived.Test.YtkimcopmfhjjcaaChecked
import GoSem.Claim
import GoSem.ClaimJoined
import GoSem.ClaimMapViews
import Derived.JoinedTies
import Derived.KernelRfl
namespace Go.Proofs.Ytkimcopmfhjjcaa
/- THE CELL 'sum', in the pinned program and in every row, IS THE sha256 OF THE DUMP (.gsa) THAT YtkimcopmfhjjcaaProg.lean LOADS. Nothing in Lean hashes anything: it is a label: what it is worth is what the hold of that sum in a sandbox is worth. -/
noncomputable def Try.pinned : Pinned := { name := "ytkimcopmfhjjcaa", sum := "e17b5b33e85e76396d252ad331360a1837a58ca670122ccb5781b37e14e92100", checked := Try.checked }
namespace Rows
def none {H : Type} : Left H := { results := [], args := [] }

/-- 'sorteslaw23.LedgerSplits': WHATEVER THE INPUT: true; the input reads as it did. -/
def ledgerSplitsSpec : ChangeSpec := { name := "ledgerSplits", fn := fun _ => fun
  | [d1, d2, d3] => { results := [.lit (.bool true)], args := [d1, d2, d3] }
  | _ => none }
def ledgerSplitsRow : OpenClaim := { program := "ytkimcopmfhjjcaa", sum := "e17b5b33e85e76396d252ad331360a1837a58ca670122ccb5781b37e14e92100", func := "sortes/sorteslaw23.LedgerSplits", spec := "ledgerSplits", inPlace := ["internal/bytealg.IndexByteString", "internal/bytealg.IndexString"], unfollowed := true, recurses := true, named := ["internal/bytealg.MaxLen"], apart := false }
def LedgerSplitsSaid : Prop := ledgerSplitsRow.holds Try.pinned (OpenSpec.ofChange ledgerSplitsSpec)

/-- ITS FALSE NEIGHBOUR: 'it returns false'. Refute it at one input. -/
def ledgerSplitsWrong : ChangeSpec := { name := "ledgerSplits", fn := fun _ => fun
  | [d1, d2, d3] => { results := [.lit (.bool false)], args := [d1, d2, d3] }
  | _ => none }
def LedgerSplitsWrongFalsely : Prop := ledgerSplitsRow.holds Try.pinned (OpenSpec.ofChange ledgerSplitsWrong)

/-- 'sorteslaw23.LedgerFair': WHATEVER THE INPUT: true; the input reads as it did. -/
def ledgerFairSpec : ChangeSpec := { name := "ledgerFair", fn := fun _ => fun
  | [d1, d2] => { results := [.lit (.bool true)], args := [d1, d2] }
  | _ => none }
def ledgerFairRow : OpenClaim := { program := "ytkimcopmfhjjcaa", sum := "e17b5b33e85e76396d252ad331360a1837a58ca670122ccb5781b37e14e92100", func := "sortes/sorteslaw23.LedgerFair", spec := "ledgerFair", inPlace := ["internal/bytealg.IndexByteString", "internal/bytealg.IndexString"], unfollowed := true, recurses := true, named := ["internal/bytealg.MaxLen"], apart := false }
def LedgerFairSaid : Prop := ledgerFairRow.holds Try.pinned (OpenSpec.ofChange ledgerFairSpec)

/-- ITS FALSE NEIGHBOUR: 'it returns false'. Refute it at one input. -/
def ledgerFairWrong : ChangeSpec := { name := "ledgerFair", fn := fun _ => fun
  | [d1, d2] => { results := [.lit (.bool false)], args := [d1, d2] }
  | _ => none }
def LedgerFairWrongFalsely : Prop := ledgerFairRow.holds Try.pinned (OpenSpec.ofChange ledgerFairWrong)

/-- 'sorteslaw23.LedgerLimits': WHATEVER THE INPUT: true; the input reads as it did. -/
def ledgerLimitsSpec : ChangeSpec := { name := "ledgerLimits", fn := fun _ => fun
  | [d1, d2, d3] => { results := [.lit (.bool true)], args := [d1, d2, d3] }
  | _ => none }
def ledgerLimitsRow : OpenClaim := { program := "ytkimcopmfhjjcaa", sum := "e17b5b33e85e76396d252ad331360a1837a58ca670122ccb5781b37e14e92100", func := "sortes/sorteslaw23.LedgerLimits", spec := "ledgerLimits", inPlace := ["internal/bytealg.IndexByteString", "internal/bytealg.IndexString"], unfollowed := true, recurses := true, named := ["internal/bytealg.MaxLen"], apart := false }
def LedgerLimitsSaid : Prop := ledgerLimitsRow.holds Try.pinned (OpenSpec.ofChange ledgerLimitsSpec)

/-- ITS FALSE NEIGHBOUR: 'it returns false'. Refute it at one input. -/
def ledgerLimitsWrong : ChangeSpec := { name := "ledgerLimits", fn := fun _ => fun
  | [d1, d2, d3] => { results := [.lit (.bool false)], args := [d1, d2, d3] }
  | _ => none }
def LedgerLimitsWrongFalsely : Prop := ledgerLimitsRow.holds Try.pinned (OpenSpec.ofChange ledgerLimitsWrong)

/-- 'sorteslaw23.LedgerConserves': WHATEVER THE INPUT: true; the input reads as it did. -/
def ledgerConservesSpec : ChangeSpec := { name := "ledgerConserves", fn := fun _ => fun
  | [d] => { results := [.lit (.bool true)], args := [d] }
  | _ => none }
def ledgerConservesRow : OpenClaim := { program := "ytkimcopmfhjjcaa", sum := "e17b5b33e85e76396d252ad331360a1837a58ca670122ccb5781b37e14e92100", func := "sortes/sorteslaw23.LedgerConserves", spec := "ledgerConserves", inPlace := ["internal/bytealg.IndexByteString", "internal/bytealg.IndexString"], unfollowed := true, recurses := true, named := ["internal/bytealg.MaxLen"], apart := false }
def LedgerConservesSaid : Prop := ledgerConservesRow.holds Try.pinned (OpenSpec.ofChange ledgerConservesSpec)

/-- ITS FALSE NEIGHBOUR: 'it returns false'. Refute it at one input. -/
def ledgerConservesWrong : ChangeSpec := { name := "ledgerConserves", fn := fun _ => fun
  | [d] => { results := [.lit (.bool false)], args := [d] }
  | _ => none }
def LedgerConservesWrongFalsely : Prop := ledgerConservesRow.holds Try.pinned (OpenSpec.ofChange ledgerConservesWrong)

/- THE SECOND FORM. 'bulk': how many values and letters a reading holds, each counted each time it is reached (what is shared counts as often as it is met; a slice's spare places count too). A statement '..UptoSaid' is the law's where the arguments, and the package variables that the reading takes, are together of bulk at most 1048576: NARROWER than '..Said'. Prove '..Said' where nothing that the law and all that it calls make is longer than what came in: it says more and counts as full. Else prove '..UptoSaid'. A law counts once. -/
mutual
def uptoBulk {H : Type} : DataW H → Nat
  | .lit (.string bytes) => bytes.length + 1
  | .lit _ => 1
  | .nil => 1
  | .ptr d => uptoBulk d + 1
  | .slice elems spare => uptoBulkAll elems + uptoBulkAll spare + 1
  | .agg parts => uptoBulkAll parts + 1
  | .iface _ d => uptoBulk d + 1
  | .map entries => uptoBulkEntries entries + 1
  | .held _ => 1
def uptoBulkAll {H : Type} : List (DataW H) → Nat
  | [] => 0
  | d :: r => uptoBulk d + uptoBulkAll r
def uptoBulkEntries {H : Type} : List (Lit × DataW H) → Nat
  | [] => 0
  | x :: r => uptoBulkEntry x + uptoBulkEntries r
def uptoBulkEntry {H : Type} : Lit × DataW H → Nat
  | (.string bytes, d) => bytes.length + uptoBulk d + 1
  | (_, d) => uptoBulk d + 1
 end
def uptoSmall : (H : Type) → List (DataW H) → Bool := fun _ ds => decide (uptoBulkAll ds ≤ 1048576)
def OpenSpec.upto (s : _root_.Go.ChangeSpec) : _root_.Go.OpenSpec := { _root_.Go.OpenSpec.ofChange s with cond := some uptoSmall }

/-- 'sorteslaw23.LedgerSplits', WHERE WHAT IT READS IS OF BULK AT MOST 1048576: true; the input reads as it did. -/
def ledgerSplitsUptoRow : OpenClaim := { program := "ytkimcopmfhjjcaa", sum := "e17b5b33e85e76396d252ad331360a1837a58ca670122ccb5781b37e14e92100", func := "sortes/sorteslaw23.LedgerSplits", spec := "ledgerSplits", inPlace := ["internal/bytealg.IndexByteString", "internal/bytealg.IndexString"], unfollowed := true, recurses := true, named := ["internal/bytealg.MaxLen"], apart := false, narrowed := true }
def LedgerSplitsUptoSaid : Prop := ledgerSplitsUptoRow.holds Try.pinned (OpenSpec.upto ledgerSplitsSpec)

/-- 'sorteslaw23.LedgerFair', WHERE WHAT IT READS IS OF BULK AT MOST 1048576: true; the input reads as it did. -/
def ledgerFairUptoRow : OpenClaim := { program := "ytkimcopmfhjjcaa", sum := "e17b5b33e85e76396d252ad331360a1837a58ca670122ccb5781b37e14e92100", func := "sortes/sorteslaw23.LedgerFair", spec := "ledgerFair", inPlace := ["internal/bytealg.IndexByteString", "internal/bytealg.IndexString"], unfollowed := true, recurses := true, named := ["internal/bytealg.MaxLen"], apart := false, narrowed := true }
def LedgerFairUptoSaid : Prop := ledgerFairUptoRow.holds Try.pinned (OpenSpec.upto ledgerFairSpec)

/-- 'sorteslaw23.LedgerLimits', WHERE WHAT IT READS IS OF BULK AT MOST 1048576: true; the input reads as it did. -/
def ledgerLimitsUptoRow : OpenClaim := { program := "ytkimcopmfhjjcaa", sum := "e17b5b33e85e76396d252ad331360a1837a58ca670122ccb5781b37e14e92100", func := "sortes/sorteslaw23.LedgerLimits", spec := "ledgerLimits", inPlace := ["internal/bytealg.IndexByteString", "internal/bytealg.IndexString"], unfollowed := true, recurses := true, named := ["internal/bytealg.MaxLen"], apart := false, narrowed := true }
def LedgerLimitsUptoSaid : Prop := ledgerLimitsUptoRow.holds Try.pinned (OpenSpec.upto ledgerLimitsSpec)

/-- 'sorteslaw23.LedgerConserves', WHERE WHAT IT READS IS OF BULK AT MOST 1048576: true; the input reads as it did. -/
def ledgerConservesUptoRow : OpenClaim := { program := "ytkimcopmfhjjcaa", sum := "e17b5b33e85e76396d252ad331360a1837a58ca670122ccb5781b37e14e92100", func := "sortes/sorteslaw23.LedgerConserves", spec := "ledgerConserves", inPlace := ["internal/bytealg.IndexByteString", "internal/bytealg.IndexString"], unfollowed := true, recurses := true, named := ["internal/bytealg.MaxLen"], apart := false, narrowed := true }
def LedgerConservesUptoSaid : Prop := ledgerConservesUptoRow.holds Try.pinned (OpenSpec.upto ledgerConservesSpec)

end Rows
end Go.Proofs.Ytkimcopmfhjjcaa
