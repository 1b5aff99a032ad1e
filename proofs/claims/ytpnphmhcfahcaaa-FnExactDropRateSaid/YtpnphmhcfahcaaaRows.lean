/-
  No cell of these rows narrows 'for every input' (looked for: loops, veiled, ifaces, maps, wideKeys, modest, calm, conditions, laid).
  DERIVED. THE GIVEN ROWS OF THIS SEAT. 8 by the template 'for every input the law returns true; each argument reads behind the call as it read before'; 0 by the template 'total and deterministic' (their statements: YtpnphmhcfahcaaaTotals.lean).
  GIVEN WITH THE SEED: the statements are not yours to turn. If you find one false, say at which input.
  Laid BY PROGRAM, IN A SANDBOX (cutbox-rows.mjs): the forced cells as the released guide's own fill.sh prints them over the translation f158513dbb2fabc7… (all of the seat's roots in one cut). By AI agents, Wed Nov 11 2026. No macro, syntax, notation, axiom, sorry.
-/
import Derived.Test.YtpnphmhcfahcaaaChecked
import GoSem.Claim
import GoSem.ClaimJoined
import GoSem.ClaimMapViews
import Derived.JoinedTies
import Derived.KernelRfl
namespace Go.Proofs.Ytpnphmhcfahcaaa
/- THE CELL 'sum', in the pinned program and in every row, IS THE sha256 OF THE DUMP (.gsa) THAT YtpnphmhcfahcaaaProg.lean LOADS. Nothing in Lean hashes anything: it is a label: what it is worth is what the hold of that sum in a sandbox is worth. -/
noncomputable def Try.pinned : Pinned := { name := "ytpnphmhcfahcaaa", sum := "f158513dbb2fabc70aff6832f30b92675a6eef5b840edd97f9f340062eb430b6", checked := Try.checked }
namespace Rows
def none {H : Type} : Left H := { results := [], args := [] }

/-- 'laws.FnExactValidAttempts': WHATEVER THE INPUT: true; the input reads as it did. -/
def fnExactValidAttemptsSpec : ChangeSpec := { name := "fnExactValidAttempts", fn := fun _ => fun
  | [d] => { results := [.lit (.bool true)], args := [d] }
  | _ => none }
def fnExactValidAttemptsRow : OpenClaim := { program := "ytpnphmhcfahcaaa", sum := "f158513dbb2fabc70aff6832f30b92675a6eef5b840edd97f9f340062eb430b6", func := "loop.example/g00927/laws.FnExactValidAttempts", spec := "fnExactValidAttempts", apart := false }
def FnExactValidAttemptsSaid : Prop := fnExactValidAttemptsRow.holds Try.pinned (OpenSpec.ofChange fnExactValidAttemptsSpec)

/-- ITS FALSE NEIGHBOUR: 'it returns false'. Refute it at one input. -/
def fnExactValidAttemptsWrong : ChangeSpec := { name := "fnExactValidAttempts", fn := fun _ => fun
  | [d] => { results := [.lit (.bool false)], args := [d] }
  | _ => none }
def FnExactValidAttemptsWrongFalsely : Prop := fnExactValidAttemptsRow.holds Try.pinned (OpenSpec.ofChange fnExactValidAttemptsWrong)

/-- 'laws.FnExactLongestStreak': WHATEVER THE INPUT: true; the input reads as it did. -/
def fnExactLongestStreakSpec : ChangeSpec := { name := "fnExactLongestStreak", fn := fun _ => fun
  | [d] => { results := [.lit (.bool true)], args := [d] }
  | _ => none }
def fnExactLongestStreakRow : OpenClaim := { program := "ytpnphmhcfahcaaa", sum := "f158513dbb2fabc70aff6832f30b92675a6eef5b840edd97f9f340062eb430b6", func := "loop.example/g00927/laws.FnExactLongestStreak", spec := "fnExactLongestStreak", apart := false }
def FnExactLongestStreakSaid : Prop := fnExactLongestStreakRow.holds Try.pinned (OpenSpec.ofChange fnExactLongestStreakSpec)

/-- ITS FALSE NEIGHBOUR: 'it returns false'. Refute it at one input. -/
def fnExactLongestStreakWrong : ChangeSpec := { name := "fnExactLongestStreak", fn := fun _ => fun
  | [d] => { results := [.lit (.bool false)], args := [d] }
  | _ => none }
def FnExactLongestStreakWrongFalsely : Prop := fnExactLongestStreakRow.holds Try.pinned (OpenSpec.ofChange fnExactLongestStreakWrong)

/-- 'laws.FnExactGainOf': WHATEVER THE INPUT: true; the input reads as it did. -/
def fnExactGainOfSpec : ChangeSpec := { name := "fnExactGainOf", fn := fun _ => fun
  | [d1, d2] => { results := [.lit (.bool true)], args := [d1, d2] }
  | _ => none }
def fnExactGainOfRow : OpenClaim := { program := "ytpnphmhcfahcaaa", sum := "f158513dbb2fabc70aff6832f30b92675a6eef5b840edd97f9f340062eb430b6", func := "loop.example/g00927/laws.FnExactGainOf", spec := "fnExactGainOf", apart := false }
def FnExactGainOfSaid : Prop := fnExactGainOfRow.holds Try.pinned (OpenSpec.ofChange fnExactGainOfSpec)

/-- ITS FALSE NEIGHBOUR: 'it returns false'. Refute it at one input. -/
def fnExactGainOfWrong : ChangeSpec := { name := "fnExactGainOf", fn := fun _ => fun
  | [d1, d2] => { results := [.lit (.bool false)], args := [d1, d2] }
  | _ => none }
def FnExactGainOfWrongFalsely : Prop := fnExactGainOfRow.holds Try.pinned (OpenSpec.ofChange fnExactGainOfWrong)

/-- 'laws.FnExactRecordsOf': WHATEVER THE INPUT: true; the input reads as it did. -/
def fnExactRecordsOfSpec : ChangeSpec := { name := "fnExactRecordsOf", fn := fun _ => fun
  | [d1, d2] => { results := [.lit (.bool true)], args := [d1, d2] }
  | _ => none }
def fnExactRecordsOfRow : OpenClaim := { program := "ytpnphmhcfahcaaa", sum := "f158513dbb2fabc70aff6832f30b92675a6eef5b840edd97f9f340062eb430b6", func := "loop.example/g00927/laws.FnExactRecordsOf", spec := "fnExactRecordsOf", apart := false }
def FnExactRecordsOfSaid : Prop := fnExactRecordsOfRow.holds Try.pinned (OpenSpec.ofChange fnExactRecordsOfSpec)

/-- ITS FALSE NEIGHBOUR: 'it returns false'. Refute it at one input. -/
def fnExactRecordsOfWrong : ChangeSpec := { name := "fnExactRecordsOf", fn := fun _ => fun
  | [d1, d2] => { results := [.lit (.bool false)], args := [d1, d2] }
  | _ => none }
def FnExactRecordsOfWrongFalsely : Prop := fnExactRecordsOfRow.holds Try.pinned (OpenSpec.ofChange fnExactRecordsOfWrong)

/-- 'laws.FnExactDropRate': WHATEVER THE INPUT: true; the input reads as it did. -/
def fnExactDropRateSpec : ChangeSpec := { name := "fnExactDropRate", fn := fun _ => fun
  | [d1, d2] => { results := [.lit (.bool true)], args := [d1, d2] }
  | _ => none }
def fnExactDropRateRow : OpenClaim := { program := "ytpnphmhcfahcaaa", sum := "f158513dbb2fabc70aff6832f30b92675a6eef5b840edd97f9f340062eb430b6", func := "loop.example/g00927/laws.FnExactDropRate", spec := "fnExactDropRate", apart := false }
def FnExactDropRateSaid : Prop := fnExactDropRateRow.holds Try.pinned (OpenSpec.ofChange fnExactDropRateSpec)

/-- ITS FALSE NEIGHBOUR: 'it returns false'. Refute it at one input. -/
def fnExactDropRateWrong : ChangeSpec := { name := "fnExactDropRate", fn := fun _ => fun
  | [d1, d2] => { results := [.lit (.bool false)], args := [d1, d2] }
  | _ => none }
def FnExactDropRateWrongFalsely : Prop := fnExactDropRateRow.holds Try.pinned (OpenSpec.ofChange fnExactDropRateWrong)

/-- 'laws.FnExactSummaryOf': WHATEVER THE INPUT: true; the input reads as it did. -/
def fnExactSummaryOfSpec : ChangeSpec := { name := "fnExactSummaryOf", fn := fun _ => fun
  | [d1, d2] => { results := [.lit (.bool true)], args := [d1, d2] }
  | _ => none }
def fnExactSummaryOfRow : OpenClaim := { program := "ytpnphmhcfahcaaa", sum := "f158513dbb2fabc70aff6832f30b92675a6eef5b840edd97f9f340062eb430b6", func := "loop.example/g00927/laws.FnExactSummaryOf", spec := "fnExactSummaryOf", apart := false }
def FnExactSummaryOfSaid : Prop := fnExactSummaryOfRow.holds Try.pinned (OpenSpec.ofChange fnExactSummaryOfSpec)

/-- ITS FALSE NEIGHBOUR: 'it returns false'. Refute it at one input. -/
def fnExactSummaryOfWrong : ChangeSpec := { name := "fnExactSummaryOf", fn := fun _ => fun
  | [d1, d2] => { results := [.lit (.bool false)], args := [d1, d2] }
  | _ => none }
def FnExactSummaryOfWrongFalsely : Prop := fnExactSummaryOfRow.holds Try.pinned (OpenSpec.ofChange fnExactSummaryOfWrong)

/-- 'laws.FnExactMedianCatches': WHATEVER THE INPUT: true; the input reads as it did. -/
def fnExactMedianCatchesSpec : ChangeSpec := { name := "fnExactMedianCatches", fn := fun _ => fun
  | [d1, d2] => { results := [.lit (.bool true)], args := [d1, d2] }
  | _ => none }
def fnExactMedianCatchesRow : OpenClaim := { program := "ytpnphmhcfahcaaa", sum := "f158513dbb2fabc70aff6832f30b92675a6eef5b840edd97f9f340062eb430b6", func := "loop.example/g00927/laws.FnExactMedianCatches", spec := "fnExactMedianCatches", inPlace := ["internal/reflectlite.ValueOf", "internal/reflectlite.Swapper", "(internal/reflectlite.Value).Len"], unfollowed := true, recurses := true, apart := false }
def FnExactMedianCatchesSaid : Prop := fnExactMedianCatchesRow.holds Try.pinned (OpenSpec.ofChange fnExactMedianCatchesSpec)

/-- ITS FALSE NEIGHBOUR: 'it returns false'. Refute it at one input. -/
def fnExactMedianCatchesWrong : ChangeSpec := { name := "fnExactMedianCatches", fn := fun _ => fun
  | [d1, d2] => { results := [.lit (.bool false)], args := [d1, d2] }
  | _ => none }
def FnExactMedianCatchesWrongFalsely : Prop := fnExactMedianCatchesRow.holds Try.pinned (OpenSpec.ofChange fnExactMedianCatchesWrong)

/-- 'laws.FnExactPracticedOf': WHATEVER THE INPUT: true; the input reads as it did. -/
def fnExactPracticedOfSpec : ChangeSpec := { name := "fnExactPracticedOf", fn := fun _ => fun
  | [d] => { results := [.lit (.bool true)], args := [d] }
  | _ => none }
def fnExactPracticedOfRow : OpenClaim := { program := "ytpnphmhcfahcaaa", sum := "f158513dbb2fabc70aff6832f30b92675a6eef5b840edd97f9f340062eb430b6", func := "loop.example/g00927/laws.FnExactPracticedOf", spec := "fnExactPracticedOf", inPlace := ["internal/reflectlite.ValueOf", "internal/reflectlite.Swapper", "(internal/reflectlite.Value).Len"], unfollowed := true, recurses := true, apart := false }
def FnExactPracticedOfSaid : Prop := fnExactPracticedOfRow.holds Try.pinned (OpenSpec.ofChange fnExactPracticedOfSpec)

/-- ITS FALSE NEIGHBOUR: 'it returns false'. Refute it at one input. -/
def fnExactPracticedOfWrong : ChangeSpec := { name := "fnExactPracticedOf", fn := fun _ => fun
  | [d] => { results := [.lit (.bool false)], args := [d] }
  | _ => none }
def FnExactPracticedOfWrongFalsely : Prop := fnExactPracticedOfRow.holds Try.pinned (OpenSpec.ofChange fnExactPracticedOfWrong)

/- THE SECOND FORM. 'bulk': how many values and letters a reading holds, each counted each time it is reached (what is shared counts as often as it is met; a slice's spare places count too). A statement '..UptoSaid' is the law's where the arguments, and the package variables that the reading takes, are together of bulk at most 1048576: NARROWER than '..Said'. Prove '..Said' where nothing that the law and all that it calls make is longer than what came in: it says more and counts as full. Else prove '..UptoSaid'. A law counts once. -/
mutual
def uptoBulk {H : Type} : DataW H → Nat
  | .lit (.string bytes) => bytes.length + 1
  | .lit _ => 1
  | .nil => 1
  | .ptr d => uptoBulk d + 1
  | .slice elems spare => uptoBulkAll elems + uptoBulkAll spare + 1
  | .agg parts => uptoBulkAll parts + 1
  | .iface _ d => uptoBulk d + 1
  | .map entries => uptoBulkEntries entries + 1
  | .held _ => 1
def uptoBulkAll {H : Type} : List (DataW H) → Nat
  | [] => 0
  | d :: r => uptoBulk d + uptoBulkAll r
def uptoBulkEntries {H : Type} : List (Lit × DataW H) → Nat
  | [] => 0
  | x :: r => uptoBulkEntry x + uptoBulkEntries r
def uptoBulkEntry {H : Type} : Lit × DataW H → Nat
  | (.string bytes, d) => bytes.length + uptoBulk d + 1
  | (_, d) => uptoBulk d + 1
 end
def uptoSmall : (H : Type) → List (DataW H) → Bool := fun _ ds => decide (uptoBulkAll ds ≤ 1048576)
def OpenSpec.upto (s : _root_.Go.ChangeSpec) : _root_.Go.OpenSpec := { _root_.Go.OpenSpec.ofChange s with cond := some uptoSmall }

/-- 'laws.FnExactValidAttempts', WHERE WHAT IT READS IS OF BULK AT MOST 1048576: true; the input reads as it did. -/
def fnExactValidAttemptsUptoRow : OpenClaim := { program := "ytpnphmhcfahcaaa", sum := "f158513dbb2fabc70aff6832f30b92675a6eef5b840edd97f9f340062eb430b6", func := "loop.example/g00927/laws.FnExactValidAttempts", spec := "fnExactValidAttempts", apart := false, narrowed := true }
def FnExactValidAttemptsUptoSaid : Prop := fnExactValidAttemptsUptoRow.holds Try.pinned (OpenSpec.upto fnExactValidAttemptsSpec)

/-- 'laws.FnExactLongestStreak', WHERE WHAT IT READS IS OF BULK AT MOST 1048576: true; the input reads as it did. -/
def fnExactLongestStreakUptoRow : OpenClaim := { program := "ytpnphmhcfahcaaa", sum := "f158513dbb2fabc70aff6832f30b92675a6eef5b840edd97f9f340062eb430b6", func := "loop.example/g00927/laws.FnExactLongestStreak", spec := "fnExactLongestStreak", apart := false, narrowed := true }
def FnExactLongestStreakUptoSaid : Prop := fnExactLongestStreakUptoRow.holds Try.pinned (OpenSpec.upto fnExactLongestStreakSpec)

/-- 'laws.FnExactGainOf', WHERE WHAT IT READS IS OF BULK AT MOST 1048576: true; the input reads as it did. -/
def fnExactGainOfUptoRow : OpenClaim := { program := "ytpnphmhcfahcaaa", sum := "f158513dbb2fabc70aff6832f30b92675a6eef5b840edd97f9f340062eb430b6", func := "loop.example/g00927/laws.FnExactGainOf", spec := "fnExactGainOf", apart := false, narrowed := true }
def FnExactGainOfUptoSaid : Prop := fnExactGainOfUptoRow.holds Try.pinned (OpenSpec.upto fnExactGainOfSpec)

/-- 'laws.FnExactRecordsOf', WHERE WHAT IT READS IS OF BULK AT MOST 1048576: true; the input reads as it did. -/
def fnExactRecordsOfUptoRow : OpenClaim := { program := "ytpnphmhcfahcaaa", sum := "f158513dbb2fabc70aff6832f30b92675a6eef5b840edd97f9f340062eb430b6", func := "loop.example/g00927/laws.FnExactRecordsOf", spec := "fnExactRecordsOf", apart := false, narrowed := true }
def FnExactRecordsOfUptoSaid : Prop := fnExactRecordsOfUptoRow.holds Try.pinned (OpenSpec.upto fnExactRecordsOfSpec)

/-- 'laws.FnExactDropRate', WHERE WHAT IT READS IS OF BULK AT MOST 1048576: true; the input reads as it did. -/
def fnExactDropRateUptoRow : OpenClaim := { program := "ytpnphmhcfahcaaa", sum := "f158513dbb2fabc70aff6832f30b92675a6eef5b840edd97f9f340062eb430b6", func := "loop.example/g00927/laws.FnExactDropRate", spec := "fnExactDropRate", apart := false, narrowed := true }
def FnExactDropRateUptoSaid : Prop := fnExactDropRateUptoRow.holds Try.pinned (OpenSpec.upto fnExactDropRateSpec)

/-- 'laws.FnExactSummaryOf', WHERE WHAT IT READS IS OF BULK AT MOST 1048576: true; the input reads as it did. -/
def fnExactSummaryOfUptoRow : OpenClaim := { program := "ytpnphmhcfahcaaa", sum := "f158513dbb2fabc70aff6832f30b92675a6eef5b840edd97f9f340062eb430b6", func := "loop.example/g00927/laws.FnExactSummaryOf", spec := "fnExactSummaryOf", apart := false, narrowed := true }
def FnExactSummaryOfUptoSaid : Prop := fnExactSummaryOfUptoRow.holds Try.pinned (OpenSpec.upto fnExactSummaryOfSpec)

/-- 'laws.FnExactMedianCatches', WHERE WHAT IT READS IS OF BULK AT MOST 1048576: true; the input reads as it did. -/
def fnExactMedianCatchesUptoRow : OpenClaim := { program := "ytpnphmhcfahcaaa", sum := "f158513dbb2fabc70aff6832f30b92675a6eef5b840edd97f9f340062eb430b6", func := "loop.example/g00927/laws.FnExactMedianCatches", spec := "fnExactMedianCatches", inPlace := ["internal/reflectlite.ValueOf", "internal/reflectlite.Swapper", "(internal/reflectlite.Value).Len"], unfollowed := true, recurses := true, apart := false, narrowed := true }
def FnExactMedianCatchesUptoSaid : Prop := fnExactMedianCatchesUptoRow.holds Try.pinned (OpenSpec.upto fnExactMedianCatchesSpec)

/-- 'laws.FnExactPracticedOf', WHERE WHAT IT READS IS OF BULK AT MOST 1048576: true; the input reads as it did. -/
def fnExactPracticedOfUptoRow : OpenClaim := { program := "ytpnphmhcfahcaaa", sum := "f158513dbb2fabc70aff6832f30b92675a6eef5b840edd97f9f340062eb430b6", func := "loop.example/g00927/laws.FnExactPracticedOf", spec := "fnExactPracticedOf", inPlace := ["internal/reflectlite.ValueOf", "internal/reflectlite.Swapper", "(internal/reflectlite.Value).Len"], unfollowed := true, recurses := true, apart := false, narrowed := true }
def FnExactPracticedOfUptoSaid : Prop := fnExactPracticedOfUptoRow.holds Try.pinned (OpenSpec.upto fnExactPracticedOfSpec)

end Rows
end Go.Proofs.Ytpnphmhcfahcaaa
