/-
  No cell of these rows narrows 'for every input' (looked for: loops, veiled, ifaces, maps, wideKeys, modest, calm, conditions, laid).
  DERIVED. THE GIVEN ROWS OF THIS SEAT. 7 by the template 'for every input the law returns true; each argument reads behind the call as it read before'; 0 by the template 'total and deterministic' (their statements: YtecijaggcaogeaaTotals.lean).
  GIVEN WITH THE SEED: the statements are not yours to turn. If you find one false, say at which input.
  Laid BY PROGRAM, IN A SANDBOX (cutbox-rows.mjs): the forced cells as the released guide's own fill.sh prints them over the translation 9dd50fab208e3a0c… (all of the seat's roots in one cut). By AI agents, Wed Nov 11 2026. No macro, syntax, notation, axiom, sorry.
-/
import Derived.Test.YtecijaggcaogeaaChecked
import GoSem.Claim
import GoSem.ClaimJoined
import GoSem.ClaimMapViews
import Derived.JoinedTies
import Derived.KernelRfl
namespace Go.Proofs.Ytecijaggcaogeaa
/- THE CELL 'sum', in the pinned program and in every row, IS THE sha256 OF THE DUMP (.gsa) THAT YtecijaggcaogeaaProg.lean LOADS. Nothing in Lean hashes anything: it is a label: what it is worth is what the hold of that sum in a sandbox is worth. -/
noncomputable def Try.pinned : Pinned := { name := "ytecijaggcaogeaa", sum := "9dd50fab208e3a0c29ee14c5d64b5df386de2ff051bcb894ff7e81afed0a0483", checked := Try.checked }
namespace Rows
def none {H : Type} : Left H := { results := [], args := [] }

/-- 'laws.FnExactIntervalOf': WHATEVER THE INPUT: true; the input reads as it did. -/
def fnExactIntervalOfSpec : ChangeSpec := { name := "fnExactIntervalOf", fn := fun _ => fun
  | [d] => { results := [.lit (.bool true)], args := [d] }
  | _ => none }
def fnExactIntervalOfRow : OpenClaim := { program := "ytecijaggcaogeaa", sum := "9dd50fab208e3a0c29ee14c5d64b5df386de2ff051bcb894ff7e81afed0a0483", func := "loop.example/g00927/laws.FnExactIntervalOf", spec := "fnExactIntervalOf", apart := false }
def FnExactIntervalOfSaid : Prop := fnExactIntervalOfRow.holds Try.pinned (OpenSpec.ofChange fnExactIntervalOfSpec)

/-- ITS FALSE NEIGHBOUR: 'it returns false'. Refute it at one input. -/
def fnExactIntervalOfWrong : ChangeSpec := { name := "fnExactIntervalOf", fn := fun _ => fun
  | [d] => { results := [.lit (.bool false)], args := [d] }
  | _ => none }
def FnExactIntervalOfWrongFalsely : Prop := fnExactIntervalOfRow.holds Try.pinned (OpenSpec.ofChange fnExactIntervalOfWrong)

/-- 'laws.FnExactSameCards': WHATEVER THE INPUT: true; the input reads as it did. -/
def fnExactSameCardsSpec : ChangeSpec := { name := "fnExactSameCards", fn := fun _ => fun
  | [d1, d2] => { results := [.lit (.bool true)], args := [d1, d2] }
  | _ => none }
def fnExactSameCardsRow : OpenClaim := { program := "ytecijaggcaogeaa", sum := "9dd50fab208e3a0c29ee14c5d64b5df386de2ff051bcb894ff7e81afed0a0483", func := "loop.example/g00927/laws.FnExactSameCards", spec := "fnExactSameCards", apart := false }
def FnExactSameCardsSaid : Prop := fnExactSameCardsRow.holds Try.pinned (OpenSpec.ofChange fnExactSameCardsSpec)

/-- ITS FALSE NEIGHBOUR: 'it returns false'. Refute it at one input. -/
def fnExactSameCardsWrong : ChangeSpec := { name := "fnExactSameCards", fn := fun _ => fun
  | [d1, d2] => { results := [.lit (.bool false)], args := [d1, d2] }
  | _ => none }
def FnExactSameCardsWrongFalsely : Prop := fnExactSameCardsRow.holds Try.pinned (OpenSpec.ofChange fnExactSameCardsWrong)

/-- 'laws.FnExactSameQuery': WHATEVER THE INPUT: true; the input reads as it did. -/
def fnExactSameQuerySpec : ChangeSpec := { name := "fnExactSameQuery", fn := fun _ => fun
  | [d1, d2] => { results := [.lit (.bool true)], args := [d1, d2] }
  | _ => none }
def fnExactSameQueryRow : OpenClaim := { program := "ytecijaggcaogeaa", sum := "9dd50fab208e3a0c29ee14c5d64b5df386de2ff051bcb894ff7e81afed0a0483", func := "loop.example/g00927/laws.FnExactSameQuery", spec := "fnExactSameQuery", apart := false }
def FnExactSameQuerySaid : Prop := fnExactSameQueryRow.holds Try.pinned (OpenSpec.ofChange fnExactSameQuerySpec)

/-- ITS FALSE NEIGHBOUR: 'it returns false'. Refute it at one input. -/
def fnExactSameQueryWrong : ChangeSpec := { name := "fnExactSameQuery", fn := fun _ => fun
  | [d1, d2] => { results := [.lit (.bool false)], args := [d1, d2] }
  | _ => none }
def FnExactSameQueryWrongFalsely : Prop := fnExactSameQueryRow.holds Try.pinned (OpenSpec.ofChange fnExactSameQueryWrong)

/-- 'laws.FnExactValidQuery': WHATEVER THE INPUT: true; the input reads as it did. -/
def fnExactValidQuerySpec : ChangeSpec := { name := "fnExactValidQuery", fn := fun _ => fun
  | [d] => { results := [.lit (.bool true)], args := [d] }
  | _ => none }
def fnExactValidQueryRow : OpenClaim := { program := "ytecijaggcaogeaa", sum := "9dd50fab208e3a0c29ee14c5d64b5df386de2ff051bcb894ff7e81afed0a0483", func := "loop.example/g00927/laws.FnExactValidQuery", spec := "fnExactValidQuery", apart := false }
def FnExactValidQuerySaid : Prop := fnExactValidQueryRow.holds Try.pinned (OpenSpec.ofChange fnExactValidQuerySpec)

/-- ITS FALSE NEIGHBOUR: 'it returns false'. Refute it at one input. -/
def fnExactValidQueryWrong : ChangeSpec := { name := "fnExactValidQuery", fn := fun _ => fun
  | [d] => { results := [.lit (.bool false)], args := [d] }
  | _ => none }
def FnExactValidQueryWrongFalsely : Prop := fnExactValidQueryRow.holds Try.pinned (OpenSpec.ofChange fnExactValidQueryWrong)

/-- 'laws.FnExactValidCards': WHATEVER THE INPUT: true; the input reads as it did. -/
def fnExactValidCardsSpec : ChangeSpec := { name := "fnExactValidCards", fn := fun _ => fun
  | [d] => { results := [.lit (.bool true)], args := [d] }
  | _ => none }
def fnExactValidCardsRow : OpenClaim := { program := "ytecijaggcaogeaa", sum := "9dd50fab208e3a0c29ee14c5d64b5df386de2ff051bcb894ff7e81afed0a0483", func := "loop.example/g00927/laws.FnExactValidCards", spec := "fnExactValidCards", apart := false }
def FnExactValidCardsSaid : Prop := fnExactValidCardsRow.holds Try.pinned (OpenSpec.ofChange fnExactValidCardsSpec)

/-- ITS FALSE NEIGHBOUR: 'it returns false'. Refute it at one input. -/
def fnExactValidCardsWrong : ChangeSpec := { name := "fnExactValidCards", fn := fun _ => fun
  | [d] => { results := [.lit (.bool false)], args := [d] }
  | _ => none }
def FnExactValidCardsWrongFalsely : Prop := fnExactValidCardsRow.holds Try.pinned (OpenSpec.ofChange fnExactValidCardsWrong)

/-- 'laws.FnExactSameAttempts': WHATEVER THE INPUT: true; the input reads as it did. -/
def fnExactSameAttemptsSpec : ChangeSpec := { name := "fnExactSameAttempts", fn := fun _ => fun
  | [d1, d2] => { results := [.lit (.bool true)], args := [d1, d2] }
  | _ => none }
def fnExactSameAttemptsRow : OpenClaim := { program := "ytecijaggcaogeaa", sum := "9dd50fab208e3a0c29ee14c5d64b5df386de2ff051bcb894ff7e81afed0a0483", func := "loop.example/g00927/laws.FnExactSameAttempts", spec := "fnExactSameAttempts", apart := false }
def FnExactSameAttemptsSaid : Prop := fnExactSameAttemptsRow.holds Try.pinned (OpenSpec.ofChange fnExactSameAttemptsSpec)

/-- ITS FALSE NEIGHBOUR: 'it returns false'. Refute it at one input. -/
def fnExactSameAttemptsWrong : ChangeSpec := { name := "fnExactSameAttempts", fn := fun _ => fun
  | [d1, d2] => { results := [.lit (.bool false)], args := [d1, d2] }
  | _ => none }
def FnExactSameAttemptsWrongFalsely : Prop := fnExactSameAttemptsRow.holds Try.pinned (OpenSpec.ofChange fnExactSameAttemptsWrong)

/-- 'laws.FnExactSameItems': WHATEVER THE INPUT: true; the input reads as it did. -/
def fnExactSameItemsSpec : ChangeSpec := { name := "fnExactSameItems", fn := fun _ => fun
  | [d1, d2] => { results := [.lit (.bool true)], args := [d1, d2] }
  | _ => none }
def fnExactSameItemsRow : OpenClaim := { program := "ytecijaggcaogeaa", sum := "9dd50fab208e3a0c29ee14c5d64b5df386de2ff051bcb894ff7e81afed0a0483", func := "loop.example/g00927/laws.FnExactSameItems", spec := "fnExactSameItems", apart := false }
def FnExactSameItemsSaid : Prop := fnExactSameItemsRow.holds Try.pinned (OpenSpec.ofChange fnExactSameItemsSpec)

/-- ITS FALSE NEIGHBOUR: 'it returns false'. Refute it at one input. -/
def fnExactSameItemsWrong : ChangeSpec := { name := "fnExactSameItems", fn := fun _ => fun
  | [d1, d2] => { results := [.lit (.bool false)], args := [d1, d2] }
  | _ => none }
def FnExactSameItemsWrongFalsely : Prop := fnExactSameItemsRow.holds Try.pinned (OpenSpec.ofChange fnExactSameItemsWrong)

/- THE SECOND FORM. 'bulk': how many values and letters a reading holds, each counted each time it is reached (what is shared counts as often as it is met; a slice's spare places count too). A statement '..UptoSaid' is the law's where the arguments, and the package variables that the reading takes, are together of bulk at most 1048576: NARROWER than '..Said'. Prove '..Said' where nothing that the law and all that it calls make is longer than what came in: it says more and counts as full. Else prove '..UptoSaid'. A law counts once. -/
mutual
def uptoBulk {H : Type} : DataW H → Nat
  | .lit (.string bytes) => bytes.length + 1
  | .lit _ => 1
  | .nil => 1
  | .ptr d => uptoBulk d + 1
  | .slice elems spare => uptoBulkAll elems + uptoBulkAll spare + 1
  | .agg parts => uptoBulkAll parts + 1
  | .iface _ d => uptoBulk d + 1
  | .map entries => uptoBulkEntries entries + 1
  | .held _ => 1
def uptoBulkAll {H : Type} : List (DataW H) → Nat
  | [] => 0
  | d :: r => uptoBulk d + uptoBulkAll r
def uptoBulkEntries {H : Type} : List (Lit × DataW H) → Nat
  | [] => 0
  | x :: r => uptoBulkEntry x + uptoBulkEntries r
def uptoBulkEntry {H : Type} : Lit × DataW H → Nat
  | (.string bytes, d) => bytes.length + uptoBulk d + 1
  | (_, d) => uptoBulk d + 1
 end
def uptoSmall : (H : Type) → List (DataW H) → Bool := fun _ ds => decide (uptoBulkAll ds ≤ 1048576)
def OpenSpec.upto (s : _root_.Go.ChangeSpec) : _root_.Go.OpenSpec := { _root_.Go.OpenSpec.ofChange s with cond := some uptoSmall }

/-- 'laws.FnExactIntervalOf', WHERE WHAT IT READS IS OF BULK AT MOST 1048576: true; the input reads as it did. -/
def fnExactIntervalOfUptoRow : OpenClaim := { program := "ytecijaggcaogeaa", sum := "9dd50fab208e3a0c29ee14c5d64b5df386de2ff051bcb894ff7e81afed0a0483", func := "loop.example/g00927/laws.FnExactIntervalOf", spec := "fnExactIntervalOf", apart := false, narrowed := true }
def FnExactIntervalOfUptoSaid : Prop := fnExactIntervalOfUptoRow.holds Try.pinned (OpenSpec.upto fnExactIntervalOfSpec)

/-- 'laws.FnExactSameCards', WHERE WHAT IT READS IS OF BULK AT MOST 1048576: true; the input reads as it did. -/
def fnExactSameCardsUptoRow : OpenClaim := { program := "ytecijaggcaogeaa", sum := "9dd50fab208e3a0c29ee14c5d64b5df386de2ff051bcb894ff7e81afed0a0483", func := "loop.example/g00927/laws.FnExactSameCards", spec := "fnExactSameCards", apart := false, narrowed := true }
def FnExactSameCardsUptoSaid : Prop := fnExactSameCardsUptoRow.holds Try.pinned (OpenSpec.upto fnExactSameCardsSpec)

/-- 'laws.FnExactSameQuery', WHERE WHAT IT READS IS OF BULK AT MOST 1048576: true; the input reads as it did. -/
def fnExactSameQueryUptoRow : OpenClaim := { program := "ytecijaggcaogeaa", sum := "9dd50fab208e3a0c29ee14c5d64b5df386de2ff051bcb894ff7e81afed0a0483", func := "loop.example/g00927/laws.FnExactSameQuery", spec := "fnExactSameQuery", apart := false, narrowed := true }
def FnExactSameQueryUptoSaid : Prop := fnExactSameQueryUptoRow.holds Try.pinned (OpenSpec.upto fnExactSameQuerySpec)

/-- 'laws.FnExactValidQuery', WHERE WHAT IT READS IS OF BULK AT MOST 1048576: true; the input reads as it did. -/
def fnExactValidQueryUptoRow : OpenClaim := { program := "ytecijaggcaogeaa", sum := "9dd50fab208e3a0c29ee14c5d64b5df386de2ff051bcb894ff7e81afed0a0483", func := "loop.example/g00927/laws.FnExactValidQuery", spec := "fnExactValidQuery", apart := false, narrowed := true }
def FnExactValidQueryUptoSaid : Prop := fnExactValidQueryUptoRow.holds Try.pinned (OpenSpec.upto fnExactValidQuerySpec)

/-- 'laws.FnExactValidCards', WHERE WHAT IT READS IS OF BULK AT MOST 1048576: true; the input reads as it did. -/
def fnExactValidCardsUptoRow : OpenClaim := { program := "ytecijaggcaogeaa", sum := "9dd50fab208e3a0c29ee14c5d64b5df386de2ff051bcb894ff7e81afed0a0483", func := "loop.example/g00927/laws.FnExactValidCards", spec := "fnExactValidCards", apart := false, narrowed := true }
def FnExactValidCardsUptoSaid : Prop := fnExactValidCardsUptoRow.holds Try.pinned (OpenSpec.upto fnExactValidCardsSpec)

/-- 'laws.FnExactSameAttempts', WHERE WHAT IT READS IS OF BULK AT MOST 1048576: true; the input reads as it did. -/
def fnExactSameAttemptsUptoRow : OpenClaim := { program := "ytecijaggcaogeaa", sum := "9dd50fab208e3a0c29ee14c5d64b5df386de2ff051bcb894ff7e81afed0a0483", func := "loop.example/g00927/laws.FnExactSameAttempts", spec := "fnExactSameAttempts", apart := false, narrowed := true }
def FnExactSameAttemptsUptoSaid : Prop := fnExactSameAttemptsUptoRow.holds Try.pinned (OpenSpec.upto fnExactSameAttemptsSpec)

/-- 'laws.FnExactSameItems', WHERE WHAT IT READS IS OF BULK AT MOST 1048576: true; the input reads as it did. -/
def fnExactSameItemsUptoRow : OpenClaim := { program := "ytecijaggcaogeaa", sum := "9dd50fab208e3a0c29ee14c5d64b5df386de2ff051bcb894ff7e81afed0a0483", func := "loop.example/g00927/laws.FnExactSameItems", spec := "fnExactSameItems", apart := false, narrowed := true }
def FnExactSameItemsUptoSaid : Prop := fnExactSameItemsUptoRow.holds Try.pinned (OpenSpec.upto fnExactSameItemsSpec)

end Rows
end Go.Proofs.Ytecijaggcaogeaa
