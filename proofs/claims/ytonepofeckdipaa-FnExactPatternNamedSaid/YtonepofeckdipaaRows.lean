/-
  No cell of these rows narrows 'for every input' (looked for: loops, veiled, ifaces, maps, wideKeys, modest, calm, conditions, laid).
  DERIVED. THE GIVEN ROWS OF THIS SEAT. 5 by the template 'for every input the law returns true; each argument reads behind the call as it read before'; 0 by the template 'total and deterministic' (their statements: YtonepofeckdipaaTotals.lean).
  GIVEN WITH THE SEED: the statements are not yours to turn. If you find one false, say at which input.
  Laid BY PROGRAM, IN A SANDBOX (cutbox-rows.mjs): the forced cells as the released guide's own fill.sh prints them over the translation 0b5022d4d5ea1097… (all of the seat's roots in one cut). By AI agents, Wed Nov 11 2026. No macro, syntax, notation, axiom, sorry.
-/
import Derived.Test.YtonepofeckdipaaChecked
import GoSem.Claim
import GoSem.ClaimJoined
import GoSem.ClaimMapViews
import Derived.JoinedTies
import Derived.KernelRfl
namespace Go.Proofs.Ytonepofeckdipaa
/- THE CELL 'sum', in the pinned program and in every row, IS THE sha256 OF THE DUMP (.gsa) THAT YtonepofeckdipaaProg.lean LOADS. Nothing in Lean hashes anything: it is a label: what it is worth is what the hold of that sum in a sandbox is worth. -/
noncomputable def Try.pinned : Pinned := { name := "ytonepofeckdipaa", sum := "0b5022d4d5ea10977366d28a06733b4c8dcec0108fa14c2db88241ea0658a851", checked := Try.checked }
namespace Rows
def none {H : Type} : Left H := { results := [], args := [] }

/-- 'laws.FnExactValidItems': WHATEVER THE INPUT: true; the input reads as it did. -/
def fnExactValidItemsSpec : ChangeSpec := { name := "fnExactValidItems", fn := fun _ => fun
  | [d] => { results := [.lit (.bool true)], args := [d] }
  | _ => none }
def fnExactValidItemsRow : OpenClaim := { program := "ytonepofeckdipaa", sum := "0b5022d4d5ea10977366d28a06733b4c8dcec0108fa14c2db88241ea0658a851", func := "loop.example/g00927/laws.FnExactValidItems", spec := "fnExactValidItems", apart := false }
def FnExactValidItemsSaid : Prop := fnExactValidItemsRow.holds Try.pinned (OpenSpec.ofChange fnExactValidItemsSpec)

/-- ITS FALSE NEIGHBOUR: 'it returns false'. Refute it at one input. -/
def fnExactValidItemsWrong : ChangeSpec := { name := "fnExactValidItems", fn := fun _ => fun
  | [d] => { results := [.lit (.bool false)], args := [d] }
  | _ => none }
def FnExactValidItemsWrongFalsely : Prop := fnExactValidItemsRow.holds Try.pinned (OpenSpec.ofChange fnExactValidItemsWrong)

/-- 'laws.FnExactNameOf': WHATEVER THE INPUT: true; the input reads as it did. -/
def fnExactNameOfSpec : ChangeSpec := { name := "fnExactNameOf", fn := fun _ => fun
  | [d1, d2] => { results := [.lit (.bool true)], args := [d1, d2] }
  | _ => none }
def fnExactNameOfRow : OpenClaim := { program := "ytonepofeckdipaa", sum := "0b5022d4d5ea10977366d28a06733b4c8dcec0108fa14c2db88241ea0658a851", func := "loop.example/g00927/laws.FnExactNameOf", spec := "fnExactNameOf", apart := false }
def FnExactNameOfSaid : Prop := fnExactNameOfRow.holds Try.pinned (OpenSpec.ofChange fnExactNameOfSpec)

/-- ITS FALSE NEIGHBOUR: 'it returns false'. Refute it at one input. -/
def fnExactNameOfWrong : ChangeSpec := { name := "fnExactNameOf", fn := fun _ => fun
  | [d1, d2] => { results := [.lit (.bool false)], args := [d1, d2] }
  | _ => none }
def FnExactNameOfWrongFalsely : Prop := fnExactNameOfRow.holds Try.pinned (OpenSpec.ofChange fnExactNameOfWrong)

/-- 'laws.FnExactPatternNamed': WHATEVER THE INPUT: true; the input reads as it did. -/
def fnExactPatternNamedSpec : ChangeSpec := { name := "fnExactPatternNamed", fn := fun _ => fun
  | [d1, d2] => { results := [.lit (.bool true)], args := [d1, d2] }
  | _ => none }
def fnExactPatternNamedRow : OpenClaim := { program := "ytonepofeckdipaa", sum := "0b5022d4d5ea10977366d28a06733b4c8dcec0108fa14c2db88241ea0658a851", func := "loop.example/g00927/laws.FnExactPatternNamed", spec := "fnExactPatternNamed", apart := false }
def FnExactPatternNamedSaid : Prop := fnExactPatternNamedRow.holds Try.pinned (OpenSpec.ofChange fnExactPatternNamedSpec)

/-- ITS FALSE NEIGHBOUR: 'it returns false'. Refute it at one input. -/
def fnExactPatternNamedWrong : ChangeSpec := { name := "fnExactPatternNamed", fn := fun _ => fun
  | [d1, d2] => { results := [.lit (.bool false)], args := [d1, d2] }
  | _ => none }
def FnExactPatternNamedWrongFalsely : Prop := fnExactPatternNamedRow.holds Try.pinned (OpenSpec.ofChange fnExactPatternNamedWrong)

/-- 'laws.FnExactNamesWith': WHATEVER THE INPUT: true; the input reads as it did. -/
def fnExactNamesWithSpec : ChangeSpec := { name := "fnExactNamesWith", fn := fun _ => fun
  | [d1, d2] => { results := [.lit (.bool true)], args := [d1, d2] }
  | _ => none }
def fnExactNamesWithRow : OpenClaim := { program := "ytonepofeckdipaa", sum := "0b5022d4d5ea10977366d28a06733b4c8dcec0108fa14c2db88241ea0658a851", func := "loop.example/g00927/laws.FnExactNamesWith", spec := "fnExactNamesWith", apart := false }
def FnExactNamesWithSaid : Prop := fnExactNamesWithRow.holds Try.pinned (OpenSpec.ofChange fnExactNamesWithSpec)

/-- ITS FALSE NEIGHBOUR: 'it returns false'. Refute it at one input. -/
def fnExactNamesWithWrong : ChangeSpec := { name := "fnExactNamesWith", fn := fun _ => fun
  | [d1, d2] => { results := [.lit (.bool false)], args := [d1, d2] }
  | _ => none }
def FnExactNamesWithWrongFalsely : Prop := fnExactNamesWithRow.holds Try.pinned (OpenSpec.ofChange fnExactNamesWithWrong)

/-- 'laws.FnExactRemoveItem': WHATEVER THE INPUT: true; the input reads as it did. -/
def fnExactRemoveItemSpec : ChangeSpec := { name := "fnExactRemoveItem", fn := fun _ => fun
  | [d1, d2] => { results := [.lit (.bool true)], args := [d1, d2] }
  | _ => none }
def fnExactRemoveItemRow : OpenClaim := { program := "ytonepofeckdipaa", sum := "0b5022d4d5ea10977366d28a06733b4c8dcec0108fa14c2db88241ea0658a851", func := "loop.example/g00927/laws.FnExactRemoveItem", spec := "fnExactRemoveItem", apart := false }
def FnExactRemoveItemSaid : Prop := fnExactRemoveItemRow.holds Try.pinned (OpenSpec.ofChange fnExactRemoveItemSpec)

/-- ITS FALSE NEIGHBOUR: 'it returns false'. Refute it at one input. -/
def fnExactRemoveItemWrong : ChangeSpec := { name := "fnExactRemoveItem", fn := fun _ => fun
  | [d1, d2] => { results := [.lit (.bool false)], args := [d1, d2] }
  | _ => none }
def FnExactRemoveItemWrongFalsely : Prop := fnExactRemoveItemRow.holds Try.pinned (OpenSpec.ofChange fnExactRemoveItemWrong)

/- THE SECOND FORM. 'bulk': how many values and letters a reading holds, each counted each time it is reached (what is shared counts as often as it is met; a slice's spare places count too). A statement '..UptoSaid' is the law's where the arguments, and the package variables that the reading takes, are together of bulk at most 1048576: NARROWER than '..Said'. Prove '..Said' where nothing that the law and all that it calls make is longer than what came in: it says more and counts as full. Else prove '..UptoSaid'. A law counts once. -/
mutual
def uptoBulk {H : Type} : DataW H → Nat
  | .lit (.string bytes) => bytes.length + 1
  | .lit _ => 1
  | .nil => 1
  | .ptr d => uptoBulk d + 1
  | .slice elems spare => uptoBulkAll elems + uptoBulkAll spare + 1
  | .agg parts => uptoBulkAll parts + 1
  | .iface _ d => uptoBulk d + 1
  | .map entries => uptoBulkEntries entries + 1
  | .held _ => 1
def uptoBulkAll {H : Type} : List (DataW H) → Nat
  | [] => 0
  | d :: r => uptoBulk d + uptoBulkAll r
def uptoBulkEntries {H : Type} : List (Lit × DataW H) → Nat
  | [] => 0
  | x :: r => uptoBulkEntry x + uptoBulkEntries r
def uptoBulkEntry {H : Type} : Lit × DataW H → Nat
  | (.string bytes, d) => bytes.length + uptoBulk d + 1
  | (_, d) => uptoBulk d + 1
 end
def uptoSmall : (H : Type) → List (DataW H) → Bool := fun _ ds => decide (uptoBulkAll ds ≤ 1048576)
def OpenSpec.upto (s : _root_.Go.ChangeSpec) : _root_.Go.OpenSpec := { _root_.Go.OpenSpec.ofChange s with cond := some uptoSmall }

/-- 'laws.FnExactValidItems', WHERE WHAT IT READS IS OF BULK AT MOST 1048576: true; the input reads as it did. -/
def fnExactValidItemsUptoRow : OpenClaim := { program := "ytonepofeckdipaa", sum := "0b5022d4d5ea10977366d28a06733b4c8dcec0108fa14c2db88241ea0658a851", func := "loop.example/g00927/laws.FnExactValidItems", spec := "fnExactValidItems", apart := false, narrowed := true }
def FnExactValidItemsUptoSaid : Prop := fnExactValidItemsUptoRow.holds Try.pinned (OpenSpec.upto fnExactValidItemsSpec)

/-- 'laws.FnExactNameOf', WHERE WHAT IT READS IS OF BULK AT MOST 1048576: true; the input reads as it did. -/
def fnExactNameOfUptoRow : OpenClaim := { program := "ytonepofeckdipaa", sum := "0b5022d4d5ea10977366d28a06733b4c8dcec0108fa14c2db88241ea0658a851", func := "loop.example/g00927/laws.FnExactNameOf", spec := "fnExactNameOf", apart := false, narrowed := true }
def FnExactNameOfUptoSaid : Prop := fnExactNameOfUptoRow.holds Try.pinned (OpenSpec.upto fnExactNameOfSpec)

/-- 'laws.FnExactPatternNamed', WHERE WHAT IT READS IS OF BULK AT MOST 1048576: true; the input reads as it did. -/
def fnExactPatternNamedUptoRow : OpenClaim := { program := "ytonepofeckdipaa", sum := "0b5022d4d5ea10977366d28a06733b4c8dcec0108fa14c2db88241ea0658a851", func := "loop.example/g00927/laws.FnExactPatternNamed", spec := "fnExactPatternNamed", apart := false, narrowed := true }
def FnExactPatternNamedUptoSaid : Prop := fnExactPatternNamedUptoRow.holds Try.pinned (OpenSpec.upto fnExactPatternNamedSpec)

/-- 'laws.FnExactNamesWith', WHERE WHAT IT READS IS OF BULK AT MOST 1048576: true; the input reads as it did. -/
def fnExactNamesWithUptoRow : OpenClaim := { program := "ytonepofeckdipaa", sum := "0b5022d4d5ea10977366d28a06733b4c8dcec0108fa14c2db88241ea0658a851", func := "loop.example/g00927/laws.FnExactNamesWith", spec := "fnExactNamesWith", apart := false, narrowed := true }
def FnExactNamesWithUptoSaid : Prop := fnExactNamesWithUptoRow.holds Try.pinned (OpenSpec.upto fnExactNamesWithSpec)

/-- 'laws.FnExactRemoveItem', WHERE WHAT IT READS IS OF BULK AT MOST 1048576: true; the input reads as it did. -/
def fnExactRemoveItemUptoRow : OpenClaim := { program := "ytonepofeckdipaa", sum := "0b5022d4d5ea10977366d28a06733b4c8dcec0108fa14c2db88241ea0658a851", func := "loop.example/g00927/laws.FnExactRemoveItem", spec := "fnExactRemoveItem", apart := false, narrowed := true }
def FnExactRemoveItemUptoSaid : Prop := fnExactRemoveItemUptoRow.holds Try.pinned (OpenSpec.upto fnExactRemoveItemSpec)

end Rows
end Go.Proofs.Ytonepofeckdipaa
