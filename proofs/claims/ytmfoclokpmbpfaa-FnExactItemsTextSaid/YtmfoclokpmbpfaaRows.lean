/-
  No cell of these rows narrows 'for every input' (looked for: loops, veiled, ifaces, maps, wideKeys, modest, calm, conditions, laid).
  DERIVED. THE GIVEN ROWS OF THIS SEAT. 3 by the template 'for every input the law returns true; each argument reads behind the call as it read before'; 0 by the template 'total and deterministic' (their statements: YtmfoclokpmbpfaaTotals.lean).
  GIVEN WITH THE SEED: the statements are not yours to turn. If you find one false, say at which input.
  Laid BY PROGRAM, IN A SANDBOX (cutbox-rows.mjs): the forced cells as the released guide's own fill.sh prints them over the translation 8e3580d88f191953… (all of the seat's roots in one cut). By AI agents, Wed Nov 11 2026. No macro, syntax, notation, axiom, sorry.
-/
import Derived.Test.YtmfoclokpmbpfaaChecked
import GoSem.Claim
import GoSem.ClaimJoined
import GoSem.ClaimMapViews
import Derived.JoinedTies
import Derived.KernelRfl
namespace Go.Proofs.Ytmfoclokpmbpfaa
/- THE CELL 'sum', in the pinned program and in every row, IS THE sha256 OF THE DUMP (.gsa) THAT YtmfoclokpmbpfaaProg.lean LOADS. Nothing in Lean hashes anything: it is a label: what it is worth is what the hold of that sum in a sandbox is worth. -/
noncomputable def Try.pinned : Pinned := { name := "ytmfoclokpmbpfaa", sum := "8e3580d88f19195384c8d2823ccc2249c6428f474680df64f230b0accdf767df", checked := Try.checked }
namespace Rows
def none {H : Type} : Left H := { results := [], args := [] }

/-- 'laws.FnExactItemsText': WHATEVER THE INPUT: true; the input reads as it did. -/
def fnExactItemsTextSpec : ChangeSpec := { name := "fnExactItemsText", fn := fun _ => fun
  | [d] => { results := [.lit (.bool true)], args := [d] }
  | _ => none }
def fnExactItemsTextRow : OpenClaim := { program := "ytmfoclokpmbpfaa", sum := "8e3580d88f19195384c8d2823ccc2249c6428f474680df64f230b0accdf767df", func := "loop.example/g00927/laws.FnExactItemsText", spec := "fnExactItemsText", apart := false }
def FnExactItemsTextSaid : Prop := fnExactItemsTextRow.holds Try.pinned (OpenSpec.ofChange fnExactItemsTextSpec)

/-- ITS FALSE NEIGHBOUR: 'it returns false'. Refute it at one input. -/
def fnExactItemsTextWrong : ChangeSpec := { name := "fnExactItemsText", fn := fun _ => fun
  | [d] => { results := [.lit (.bool false)], args := [d] }
  | _ => none }
def FnExactItemsTextWrongFalsely : Prop := fnExactItemsTextRow.holds Try.pinned (OpenSpec.ofChange fnExactItemsTextWrong)

/-- 'laws.FnExactReadItems': WHATEVER THE INPUT: true; the input reads as it did. -/
def fnExactReadItemsSpec : ChangeSpec := { name := "fnExactReadItems", fn := fun _ => fun
  | [d] => { results := [.lit (.bool true)], args := [d] }
  | _ => none }
def fnExactReadItemsRow : OpenClaim := { program := "ytmfoclokpmbpfaa", sum := "8e3580d88f19195384c8d2823ccc2249c6428f474680df64f230b0accdf767df", func := "loop.example/g00927/laws.FnExactReadItems", spec := "fnExactReadItems", apart := false }
def FnExactReadItemsSaid : Prop := fnExactReadItemsRow.holds Try.pinned (OpenSpec.ofChange fnExactReadItemsSpec)

/-- ITS FALSE NEIGHBOUR: 'it returns false'. Refute it at one input. -/
def fnExactReadItemsWrong : ChangeSpec := { name := "fnExactReadItems", fn := fun _ => fun
  | [d] => { results := [.lit (.bool false)], args := [d] }
  | _ => none }
def FnExactReadItemsWrongFalsely : Prop := fnExactReadItemsRow.holds Try.pinned (OpenSpec.ofChange fnExactReadItemsWrong)

/-- 'laws.FnExactStandardItems': WHATEVER THE INPUT: true; the input reads as it did. -/
def fnExactStandardItemsSpec : ChangeSpec := { name := "fnExactStandardItems", fn := fun _ => fun
  | [] => { results := [.lit (.bool true)], args := [] }
  | _ => none }
def fnExactStandardItemsRow : OpenClaim := { program := "ytmfoclokpmbpfaa", sum := "8e3580d88f19195384c8d2823ccc2249c6428f474680df64f230b0accdf767df", func := "loop.example/g00927/laws.FnExactStandardItems", spec := "fnExactStandardItems", apart := false }
def FnExactStandardItemsSaid : Prop := fnExactStandardItemsRow.holds Try.pinned (OpenSpec.ofChange fnExactStandardItemsSpec)

/-- ITS FALSE NEIGHBOUR: 'it returns false'. Refute it at one input. -/
def fnExactStandardItemsWrong : ChangeSpec := { name := "fnExactStandardItems", fn := fun _ => fun
  | [] => { results := [.lit (.bool false)], args := [] }
  | _ => none }
def FnExactStandardItemsWrongFalsely : Prop := fnExactStandardItemsRow.holds Try.pinned (OpenSpec.ofChange fnExactStandardItemsWrong)

/- THE SECOND FORM. 'bulk': how many values and letters a reading holds, each counted each time it is reached (what is shared counts as often as it is met; a slice's spare places count too). A statement '..UptoSaid' is the law's where the arguments, and the package variables that the reading takes, are together of bulk at most 1048576: NARROWER than '..Said'. Prove '..Said' where nothing that the law and all that it calls make is longer than what came in: it says more and counts as full. Else prove '..UptoSaid'. A law counts once. -/
mutual
def uptoBulk {H : Type} : DataW H → Nat
  | .lit (.string bytes) => bytes.length + 1
  | .lit _ => 1
  | .nil => 1
  | .ptr d => uptoBulk d + 1
  | .slice elems spare => uptoBulkAll elems + uptoBulkAll spare + 1
  | .agg parts => uptoBulkAll parts + 1
  | .iface _ d => uptoBulk d + 1
  | .map entries => uptoBulkEntries entries + 1
  | .held _ => 1
def uptoBulkAll {H : Type} : List (DataW H) → Nat
  | [] => 0
  | d :: r => uptoBulk d + uptoBulkAll r
def uptoBulkEntries {H : Type} : List (Lit × DataW H) → Nat
  | [] => 0
  | x :: r => uptoBulkEntry x + uptoBulkEntries r
def uptoBulkEntry {H : Type} : Lit × DataW H → Nat
  | (.string bytes, d) => bytes.length + uptoBulk d + 1
  | (_, d) => uptoBulk d + 1
 end
def uptoSmall : (H : Type) → List (DataW H) → Bool := fun _ ds => decide (uptoBulkAll ds ≤ 1048576)
def OpenSpec.upto (s : _root_.Go.ChangeSpec) : _root_.Go.OpenSpec := { _root_.Go.OpenSpec.ofChange s with cond := some uptoSmall }

/-- 'laws.FnExactItemsText', WHERE WHAT IT READS IS OF BULK AT MOST 1048576: true; the input reads as it did. -/
def fnExactItemsTextUptoRow : OpenClaim := { program := "ytmfoclokpmbpfaa", sum := "8e3580d88f19195384c8d2823ccc2249c6428f474680df64f230b0accdf767df", func := "loop.example/g00927/laws.FnExactItemsText", spec := "fnExactItemsText", apart := false, narrowed := true }
def FnExactItemsTextUptoSaid : Prop := fnExactItemsTextUptoRow.holds Try.pinned (OpenSpec.upto fnExactItemsTextSpec)

/-- 'laws.FnExactReadItems', WHERE WHAT IT READS IS OF BULK AT MOST 1048576: true; the input reads as it did. -/
def fnExactReadItemsUptoRow : OpenClaim := { program := "ytmfoclokpmbpfaa", sum := "8e3580d88f19195384c8d2823ccc2249c6428f474680df64f230b0accdf767df", func := "loop.example/g00927/laws.FnExactReadItems", spec := "fnExactReadItems", apart := false, narrowed := true }
def FnExactReadItemsUptoSaid : Prop := fnExactReadItemsUptoRow.holds Try.pinned (OpenSpec.upto fnExactReadItemsSpec)

/-- 'laws.FnExactStandardItems', WHERE WHAT IT READS IS OF BULK AT MOST 1048576: true; the input reads as it did. -/
def fnExactStandardItemsUptoRow : OpenClaim := { program := "ytmfoclokpmbpfaa", sum := "8e3580d88f19195384c8d2823ccc2249c6428f474680df64f230b0accdf767df", func := "loop.example/g00927/laws.FnExactStandardItems", spec := "fnExactStandardItems", apart := false, narrowed := true }
def FnExactStandardItemsUptoSaid : Prop := fnExactStandardItemsUptoRow.holds Try.pinned (OpenSpec.upto fnExactStandardItemsSpec)

end Rows
end Go.Proofs.Ytmfoclokpmbpfaa
