/-
  No cell of these rows narrows 'for every input' (looked for: loops, veiled, ifaces, maps, wideKeys, modest, calm, conditions, laid).
  DERIVED. THE GIVEN ROWS OF THIS SEAT. 4 by the template 'for every input the law returns true; each argument reads behind the call as it read before'; 0 by the template 'total and deterministic' (their statements: YtahkkiooklplhaaTotals.lean).
  GIVEN WITH THE SEED: the statements are not yours to turn. If you find one false, say at which input.
  Laid BY PROGRAM, IN A SANDBOX (cutbox-rows.mjs): the forced cells as the released guide's own fill.sh prints them over the translation 27a4ff32f7c4cd4b… (all of the seat's roots in one cut). By AI agents, Wed Nov 11 2026. No macro, syntax, notation, axiom, sorry.
-/
import Derived.Test.YtahkkiooklplhaaChecked
import GoSem.Claim
import GoSem.ClaimJoined
import GoSem.ClaimMapViews
import Derived.JoinedTies
import Derived.KernelRfl
namespace Go.Proofs.Ytahkkiooklplhaa
/- THE CELL 'sum', in the pinned program and in every row, IS THE sha256 OF THE DUMP (.gsa) THAT YtahkkiooklplhaaProg.lean LOADS. Nothing in Lean hashes anything: it is a label: what it is worth is what the hold of that sum in a sandbox is worth. -/
noncomputable def Try.pinned : Pinned := { name := "ytahkkiooklplhaa", sum := "27a4ff32f7c4cd4b36451fc5d3c1d772cd6d44541589ffc051433d7fad94b8e6", checked := Try.checked }
namespace Rows
def none {H : Type} : Left H := { results := [], args := [] }

/-- 'laws.FnExactNextDue': WHATEVER THE INPUT: true; the input reads as it did. -/
def fnExactNextDueSpec : ChangeSpec := { name := "fnExactNextDue", fn := fun _ => fun
  | [d] => { results := [.lit (.bool true)], args := [d] }
  | _ => none }
def fnExactNextDueRow : OpenClaim := { program := "ytahkkiooklplhaa", sum := "27a4ff32f7c4cd4b36451fc5d3c1d772cd6d44541589ffc051433d7fad94b8e6", func := "loop.example/g00927/laws.FnExactNextDue", spec := "fnExactNextDue", inPlace := ["internal/reflectlite.ValueOf", "internal/reflectlite.Swapper", "(internal/reflectlite.Value).Len"], unfollowed := true, recurses := true, apart := false }
def FnExactNextDueSaid : Prop := fnExactNextDueRow.holds Try.pinned (OpenSpec.ofChange fnExactNextDueSpec)

/-- ITS FALSE NEIGHBOUR: 'it returns false'. Refute it at one input. -/
def fnExactNextDueWrong : ChangeSpec := { name := "fnExactNextDue", fn := fun _ => fun
  | [d] => { results := [.lit (.bool false)], args := [d] }
  | _ => none }
def FnExactNextDueWrongFalsely : Prop := fnExactNextDueRow.holds Try.pinned (OpenSpec.ofChange fnExactNextDueWrong)

/-- 'laws.FnExactDueCards': WHATEVER THE INPUT: true; the input reads as it did. -/
def fnExactDueCardsSpec : ChangeSpec := { name := "fnExactDueCards", fn := fun _ => fun
  | [d1, d2] => { results := [.lit (.bool true)], args := [d1, d2] }
  | _ => none }
def fnExactDueCardsRow : OpenClaim := { program := "ytahkkiooklplhaa", sum := "27a4ff32f7c4cd4b36451fc5d3c1d772cd6d44541589ffc051433d7fad94b8e6", func := "loop.example/g00927/laws.FnExactDueCards", spec := "fnExactDueCards", inPlace := ["internal/reflectlite.ValueOf", "internal/reflectlite.Swapper", "(internal/reflectlite.Value).Len"], unfollowed := true, recurses := true, apart := false }
def FnExactDueCardsSaid : Prop := fnExactDueCardsRow.holds Try.pinned (OpenSpec.ofChange fnExactDueCardsSpec)

/-- ITS FALSE NEIGHBOUR: 'it returns false'. Refute it at one input. -/
def fnExactDueCardsWrong : ChangeSpec := { name := "fnExactDueCards", fn := fun _ => fun
  | [d1, d2] => { results := [.lit (.bool false)], args := [d1, d2] }
  | _ => none }
def FnExactDueCardsWrongFalsely : Prop := fnExactDueCardsRow.holds Try.pinned (OpenSpec.ofChange fnExactDueCardsWrong)

/-- 'laws.FnExactBalanceCards': WHATEVER THE INPUT: true; the input reads as it did. -/
def fnExactBalanceCardsSpec : ChangeSpec := { name := "fnExactBalanceCards", fn := fun _ => fun
  | [d1, d2, d3] => { results := [.lit (.bool true)], args := [d1, d2, d3] }
  | _ => none }
def fnExactBalanceCardsRow : OpenClaim := { program := "ytahkkiooklplhaa", sum := "27a4ff32f7c4cd4b36451fc5d3c1d772cd6d44541589ffc051433d7fad94b8e6", func := "loop.example/g00927/laws.FnExactBalanceCards", spec := "fnExactBalanceCards", inPlace := ["internal/reflectlite.ValueOf", "internal/reflectlite.Swapper", "(internal/reflectlite.Value).Len"], unfollowed := true, recurses := true, apart := false }
def FnExactBalanceCardsSaid : Prop := fnExactBalanceCardsRow.holds Try.pinned (OpenSpec.ofChange fnExactBalanceCardsSpec)

/-- ITS FALSE NEIGHBOUR: 'it returns false'. Refute it at one input. -/
def fnExactBalanceCardsWrong : ChangeSpec := { name := "fnExactBalanceCards", fn := fun _ => fun
  | [d1, d2, d3] => { results := [.lit (.bool false)], args := [d1, d2, d3] }
  | _ => none }
def FnExactBalanceCardsWrongFalsely : Prop := fnExactBalanceCardsRow.holds Try.pinned (OpenSpec.ofChange fnExactBalanceCardsWrong)

/-- 'laws.FnExactEasierFirst': WHATEVER THE INPUT: true; the input reads as it did. -/
def fnExactEasierFirstSpec : ChangeSpec := { name := "fnExactEasierFirst", fn := fun _ => fun
  | [d] => { results := [.lit (.bool true)], args := [d] }
  | _ => none }
def fnExactEasierFirstRow : OpenClaim := { program := "ytahkkiooklplhaa", sum := "27a4ff32f7c4cd4b36451fc5d3c1d772cd6d44541589ffc051433d7fad94b8e6", func := "loop.example/g00927/laws.FnExactEasierFirst", spec := "fnExactEasierFirst", inPlace := ["internal/reflectlite.ValueOf", "internal/reflectlite.Swapper", "(internal/reflectlite.Value).Len"], unfollowed := true, recurses := true, apart := false }
def FnExactEasierFirstSaid : Prop := fnExactEasierFirstRow.holds Try.pinned (OpenSpec.ofChange fnExactEasierFirstSpec)

/-- ITS FALSE NEIGHBOUR: 'it returns false'. Refute it at one input. -/
def fnExactEasierFirstWrong : ChangeSpec := { name := "fnExactEasierFirst", fn := fun _ => fun
  | [d] => { results := [.lit (.bool false)], args := [d] }
  | _ => none }
def FnExactEasierFirstWrongFalsely : Prop := fnExactEasierFirstRow.holds Try.pinned (OpenSpec.ofChange fnExactEasierFirstWrong)

/- THE SECOND FORM. 'bulk': how many values and letters a reading holds, each counted each time it is reached (what is shared counts as often as it is met; a slice's spare places count too). A statement '..UptoSaid' is the law's where the arguments, and the package variables that the reading takes, are together of bulk at most 1048576: NARROWER than '..Said'. Prove '..Said' where nothing that the law and all that it calls make is longer than what came in: it says more and counts as full. Else prove '..UptoSaid'. A law counts once. -/
mutual
def uptoBulk {H : Type} : DataW H → Nat
  | .lit (.string bytes) => bytes.length + 1
  | .lit _ => 1
  | .nil => 1
  | .ptr d => uptoBulk d + 1
  | .slice elems spare => uptoBulkAll elems + uptoBulkAll spare + 1
  | .agg parts => uptoBulkAll parts + 1
  | .iface _ d => uptoBulk d + 1
  | .map entries => uptoBulkEntries entries + 1
  | .held _ => 1
def uptoBulkAll {H : Type} : List (DataW H) → Nat
  | [] => 0
  | d :: r => uptoBulk d + uptoBulkAll r
def uptoBulkEntries {H : Type} : List (Lit × DataW H) → Nat
  | [] => 0
  | x :: r => uptoBulkEntry x + uptoBulkEntries r
def uptoBulkEntry {H : Type} : Lit × DataW H → Nat
  | (.string bytes, d) => bytes.length + uptoBulk d + 1
  | (_, d) => uptoBulk d + 1
 end
def uptoSmall : (H : Type) → List (DataW H) → Bool := fun _ ds => decide (uptoBulkAll ds ≤ 1048576)
def OpenSpec.upto (s : _root_.Go.ChangeSpec) : _root_.Go.OpenSpec := { _root_.Go.OpenSpec.ofChange s with cond := some uptoSmall }

/-- 'laws.FnExactNextDue', WHERE WHAT IT READS IS OF BULK AT MOST 1048576: true; the input reads as it did. -/
def fnExactNextDueUptoRow : OpenClaim := { program := "ytahkkiooklplhaa", sum := "27a4ff32f7c4cd4b36451fc5d3c1d772cd6d44541589ffc051433d7fad94b8e6", func := "loop.example/g00927/laws.FnExactNextDue", spec := "fnExactNextDue", inPlace := ["internal/reflectlite.ValueOf", "internal/reflectlite.Swapper", "(internal/reflectlite.Value).Len"], unfollowed := true, recurses := true, apart := false, narrowed := true }
def FnExactNextDueUptoSaid : Prop := fnExactNextDueUptoRow.holds Try.pinned (OpenSpec.upto fnExactNextDueSpec)

/-- 'laws.FnExactDueCards', WHERE WHAT IT READS IS OF BULK AT MOST 1048576: true; the input reads as it did. -/
def fnExactDueCardsUptoRow : OpenClaim := { program := "ytahkkiooklplhaa", sum := "27a4ff32f7c4cd4b36451fc5d3c1d772cd6d44541589ffc051433d7fad94b8e6", func := "loop.example/g00927/laws.FnExactDueCards", spec := "fnExactDueCards", inPlace := ["internal/reflectlite.ValueOf", "internal/reflectlite.Swapper", "(internal/reflectlite.Value).Len"], unfollowed := true, recurses := true, apart := false, narrowed := true }
def FnExactDueCardsUptoSaid : Prop := fnExactDueCardsUptoRow.holds Try.pinned (OpenSpec.upto fnExactDueCardsSpec)

/-- 'laws.FnExactBalanceCards', WHERE WHAT IT READS IS OF BULK AT MOST 1048576: true; the input reads as it did. -/
def fnExactBalanceCardsUptoRow : OpenClaim := { program := "ytahkkiooklplhaa", sum := "27a4ff32f7c4cd4b36451fc5d3c1d772cd6d44541589ffc051433d7fad94b8e6", func := "loop.example/g00927/laws.FnExactBalanceCards", spec := "fnExactBalanceCards", inPlace := ["internal/reflectlite.ValueOf", "internal/reflectlite.Swapper", "(internal/reflectlite.Value).Len"], unfollowed := true, recurses := true, apart := false, narrowed := true }
def FnExactBalanceCardsUptoSaid : Prop := fnExactBalanceCardsUptoRow.holds Try.pinned (OpenSpec.upto fnExactBalanceCardsSpec)

/-- 'laws.FnExactEasierFirst', WHERE WHAT IT READS IS OF BULK AT MOST 1048576: true; the input reads as it did. -/
def fnExactEasierFirstUptoRow : OpenClaim := { program := "ytahkkiooklplhaa", sum := "27a4ff32f7c4cd4b36451fc5d3c1d772cd6d44541589ffc051433d7fad94b8e6", func := "loop.example/g00927/laws.FnExactEasierFirst", spec := "fnExactEasierFirst", inPlace := ["internal/reflectlite.ValueOf", "internal/reflectlite.Swapper", "(internal/reflectlite.Value).Len"], unfollowed := true, recurses := true, apart := false, narrowed := true }
def FnExactEasierFirstUptoSaid : Prop := fnExactEasierFirstUptoRow.holds Try.pinned (OpenSpec.upto fnExactEasierFirstSpec)

end Rows
end Go.Proofs.Ytahkkiooklplhaa
