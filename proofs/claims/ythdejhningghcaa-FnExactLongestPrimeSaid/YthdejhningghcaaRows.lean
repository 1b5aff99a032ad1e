/-
  No cell of these rows narrows 'for every input' (looked for: loops, veiled, ifaces, maps, wideKeys, modest, calm, conditions, laid).
  DERIVED. THE GIVEN ROWS OF THIS SEAT. 3 by the template 'for every input the law returns true; each argument reads behind the call as it read before'; 0 by the template 'total and deterministic' (their statements: YthdejhningghcaaTotals.lean).
  GIVEN WITH THE SEED: the statements are not yours to turn. If you find one false, say at which input.
  Laid BY PROGRAM, IN A SANDBOX (cutbox-rows.mjs): the forced cells as the released guide's own fill.sh prints them over the translation 28ef8f1509ecaeed… (all of the seat's roots in one cut). By AI agents, Wed Nov 11 2026. No macro, syntax, notation, axiom, sorry.
-/
import Derived.Test.YthdejhningghcaaChecked
import GoSem.Claim
import GoSem.ClaimJoined
import GoSem.ClaimMapViews
import Derived.JoinedTies
import Derived.KernelRfl
namespace Go.Proofs.Ythdejhningghcaa
/- THE CELL 'sum', in the pinned program and in every row, IS THE sha256 OF THE DUMP (.gsa) THAT YthdejhningghcaaProg.lean LOADS. Nothing in Lean hashes anything: it is a label: what it is worth is what the hold of that sum in a sandbox is worth. -/
noncomputable def Try.pinned : Pinned := { name := "ythdejhningghcaa", sum := "28ef8f1509ecaeed1a7cf1a0b7df9e4e64b04ca23888f108f7b12a0fa22973ba", checked := Try.checked }
namespace Rows
def none {H : Type} : Left H := { results := [], args := [] }

/-- 'laws.FnExactPrimesOf': WHATEVER THE INPUT: true; the input reads as it did. -/
def fnExactPrimesOfSpec : ChangeSpec := { name := "fnExactPrimesOf", fn := fun _ => fun
  | [d1, d2, d3] => { results := [.lit (.bool true)], args := [d1, d2, d3] }
  | _ => none }
def fnExactPrimesOfRow : OpenClaim := { program := "ythdejhningghcaa", sum := "28ef8f1509ecaeed1a7cf1a0b7df9e4e64b04ca23888f108f7b12a0fa22973ba", func := "loop.example/g00927/laws.FnExactPrimesOf", spec := "fnExactPrimesOf", inPlace := ["internal/reflectlite.ValueOf", "internal/reflectlite.Swapper", "(internal/reflectlite.Value).Len"], unfollowed := true, recurses := true, apart := false }
def FnExactPrimesOfSaid : Prop := fnExactPrimesOfRow.holds Try.pinned (OpenSpec.ofChange fnExactPrimesOfSpec)

/-- ITS FALSE NEIGHBOUR: 'it returns false'. Refute it at one input. -/
def fnExactPrimesOfWrong : ChangeSpec := { name := "fnExactPrimesOf", fn := fun _ => fun
  | [d1, d2, d3] => { results := [.lit (.bool false)], args := [d1, d2, d3] }
  | _ => none }
def FnExactPrimesOfWrongFalsely : Prop := fnExactPrimesOfRow.holds Try.pinned (OpenSpec.ofChange fnExactPrimesOfWrong)

/-- 'laws.FnExactCountPrimes': WHATEVER THE INPUT: true; the input reads as it did. -/
def fnExactCountPrimesSpec : ChangeSpec := { name := "fnExactCountPrimes", fn := fun _ => fun
  | [d1, d2, d3] => { results := [.lit (.bool true)], args := [d1, d2, d3] }
  | _ => none }
def fnExactCountPrimesRow : OpenClaim := { program := "ythdejhningghcaa", sum := "28ef8f1509ecaeed1a7cf1a0b7df9e4e64b04ca23888f108f7b12a0fa22973ba", func := "loop.example/g00927/laws.FnExactCountPrimes", spec := "fnExactCountPrimes", inPlace := ["internal/reflectlite.ValueOf", "internal/reflectlite.Swapper", "(internal/reflectlite.Value).Len"], unfollowed := true, recurses := true, apart := false }
def FnExactCountPrimesSaid : Prop := fnExactCountPrimesRow.holds Try.pinned (OpenSpec.ofChange fnExactCountPrimesSpec)

/-- ITS FALSE NEIGHBOUR: 'it returns false'. Refute it at one input. -/
def fnExactCountPrimesWrong : ChangeSpec := { name := "fnExactCountPrimes", fn := fun _ => fun
  | [d1, d2, d3] => { results := [.lit (.bool false)], args := [d1, d2, d3] }
  | _ => none }
def FnExactCountPrimesWrongFalsely : Prop := fnExactCountPrimesRow.holds Try.pinned (OpenSpec.ofChange fnExactCountPrimesWrong)

/-- 'laws.FnExactLongestPrime': WHATEVER THE INPUT: true; the input reads as it did. -/
def fnExactLongestPrimeSpec : ChangeSpec := { name := "fnExactLongestPrime", fn := fun _ => fun
  | [d1, d2] => { results := [.lit (.bool true)], args := [d1, d2] }
  | _ => none }
def fnExactLongestPrimeRow : OpenClaim := { program := "ythdejhningghcaa", sum := "28ef8f1509ecaeed1a7cf1a0b7df9e4e64b04ca23888f108f7b12a0fa22973ba", func := "loop.example/g00927/laws.FnExactLongestPrime", spec := "fnExactLongestPrime", inPlace := ["internal/reflectlite.ValueOf", "internal/reflectlite.Swapper", "(internal/reflectlite.Value).Len"], unfollowed := true, recurses := true, apart := false }
def FnExactLongestPrimeSaid : Prop := fnExactLongestPrimeRow.holds Try.pinned (OpenSpec.ofChange fnExactLongestPrimeSpec)

/-- ITS FALSE NEIGHBOUR: 'it returns false'. Refute it at one input. -/
def fnExactLongestPrimeWrong : ChangeSpec := { name := "fnExactLongestPrime", fn := fun _ => fun
  | [d1, d2] => { results := [.lit (.bool false)], args := [d1, d2] }
  | _ => none }
def FnExactLongestPrimeWrongFalsely : Prop := fnExactLongestPrimeRow.holds Try.pinned (OpenSpec.ofChange fnExactLongestPrimeWrong)

/- THE SECOND FORM. 'bulk': how many values and letters a reading holds, each counted each time it is reached (what is shared counts as often as it is met; a slice's spare places count too). A statement '..UptoSaid' is the law's where the arguments, and the package variables that the reading takes, are together of bulk at most 1048576: NARROWER than '..Said'. Prove '..Said' where nothing that the law and all that it calls make is longer than what came in: it says more and counts as full. Else prove '..UptoSaid'. A law counts once. -/
mutual
def uptoBulk {H : Type} : DataW H → Nat
  | .lit (.string bytes) => bytes.length + 1
  | .lit _ => 1
  | .nil => 1
  | .ptr d => uptoBulk d + 1
  | .slice elems spare => uptoBulkAll elems + uptoBulkAll spare + 1
  | .agg parts => uptoBulkAll parts + 1
  | .iface _ d => uptoBulk d + 1
  | .map entries => uptoBulkEntries entries + 1
  | .held _ => 1
def uptoBulkAll {H : Type} : List (DataW H) → Nat
  | [] => 0
  | d :: r => uptoBulk d + uptoBulkAll r
def uptoBulkEntries {H : Type} : List (Lit × DataW H) → Nat
  | [] => 0
  | x :: r => uptoBulkEntry x + uptoBulkEntries r
def uptoBulkEntry {H : Type} : Lit × DataW H → Nat
  | (.string bytes, d) => bytes.length + uptoBulk d + 1
  | (_, d) => uptoBulk d + 1
 end
def uptoSmall : (H : Type) → List (DataW H) → Bool := fun _ ds => decide (uptoBulkAll ds ≤ 1048576)
def OpenSpec.upto (s : _root_.Go.ChangeSpec) : _root_.Go.OpenSpec := { _root_.Go.OpenSpec.ofChange s with cond := some uptoSmall }

/-- 'laws.FnExactPrimesOf', WHERE WHAT IT READS IS OF BULK AT MOST 1048576: true; the input reads as it did. -/
def fnExactPrimesOfUptoRow : OpenClaim := { program := "ythdejhningghcaa", sum := "28ef8f1509ecaeed1a7cf1a0b7df9e4e64b04ca23888f108f7b12a0fa22973ba", func := "loop.example/g00927/laws.FnExactPrimesOf", spec := "fnExactPrimesOf", inPlace := ["internal/reflectlite.ValueOf", "internal/reflectlite.Swapper", "(internal/reflectlite.Value).Len"], unfollowed := true, recurses := true, apart := false, narrowed := true }
def FnExactPrimesOfUptoSaid : Prop := fnExactPrimesOfUptoRow.holds Try.pinned (OpenSpec.upto fnExactPrimesOfSpec)

/-- 'laws.FnExactCountPrimes', WHERE WHAT IT READS IS OF BULK AT MOST 1048576: true; the input reads as it did. -/
def fnExactCountPrimesUptoRow : OpenClaim := { program := "ythdejhningghcaa", sum := "28ef8f1509ecaeed1a7cf1a0b7df9e4e64b04ca23888f108f7b12a0fa22973ba", func := "loop.example/g00927/laws.FnExactCountPrimes", spec := "fnExactCountPrimes", inPlace := ["internal/reflectlite.ValueOf", "internal/reflectlite.Swapper", "(internal/reflectlite.Value).Len"], unfollowed := true, recurses := true, apart := false, narrowed := true }
def FnExactCountPrimesUptoSaid : Prop := fnExactCountPrimesUptoRow.holds Try.pinned (OpenSpec.upto fnExactCountPrimesSpec)

/-- 'laws.FnExactLongestPrime', WHERE WHAT IT READS IS OF BULK AT MOST 1048576: true; the input reads as it did. -/
def fnExactLongestPrimeUptoRow : OpenClaim := { program := "ythdejhningghcaa", sum := "28ef8f1509ecaeed1a7cf1a0b7df9e4e64b04ca23888f108f7b12a0fa22973ba", func := "loop.example/g00927/laws.FnExactLongestPrime", spec := "fnExactLongestPrime", inPlace := ["internal/reflectlite.ValueOf", "internal/reflectlite.Swapper", "(internal/reflectlite.Value).Len"], unfollowed := true, recurses := true, apart := false, narrowed := true }
def FnExactLongestPrimeUptoSaid : Prop := fnExactLongestPrimeUptoRow.holds Try.pinned (OpenSpec.upto fnExactLongestPrimeSpec)

end Rows
end Go.Proofs.Ythdejhningghcaa
