/-
  No cell of these rows narrows 'for every input' (looked for: loops, veiled, ifaces, maps, wideKeys, modest, calm, conditions, laid).
  DERIVED. THE GIVEN ROWS OF THIS SEAT. 3 by the template 'for every input the law returns true; each argument reads behind the call as it read before'; 0 by the template 'total and deterministic' (their statements: YtdcocaplcfibdaaTotals.lean).
  GIVEN WITH THE SEED: the statements are not yours to turn. If you find one false, say at which input.
  Laid BY PROGRAM, IN A SANDBOX (cutbox-rows.mjs): the forced cells as the released guide's own fill.sh prints them over the translation 6f25b2fbc2247d63… (all of the seat's roots in one cut). By AI agents, Wed Nov 11 2026. No macro, syntax, notation, axiom, sorry.
-/
import Derived.Test.YtdcocaplcfibdaaChecked
import GoSem.Claim
import GoSem.ClaimJoined
import GoSem.ClaimMapViews
import Derived.JoinedTies
import Derived.KernelRfl
namespace Go.Proofs.Ytdcocaplcfibdaa
/- THE CELL 'sum', in the pinned program and in every row, IS THE sha256 OF THE DUMP (.gsa) THAT YtdcocaplcfibdaaProg.lean LOADS. Nothing in Lean hashes anything: it is a label: what it is worth is what the hold of that sum in a sandbox is worth. -/
noncomputable def Try.pinned : Pinned := { name := "ytdcocaplcfibdaa", sum := "6f25b2fbc2247d6383072d842684df75c640d4429016d5f020b163e29c8487bd", checked := Try.checked }
namespace Rows
def none {H : Type} : Left H := { results := [], args := [] }

/-- 'laws.FnExactDifficultyOf': WHATEVER THE INPUT: true; the input reads as it did. -/
def fnExactDifficultyOfSpec : ChangeSpec := { name := "fnExactDifficultyOf", fn := fun _ => fun
  | [d] => { results := [.lit (.bool true)], args := [d] }
  | _ => none }
def fnExactDifficultyOfRow : OpenClaim := { program := "ytdcocaplcfibdaa", sum := "6f25b2fbc2247d6383072d842684df75c640d4429016d5f020b163e29c8487bd", func := "loop.example/g00927/laws.FnExactDifficultyOf", spec := "fnExactDifficultyOf", unfollowed := true, recurses := true, apart := false }
def FnExactDifficultyOfSaid : Prop := fnExactDifficultyOfRow.holds Try.pinned (OpenSpec.ofChange fnExactDifficultyOfSpec)

/-- ITS FALSE NEIGHBOUR: 'it returns false'. Refute it at one input. -/
def fnExactDifficultyOfWrong : ChangeSpec := { name := "fnExactDifficultyOf", fn := fun _ => fun
  | [d] => { results := [.lit (.bool false)], args := [d] }
  | _ => none }
def FnExactDifficultyOfWrongFalsely : Prop := fnExactDifficultyOfRow.holds Try.pinned (OpenSpec.ofChange fnExactDifficultyOfWrong)

/-- 'laws.FnExactGradeOf': WHATEVER THE INPUT: true; the input reads as it did. -/
def fnExactGradeOfSpec : ChangeSpec := { name := "fnExactGradeOf", fn := fun _ => fun
  | [d] => { results := [.lit (.bool true)], args := [d] }
  | _ => none }
def fnExactGradeOfRow : OpenClaim := { program := "ytdcocaplcfibdaa", sum := "6f25b2fbc2247d6383072d842684df75c640d4429016d5f020b163e29c8487bd", func := "loop.example/g00927/laws.FnExactGradeOf", spec := "fnExactGradeOf", unfollowed := true, recurses := true, apart := false }
def FnExactGradeOfSaid : Prop := fnExactGradeOfRow.holds Try.pinned (OpenSpec.ofChange fnExactGradeOfSpec)

/-- ITS FALSE NEIGHBOUR: 'it returns false'. Refute it at one input. -/
def fnExactGradeOfWrong : ChangeSpec := { name := "fnExactGradeOf", fn := fun _ => fun
  | [d] => { results := [.lit (.bool false)], args := [d] }
  | _ => none }
def FnExactGradeOfWrongFalsely : Prop := fnExactGradeOfRow.holds Try.pinned (OpenSpec.ofChange fnExactGradeOfWrong)

/-- 'laws.FnExactEasiestSwap': WHATEVER THE INPUT: true; the input reads as it did. -/
def fnExactEasiestSwapSpec : ChangeSpec := { name := "fnExactEasiestSwap", fn := fun _ => fun
  | [d] => { results := [.lit (.bool true)], args := [d] }
  | _ => none }
def fnExactEasiestSwapRow : OpenClaim := { program := "ytdcocaplcfibdaa", sum := "6f25b2fbc2247d6383072d842684df75c640d4429016d5f020b163e29c8487bd", func := "loop.example/g00927/laws.FnExactEasiestSwap", spec := "fnExactEasiestSwap", apart := false }
def FnExactEasiestSwapSaid : Prop := fnExactEasiestSwapRow.holds Try.pinned (OpenSpec.ofChange fnExactEasiestSwapSpec)

/-- ITS FALSE NEIGHBOUR: 'it returns false'. Refute it at one input. -/
def fnExactEasiestSwapWrong : ChangeSpec := { name := "fnExactEasiestSwap", fn := fun _ => fun
  | [d] => { results := [.lit (.bool false)], args := [d] }
  | _ => none }
def FnExactEasiestSwapWrongFalsely : Prop := fnExactEasiestSwapRow.holds Try.pinned (OpenSpec.ofChange fnExactEasiestSwapWrong)

/- THE SECOND FORM. 'bulk': how many values and letters a reading holds, each counted each time it is reached (what is shared counts as often as it is met; a slice's spare places count too). A statement '..UptoSaid' is the law's where the arguments, and the package variables that the reading takes, are together of bulk at most 1048576: NARROWER than '..Said'. Prove '..Said' where nothing that the law and all that it calls make is longer than what came in: it says more and counts as full. Else prove '..UptoSaid'. A law counts once. -/
mutual
def uptoBulk {H : Type} : DataW H → Nat
  | .lit (.string bytes) => bytes.length + 1
  | .lit _ => 1
  | .nil => 1
  | .ptr d => uptoBulk d + 1
  | .slice elems spare => uptoBulkAll elems + uptoBulkAll spare + 1
  | .agg parts => uptoBulkAll parts + 1
  | .iface _ d => uptoBulk d + 1
  | .map entries => uptoBulkEntries entries + 1
  | .held _ => 1
def uptoBulkAll {H : Type} : List (DataW H) → Nat
  | [] => 0
  | d :: r => uptoBulk d + uptoBulkAll r
def uptoBulkEntries {H : Type} : List (Lit × DataW H) → Nat
  | [] => 0
  | x :: r => uptoBulkEntry x + uptoBulkEntries r
def uptoBulkEntry {H : Type} : Lit × DataW H → Nat
  | (.string bytes, d) => bytes.length + uptoBulk d + 1
  | (_, d) => uptoBulk d + 1
 end
def uptoSmall : (H : Type) → List (DataW H) → Bool := fun _ ds => decide (uptoBulkAll ds ≤ 1048576)
def OpenSpec.upto (s : _root_.Go.ChangeSpec) : _root_.Go.OpenSpec := { _root_.Go.OpenSpec.ofChange s with cond := some uptoSmall }

/-- 'laws.FnExactDifficultyOf', WHERE WHAT IT READS IS OF BULK AT MOST 1048576: true; the input reads as it did. -/
def fnExactDifficultyOfUptoRow : OpenClaim := { program := "ytdcocaplcfibdaa", sum := "6f25b2fbc2247d6383072d842684df75c640d4429016d5f020b163e29c8487bd", func := "loop.example/g00927/laws.FnExactDifficultyOf", spec := "fnExactDifficultyOf", unfollowed := true, recurses := true, apart := false, narrowed := true }
def FnExactDifficultyOfUptoSaid : Prop := fnExactDifficultyOfUptoRow.holds Try.pinned (OpenSpec.upto fnExactDifficultyOfSpec)

/-- 'laws.FnExactGradeOf', WHERE WHAT IT READS IS OF BULK AT MOST 1048576: true; the input reads as it did. -/
def fnExactGradeOfUptoRow : OpenClaim := { program := "ytdcocaplcfibdaa", sum := "6f25b2fbc2247d6383072d842684df75c640d4429016d5f020b163e29c8487bd", func := "loop.example/g00927/laws.FnExactGradeOf", spec := "fnExactGradeOf", unfollowed := true, recurses := true, apart := false, narrowed := true }
def FnExactGradeOfUptoSaid : Prop := fnExactGradeOfUptoRow.holds Try.pinned (OpenSpec.upto fnExactGradeOfSpec)

/-- 'laws.FnExactEasiestSwap', WHERE WHAT IT READS IS OF BULK AT MOST 1048576: true; the input reads as it did. -/
def fnExactEasiestSwapUptoRow : OpenClaim := { program := "ytdcocaplcfibdaa", sum := "6f25b2fbc2247d6383072d842684df75c640d4429016d5f020b163e29c8487bd", func := "loop.example/g00927/laws.FnExactEasiestSwap", spec := "fnExactEasiestSwap", apart := false, narrowed := true }
def FnExactEasiestSwapUptoSaid : Prop := fnExactEasiestSwapUptoRow.holds Try.pinned (OpenSpec.upto fnExactEasiestSwapSpec)

end Rows
end Go.Proofs.Ytdcocaplcfibdaa
