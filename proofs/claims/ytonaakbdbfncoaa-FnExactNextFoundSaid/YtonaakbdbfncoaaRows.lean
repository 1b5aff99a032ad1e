/-
  No cell of these rows narrows 'for every input' (looked for: loops, veiled, ifaces, maps, wideKeys, modest, calm, conditions, laid).
  DERIVED. THE GIVEN ROWS OF THIS SEAT. 5 by the template 'for every input the law returns true; each argument reads behind the call as it read before'; 0 by the template 'total and deterministic' (their statements: YtonaakbdbfncoaaTotals.lean).
  GIVEN WITH THE SEED: the statements are not yours to turn. If you find one false, say at which input.
  Laid BY PROGRAM, IN A SANDBOX (cutbox-rows.mjs): the forced cells as the released guide's own fill.sh prints them over the translation 3717f7568b503c54… (all of the seat's roots in one cut). By AI agents, Wed Nov 11 2026. No macro, syntax, notation, axiom, sorry.
-/
import Derived.Test.YtonaakbdbfncoaaChecked
import GoSem.Claim
import GoSem.ClaimJoined
import GoSem.ClaimMapViews
import Derived.JoinedTies
import Derived.KernelRfl
namespace Go.Proofs.Ytonaakbdbfncoaa
/- THE CELL 'sum', in the pinned program and in every row, IS THE sha256 OF THE DUMP (.gsa) THAT YtonaakbdbfncoaaProg.lean LOADS. Nothing in Lean hashes anything: it is a label: what it is worth is what the hold of that sum in a sandbox is worth. -/
noncomputable def Try.pinned : Pinned := { name := "ytonaakbdbfncoaa", sum := "3717f7568b503c543e9fd1a0a4c4fcda9e5c605e2d795468561609e3ccae0295", checked := Try.checked }
namespace Rows
def none {H : Type} : Left H := { results := [], args := [] }

/-- 'laws.FnExactCountFound': WHATEVER THE INPUT: true; the input reads as it did. -/
def fnExactCountFoundSpec : ChangeSpec := { name := "fnExactCountFound", fn := fun _ => fun
  | [d] => { results := [.lit (.bool true)], args := [d] }
  | _ => none }
def fnExactCountFoundRow : OpenClaim := { program := "ytonaakbdbfncoaa", sum := "3717f7568b503c543e9fd1a0a4c4fcda9e5c605e2d795468561609e3ccae0295", func := "loop.example/g00927/laws.FnExactCountFound", spec := "fnExactCountFound", recurses := true, apart := false }
def FnExactCountFoundSaid : Prop := fnExactCountFoundRow.holds Try.pinned (OpenSpec.ofChange fnExactCountFoundSpec)

/-- ITS FALSE NEIGHBOUR: 'it returns false'. Refute it at one input. -/
def fnExactCountFoundWrong : ChangeSpec := { name := "fnExactCountFound", fn := fun _ => fun
  | [d] => { results := [.lit (.bool false)], args := [d] }
  | _ => none }
def FnExactCountFoundWrongFalsely : Prop := fnExactCountFoundRow.holds Try.pinned (OpenSpec.ofChange fnExactCountFoundWrong)

/-- 'laws.FnExactQueryVisits': WHATEVER THE INPUT: true; the input reads as it did. -/
def fnExactQueryVisitsSpec : ChangeSpec := { name := "fnExactQueryVisits", fn := fun _ => fun
  | [d] => { results := [.lit (.bool true)], args := [d] }
  | _ => none }
def fnExactQueryVisitsRow : OpenClaim := { program := "ytonaakbdbfncoaa", sum := "3717f7568b503c543e9fd1a0a4c4fcda9e5c605e2d795468561609e3ccae0295", func := "loop.example/g00927/laws.FnExactQueryVisits", spec := "fnExactQueryVisits", recurses := true, apart := false }
def FnExactQueryVisitsSaid : Prop := fnExactQueryVisitsRow.holds Try.pinned (OpenSpec.ofChange fnExactQueryVisitsSpec)

/-- ITS FALSE NEIGHBOUR: 'it returns false'. Refute it at one input. -/
def fnExactQueryVisitsWrong : ChangeSpec := { name := "fnExactQueryVisits", fn := fun _ => fun
  | [d] => { results := [.lit (.bool false)], args := [d] }
  | _ => none }
def FnExactQueryVisitsWrongFalsely : Prop := fnExactQueryVisitsRow.holds Try.pinned (OpenSpec.ofChange fnExactQueryVisitsWrong)

/-- 'laws.FnExactNextFound': WHATEVER THE INPUT: true; the input reads as it did. -/
def fnExactNextFoundSpec : ChangeSpec := { name := "fnExactNextFound", fn := fun _ => fun
  | [d1, d2] => { results := [.lit (.bool true)], args := [d1, d2] }
  | _ => none }
def fnExactNextFoundRow : OpenClaim := { program := "ytonaakbdbfncoaa", sum := "3717f7568b503c543e9fd1a0a4c4fcda9e5c605e2d795468561609e3ccae0295", func := "loop.example/g00927/laws.FnExactNextFound", spec := "fnExactNextFound", recurses := true, apart := false }
def FnExactNextFoundSaid : Prop := fnExactNextFoundRow.holds Try.pinned (OpenSpec.ofChange fnExactNextFoundSpec)

/-- ITS FALSE NEIGHBOUR: 'it returns false'. Refute it at one input. -/
def fnExactNextFoundWrong : ChangeSpec := { name := "fnExactNextFound", fn := fun _ => fun
  | [d1, d2] => { results := [.lit (.bool false)], args := [d1, d2] }
  | _ => none }
def FnExactNextFoundWrongFalsely : Prop := fnExactNextFoundRow.holds Try.pinned (OpenSpec.ofChange fnExactNextFoundWrong)

/-- 'laws.FnExactFindPatterns': WHATEVER THE INPUT: true; the input reads as it did. -/
def fnExactFindPatternsSpec : ChangeSpec := { name := "fnExactFindPatterns", fn := fun _ => fun
  | [d1, d2] => { results := [.lit (.bool true)], args := [d1, d2] }
  | _ => none }
def fnExactFindPatternsRow : OpenClaim := { program := "ytonaakbdbfncoaa", sum := "3717f7568b503c543e9fd1a0a4c4fcda9e5c605e2d795468561609e3ccae0295", func := "loop.example/g00927/laws.FnExactFindPatterns", spec := "fnExactFindPatterns", recurses := true, apart := false }
def FnExactFindPatternsSaid : Prop := fnExactFindPatternsRow.holds Try.pinned (OpenSpec.ofChange fnExactFindPatternsSpec)

/-- ITS FALSE NEIGHBOUR: 'it returns false'. Refute it at one input. -/
def fnExactFindPatternsWrong : ChangeSpec := { name := "fnExactFindPatterns", fn := fun _ => fun
  | [d1, d2] => { results := [.lit (.bool false)], args := [d1, d2] }
  | _ => none }
def FnExactFindPatternsWrongFalsely : Prop := fnExactFindPatternsRow.holds Try.pinned (OpenSpec.ofChange fnExactFindPatternsWrong)

/-- 'laws.FnExactEasiestFound': WHATEVER THE INPUT: true; the input reads as it did. -/
def fnExactEasiestFoundSpec : ChangeSpec := { name := "fnExactEasiestFound", fn := fun _ => fun
  | [d] => { results := [.lit (.bool true)], args := [d] }
  | _ => none }
def fnExactEasiestFoundRow : OpenClaim := { program := "ytonaakbdbfncoaa", sum := "3717f7568b503c543e9fd1a0a4c4fcda9e5c605e2d795468561609e3ccae0295", func := "loop.example/g00927/laws.FnExactEasiestFound", spec := "fnExactEasiestFound", recurses := true, apart := false }
def FnExactEasiestFoundSaid : Prop := fnExactEasiestFoundRow.holds Try.pinned (OpenSpec.ofChange fnExactEasiestFoundSpec)

/-- ITS FALSE NEIGHBOUR: 'it returns false'. Refute it at one input. -/
def fnExactEasiestFoundWrong : ChangeSpec := { name := "fnExactEasiestFound", fn := fun _ => fun
  | [d] => { results := [.lit (.bool false)], args := [d] }
  | _ => none }
def FnExactEasiestFoundWrongFalsely : Prop := fnExactEasiestFoundRow.holds Try.pinned (OpenSpec.ofChange fnExactEasiestFoundWrong)

/- THE SECOND FORM. 'bulk': how many values and letters a reading holds, each counted each time it is reached (what is shared counts as often as it is met; a slice's spare places count too). A statement '..UptoSaid' is the law's where the arguments, and the package variables that the reading takes, are together of bulk at most 1048576: NARROWER than '..Said'. Prove '..Said' where nothing that the law and all that it calls make is longer than what came in: it says more and counts as full. Else prove '..UptoSaid'. A law counts once. -/
mutual
def uptoBulk {H : Type} : DataW H → Nat
  | .lit (.string bytes) => bytes.length + 1
  | .lit _ => 1
  | .nil => 1
  | .ptr d => uptoBulk d + 1
  | .slice elems spare => uptoBulkAll elems + uptoBulkAll spare + 1
  | .agg parts => uptoBulkAll parts + 1
  | .iface _ d => uptoBulk d + 1
  | .map entries => uptoBulkEntries entries + 1
  | .held _ => 1
def uptoBulkAll {H : Type} : List (DataW H) → Nat
  | [] => 0
  | d :: r => uptoBulk d + uptoBulkAll r
def uptoBulkEntries {H : Type} : List (Lit × DataW H) → Nat
  | [] => 0
  | x :: r => uptoBulkEntry x + uptoBulkEntries r
def uptoBulkEntry {H : Type} : Lit × DataW H → Nat
  | (.string bytes, d) => bytes.length + uptoBulk d + 1
  | (_, d) => uptoBulk d + 1
 end
def uptoSmall : (H : Type) → List (DataW H) → Bool := fun _ ds => decide (uptoBulkAll ds ≤ 1048576)
def OpenSpec.upto (s : _root_.Go.ChangeSpec) : _root_.Go.OpenSpec := { _root_.Go.OpenSpec.ofChange s with cond := some uptoSmall }

/-- 'laws.FnExactCountFound', WHERE WHAT IT READS IS OF BULK AT MOST 1048576: true; the input reads as it did. -/
def fnExactCountFoundUptoRow : OpenClaim := { program := "ytonaakbdbfncoaa", sum := "3717f7568b503c543e9fd1a0a4c4fcda9e5c605e2d795468561609e3ccae0295", func := "loop.example/g00927/laws.FnExactCountFound", spec := "fnExactCountFound", recurses := true, apart := false, narrowed := true }
def FnExactCountFoundUptoSaid : Prop := fnExactCountFoundUptoRow.holds Try.pinned (OpenSpec.upto fnExactCountFoundSpec)

/-- 'laws.FnExactQueryVisits', WHERE WHAT IT READS IS OF BULK AT MOST 1048576: true; the input reads as it did. -/
def fnExactQueryVisitsUptoRow : OpenClaim := { program := "ytonaakbdbfncoaa", sum := "3717f7568b503c543e9fd1a0a4c4fcda9e5c605e2d795468561609e3ccae0295", func := "loop.example/g00927/laws.FnExactQueryVisits", spec := "fnExactQueryVisits", recurses := true, apart := false, narrowed := true }
def FnExactQueryVisitsUptoSaid : Prop := fnExactQueryVisitsUptoRow.holds Try.pinned (OpenSpec.upto fnExactQueryVisitsSpec)

/-- 'laws.FnExactNextFound', WHERE WHAT IT READS IS OF BULK AT MOST 1048576: true; the input reads as it did. -/
def fnExactNextFoundUptoRow : OpenClaim := { program := "ytonaakbdbfncoaa", sum := "3717f7568b503c543e9fd1a0a4c4fcda9e5c605e2d795468561609e3ccae0295", func := "loop.example/g00927/laws.FnExactNextFound", spec := "fnExactNextFound", recurses := true, apart := false, narrowed := true }
def FnExactNextFoundUptoSaid : Prop := fnExactNextFoundUptoRow.holds Try.pinned (OpenSpec.upto fnExactNextFoundSpec)

/-- 'laws.FnExactFindPatterns', WHERE WHAT IT READS IS OF BULK AT MOST 1048576: true; the input reads as it did. -/
def fnExactFindPatternsUptoRow : OpenClaim := { program := "ytonaakbdbfncoaa", sum := "3717f7568b503c543e9fd1a0a4c4fcda9e5c605e2d795468561609e3ccae0295", func := "loop.example/g00927/laws.FnExactFindPatterns", spec := "fnExactFindPatterns", recurses := true, apart := false, narrowed := true }
def FnExactFindPatternsUptoSaid : Prop := fnExactFindPatternsUptoRow.holds Try.pinned (OpenSpec.upto fnExactFindPatternsSpec)

/-- 'laws.FnExactEasiestFound', WHERE WHAT IT READS IS OF BULK AT MOST 1048576: true; the input reads as it did. -/
def fnExactEasiestFoundUptoRow : OpenClaim := { program := "ytonaakbdbfncoaa", sum := "3717f7568b503c543e9fd1a0a4c4fcda9e5c605e2d795468561609e3ccae0295", func := "loop.example/g00927/laws.FnExactEasiestFound", spec := "fnExactEasiestFound", recurses := true, apart := false, narrowed := true }
def FnExactEasiestFoundUptoSaid : Prop := fnExactEasiestFoundUptoRow.holds Try.pinned (OpenSpec.upto fnExactEasiestFoundSpec)

end Rows
end Go.Proofs.Ytonaakbdbfncoaa
