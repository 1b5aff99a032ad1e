/-
  DERIVED. GIVEN WITH THE SEED: THE CARDS: each row of YtclffohjpbmnbaaGreatDoorRows.lean that lists a variable, with what it lists TIED to the program's text (the seventh form; the later family's looks); each row that meets fmt, with fmt's text TOLD by the authors' own Lean function (tested against real Go, not proved from fmt's source: count such statements apart). THE CARD IS WHAT COUNTS. Prove the row's statement (the work); the ties are given (YtclffohjpbmnbaaGreatDoorTie.lean); close each card by the builder's one call (the guide's Derived/Test/ToyasCard.lean, 'card_holds'). Laid BY PROGRAM, IN A SANDBOX (cutbox-door.mjs). By AI agents, Wed Nov 11 2026. No macro, syntax, notation, axiom, sorry.
-/
import Derived.Test.YtclffohjpbmnbaaGreatDoorRows
import GoSem.ClaimSeven
namespace Go.Proofs.YtclffohjpbmnbaaGreatDoor
namespace Rows

/-- THE TIED CARD OF 'laws.FnQueries'. -/
def fnQueriesCard : Claim7 := { stood := { row := fnQueriesRow, standIns := [], harness := (true, "a71bb7fe90818f82d8d2ac48ba783449bff17fde1a435277c2fbd338d62ae1f9"), looks := false }, kinds := [], alts := [], laidByText := true, laidKinds := [.data, .data, .data], laidTests := true, laidLooks := .later }
def FnQueriesCardSaid : Prop := Claim7.holds Tryz.pinned (.plain (OpenSpec.ofChange fnQueriesSpec)) fnQueriesCard

/-- THE TIED CARD OF 'laws.FnPracticed'. -/
def fnPracticedCard : Claim7 := { stood := { row := fnPracticedRow, standIns := [], harness := (true, "a71bb7fe90818f82d8d2ac48ba783449bff17fde1a435277c2fbd338d62ae1f9"), looks := false }, kinds := [], alts := [], laidByText := true, laidKinds := [.data, .data, .data], laidTests := true, laidLooks := .later }
def FnPracticedCardSaid : Prop := Claim7.holds Tryz.pinned (.plain (OpenSpec.ofChange fnPracticedSpec)) fnPracticedCard

/-- THE SECOND FORM's CARD OF 'laws.FnQueries'. -/
def fnQueriesUptoCard : Claim7 := { stood := { row := fnQueriesUptoRow, standIns := [], harness := (true, "a71bb7fe90818f82d8d2ac48ba783449bff17fde1a435277c2fbd338d62ae1f9"), looks := false }, kinds := [], alts := [], laidByText := true, laidKinds := [.data, .data, .data], laidTests := true, laidLooks := .later }
def FnQueriesUptoCardSaid : Prop := Claim7.holds Tryz.pinned (.plain (OpenSpec.upto fnQueriesSpec)) fnQueriesUptoCard

/-- THE SECOND FORM's CARD OF 'laws.FnPracticed'. -/
def fnPracticedUptoCard : Claim7 := { stood := { row := fnPracticedUptoRow, standIns := [], harness := (true, "a71bb7fe90818f82d8d2ac48ba783449bff17fde1a435277c2fbd338d62ae1f9"), looks := false }, kinds := [], alts := [], laidByText := true, laidKinds := [.data, .data, .data], laidTests := true, laidLooks := .later }
def FnPracticedUptoCardSaid : Prop := Claim7.holds Tryz.pinned (.plain (OpenSpec.upto fnPracticedSpec)) fnPracticedUptoCard
end Rows
end Go.Proofs.YtclffohjpbmnbaaGreatDoor
