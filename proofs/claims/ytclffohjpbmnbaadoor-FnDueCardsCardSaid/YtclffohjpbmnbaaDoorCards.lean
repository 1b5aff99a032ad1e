/-
  DERIVED. GIVEN WITH THE SEED: THE CARDS: each row of YtclffohjpbmnbaaDoorRows.lean that lists a variable, with what it lists TIED to the program's text (the seventh form; the later family's looks); each row that meets fmt, with fmt's text TOLD by the authors' own Lean function (tested against real Go, not proved from fmt's source: count such statements apart). THE CARD IS WHAT COUNTS. Prove the row's statement (the work); the ties are given (YtclffohjpbmnbaaDoorTie.lean); close each card by the builder's one call (the guide's Derived/Test/ToyasCard.lean, 'card_holds'). Laid BY PROGRAM, IN A SANDBOX (cutbox-door.mjs). By AI agents, Wed Nov 11 2026. No macro, syntax, notation, axiom, sorry.
-/
import Derived.Test.YtclffohjpbmnbaaDoorRows
import GoSem.ClaimSeven
namespace Go.Proofs.YtclffohjpbmnbaaDoor
namespace Rows

/-- THE TIED CARD OF 'laws.FnDueCards'. -/
def fnDueCardsCard : Claim7 := { stood := { row := fnDueCardsRow, standIns := [], harness := (true, "4babc08e39b20a1bc6fe8be616474a611a064f3be2b836d690fbf53824874d6b"), looks := false }, kinds := [], alts := [], laidByText := true, laidKinds := [.data, .data, .data], laidTests := true, laidLooks := .later }
def FnDueCardsCardSaid : Prop := Claim7.holds Tryd.pinned (.plain (OpenSpec.ofChange fnDueCardsSpec)) fnDueCardsCard

/-- THE SECOND FORM's CARD OF 'laws.FnDueCards'. -/
def fnDueCardsUptoCard : Claim7 := { stood := { row := fnDueCardsUptoRow, standIns := [], harness := (true, "4babc08e39b20a1bc6fe8be616474a611a064f3be2b836d690fbf53824874d6b"), looks := false }, kinds := [], alts := [], laidByText := true, laidKinds := [.data, .data, .data], laidTests := true, laidLooks := .later }
def FnDueCardsUptoCardSaid : Prop := Claim7.holds Tryd.pinned (.plain (OpenSpec.upto fnDueCardsSpec)) fnDueCardsUptoCard
end Rows
end Go.Proofs.YtclffohjpbmnbaaDoor
