/-
  DERIVED. GIVEN WITH THE SEED: THE CARDS: each row of YtnhdoppabfmonaaDoorRows.lean that lists a variable, with what it lists TIED to the program's text (the seventh form; the later family's looks); each row that meets fmt, with fmt's text TOLD by the authors' own Lean function (tested against real Go, not proved from fmt's source: count such statements apart). THE CARD IS WHAT COUNTS. Prove the row's statement (the work); the ties are given (YtnhdoppabfmonaaDoorTie.lean); close each card by the builder's one call (the guide's Derived/Test/ToyasCard.lean, 'card_holds'). Laid BY PROGRAM, IN A SANDBOX (cutbox-door.mjs). By AI agents, Wed Nov 11 2026. No macro, syntax, notation, axiom, sorry.
-/
import Derived.Test.YtnhdoppabfmonaaDoorRows
import GoSem.ClaimSeven
namespace Go.Proofs.YtnhdoppabfmonaaDoor
namespace Rows

/-- THE TIED CARD OF 'laws.FnExactCardsText'. -/
def fnExactCardsTextCard : Claim7 := { stood := { row := fnExactCardsTextRow, standIns := [], harness := (true, "eaddf472b9c9963b672080f1d0374a0630993f6df177f690ef97234cc3d62e86"), looks := false }, kinds := [], alts := [], laidByText := true, laidKinds := [.data, .data, .data], laidTests := true, laidLooks := .later }
def FnExactCardsTextCardSaid : Prop := Claim7.holds Tryd.pinned (.plain (OpenSpec.ofChange fnExactCardsTextSpec)) fnExactCardsTextCard

/-- THE TIED CARD OF 'laws.FnExactReadCards'. -/
def fnExactReadCardsCard : Claim7 := { stood := { row := fnExactReadCardsRow, standIns := [], harness := (true, "eaddf472b9c9963b672080f1d0374a0630993f6df177f690ef97234cc3d62e86"), looks := false }, kinds := [], alts := [], laidByText := true, laidKinds := [.data, .data, .data], laidTests := true, laidLooks := .later }
def FnExactReadCardsCardSaid : Prop := Claim7.holds Tryd.pinned (.plain (OpenSpec.ofChange fnExactReadCardsSpec)) fnExactReadCardsCard

/-- THE TIED CARD OF 'laws.FnExactAttemptsText'. -/
def fnExactAttemptsTextCard : Claim7 := { stood := { row := fnExactAttemptsTextRow, standIns := [], harness := (true, "eaddf472b9c9963b672080f1d0374a0630993f6df177f690ef97234cc3d62e86"), looks := false }, kinds := [], alts := [], laidByText := true, laidKinds := [.data, .data, .data], laidTests := true, laidLooks := .later }
def FnExactAttemptsTextCardSaid : Prop := Claim7.holds Tryd.pinned (.plain (OpenSpec.ofChange fnExactAttemptsTextSpec)) fnExactAttemptsTextCard

/-- THE TIED CARD OF 'laws.FnExactReadAttempts'. -/
def fnExactReadAttemptsCard : Claim7 := { stood := { row := fnExactReadAttemptsRow, standIns := [], harness := (true, "eaddf472b9c9963b672080f1d0374a0630993f6df177f690ef97234cc3d62e86"), looks := false }, kinds := [], alts := [], laidByText := true, laidKinds := [.data, .data, .data], laidTests := true, laidLooks := .later }
def FnExactReadAttemptsCardSaid : Prop := Claim7.holds Tryd.pinned (.plain (OpenSpec.ofChange fnExactReadAttemptsSpec)) fnExactReadAttemptsCard

/-- THE TIED CARD OF 'laws.FnExactQueryText'. -/
def fnExactQueryTextCard : Claim7 := { stood := { row := fnExactQueryTextRow, standIns := [], harness := (true, "eaddf472b9c9963b672080f1d0374a0630993f6df177f690ef97234cc3d62e86"), looks := false }, kinds := [], alts := [], laidByText := true, laidKinds := [.data, .data, .data], laidTests := true, laidLooks := .later }
def FnExactQueryTextCardSaid : Prop := Claim7.holds Tryd.pinned (.plain (OpenSpec.ofChange fnExactQueryTextSpec)) fnExactQueryTextCard

/-- THE TIED CARD OF 'laws.FnExactReadQuery'. -/
def fnExactReadQueryCard : Claim7 := { stood := { row := fnExactReadQueryRow, standIns := [], harness := (true, "eaddf472b9c9963b672080f1d0374a0630993f6df177f690ef97234cc3d62e86"), looks := false }, kinds := [], alts := [], laidByText := true, laidKinds := [.data, .data, .data], laidTests := true, laidLooks := .later }
def FnExactReadQueryCardSaid : Prop := Claim7.holds Tryd.pinned (.plain (OpenSpec.ofChange fnExactReadQuerySpec)) fnExactReadQueryCard

/-- THE SECOND FORM's CARD OF 'laws.FnExactCardsText'. -/
def fnExactCardsTextUptoCard : Claim7 := { stood := { row := fnExactCardsTextUptoRow, standIns := [], harness := (true, "eaddf472b9c9963b672080f1d0374a0630993f6df177f690ef97234cc3d62e86"), looks := false }, kinds := [], alts := [], laidByText := true, laidKinds := [.data, .data, .data], laidTests := true, laidLooks := .later }
def FnExactCardsTextUptoCardSaid : Prop := Claim7.holds Tryd.pinned (.plain (OpenSpec.upto fnExactCardsTextSpec)) fnExactCardsTextUptoCard

/-- THE SECOND FORM's CARD OF 'laws.FnExactReadCards'. -/
def fnExactReadCardsUptoCard : Claim7 := { stood := { row := fnExactReadCardsUptoRow, standIns := [], harness := (true, "eaddf472b9c9963b672080f1d0374a0630993f6df177f690ef97234cc3d62e86"), looks := false }, kinds := [], alts := [], laidByText := true, laidKinds := [.data, .data, .data], laidTests := true, laidLooks := .later }
def FnExactReadCardsUptoCardSaid : Prop := Claim7.holds Tryd.pinned (.plain (OpenSpec.upto fnExactReadCardsSpec)) fnExactReadCardsUptoCard

/-- THE SECOND FORM's CARD OF 'laws.FnExactAttemptsText'. -/
def fnExactAttemptsTextUptoCard : Claim7 := { stood := { row := fnExactAttemptsTextUptoRow, standIns := [], harness := (true, "eaddf472b9c9963b672080f1d0374a0630993f6df177f690ef97234cc3d62e86"), looks := false }, kinds := [], alts := [], laidByText := true, laidKinds := [.data, .data, .data], laidTests := true, laidLooks := .later }
def FnExactAttemptsTextUptoCardSaid : Prop := Claim7.holds Tryd.pinned (.plain (OpenSpec.upto fnExactAttemptsTextSpec)) fnExactAttemptsTextUptoCard

/-- THE SECOND FORM's CARD OF 'laws.FnExactReadAttempts'. -/
def fnExactReadAttemptsUptoCard : Claim7 := { stood := { row := fnExactReadAttemptsUptoRow, standIns := [], harness := (true, "eaddf472b9c9963b672080f1d0374a0630993f6df177f690ef97234cc3d62e86"), looks := false }, kinds := [], alts := [], laidByText := true, laidKinds := [.data, .data, .data], laidTests := true, laidLooks := .later }
def FnExactReadAttemptsUptoCardSaid : Prop := Claim7.holds Tryd.pinned (.plain (OpenSpec.upto fnExactReadAttemptsSpec)) fnExactReadAttemptsUptoCard

/-- THE SECOND FORM's CARD OF 'laws.FnExactQueryText'. -/
def fnExactQueryTextUptoCard : Claim7 := { stood := { row := fnExactQueryTextUptoRow, standIns := [], harness := (true, "eaddf472b9c9963b672080f1d0374a0630993f6df177f690ef97234cc3d62e86"), looks := false }, kinds := [], alts := [], laidByText := true, laidKinds := [.data, .data, .data], laidTests := true, laidLooks := .later }
def FnExactQueryTextUptoCardSaid : Prop := Claim7.holds Tryd.pinned (.plain (OpenSpec.upto fnExactQueryTextSpec)) fnExactQueryTextUptoCard

/-- THE SECOND FORM's CARD OF 'laws.FnExactReadQuery'. -/
def fnExactReadQueryUptoCard : Claim7 := { stood := { row := fnExactReadQueryUptoRow, standIns := [], harness := (true, "eaddf472b9c9963b672080f1d0374a0630993f6df177f690ef97234cc3d62e86"), looks := false }, kinds := [], alts := [], laidByText := true, laidKinds := [.data, .data, .data], laidTests := true, laidLooks := .later }
def FnExactReadQueryUptoCardSaid : Prop := Claim7.holds Tryd.pinned (.plain (OpenSpec.upto fnExactReadQuerySpec)) fnExactReadQueryUptoCard
end Rows
end Go.Proofs.YtnhdoppabfmonaaDoor
