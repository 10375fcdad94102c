/-
  DERIVED. GIVEN WITH THE SEED: THE CARDS: each row of YtdlmohigkkdegaaGreatDoorRows.lean that lists a variable, with what it lists TIED to the program's text (the seventh form; the later family's looks); each row that meets fmt, with fmt's text TOLD by the authors' own Lean function (tested against real Go, not proved from fmt's source: count such statements apart). THE CARD IS WHAT COUNTS. Prove the row's statement (the work); the ties are given (YtdlmohigkkdegaaGreatDoorTie.lean); close each card by the builder's one call (the guide's Derived/Test/ToyasCard.lean, 'card_holds'). Laid BY PROGRAM, IN A SANDBOX (cutbox-door.mjs). By AI agents, Wed Nov 11 2026. No macro, syntax, notation, axiom, sorry.
-/
import Derived.Test.YtdlmohigkkdegaaGreatDoorRows
import GoSem.ClaimSeven
namespace Go.Proofs.YtdlmohigkkdegaaGreatDoor
namespace Rows

/-- THE TIED CARD OF 'laws.FnSquares'. -/
def fnSquaresCard : Claim7 := { stood := { row := fnSquaresRow, standIns := [], harness := (true, "50a32d7a40809d7330f4509b6abf94b7d683bfc55c6976ce2896a1149bc65faa"), looks := false }, kinds := [], alts := [], laidByText := true, laidKinds := [.data, .data, .data, .data, .pinned], laidTests := true, laidLooks := .later }
def FnSquaresCardSaid : Prop := Claim7.holds Tryz.pinned (.plain (OpenSpec.ofChange fnSquaresSpec)) fnSquaresCard

/-- THE SECOND FORM's CARD OF 'laws.FnSquares'. -/
def fnSquaresUptoCard : Claim7 := { stood := { row := fnSquaresUptoRow, standIns := [], harness := (true, "50a32d7a40809d7330f4509b6abf94b7d683bfc55c6976ce2896a1149bc65faa"), looks := false }, kinds := [], alts := [], laidByText := true, laidKinds := [.data, .data, .data, .data, .pinned], laidTests := true, laidLooks := .later }
def FnSquaresUptoCardSaid : Prop := Claim7.holds Tryz.pinned (.plain (OpenSpec.upto fnSquaresSpec)) fnSquaresUptoCard
end Rows
end Go.Proofs.YtdlmohigkkdegaaGreatDoor
