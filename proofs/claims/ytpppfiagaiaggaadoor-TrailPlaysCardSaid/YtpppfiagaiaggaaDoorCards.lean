/-
  DERIVED. GIVEN WITH THE SEED: THE CARDS: each row of YtpppfiagaiaggaaDoorRows.lean that lists a variable, with what it lists TIED to the program's text (the seventh form; the later family's looks); each row that meets fmt, with fmt's text TOLD by the authors' own Lean function (tested against real Go, not proved from fmt's source: count such statements apart). THE CARD IS WHAT COUNTS. Prove the row's statement (the work); the ties are given (YtpppfiagaiaggaaDoorTie.lean); close each card by the builder's one call (the guide's Derived/Test/ToyasCard.lean, 'card_holds'). Laid BY PROGRAM, IN A SANDBOX (cutbox-door.mjs). By AI agents, Wed Nov 11 2026. No macro, syntax, notation, axiom, sorry.
-/
import Derived.Test.YtpppfiagaiaggaaDoorRows
import GoSem.ClaimSeven
namespace Go.Proofs.YtpppfiagaiaggaaDoor
namespace Rows

/-- THE TIED CARD OF 'quietwinglaw6.TrailPlays'. -/
def trailPlaysCard : Claim7 := { stood := { row := trailPlaysRow, standIns := [], harness := (true, "7c3493579d646f60b750b10be5103543f327c7c0ee67c4969c4cd874fb0c3699"), looks := true }, kinds := [], alts := [], laidByText := true, laidKinds := [.data, .data, .data, .handle], laidTests := true, laidLooks := .later }
def TrailPlaysCardSaid : Prop := Claim7.holds Tryd.pinned (.plain (OpenSpec.ofChange trailPlaysSpec)) trailPlaysCard

/-- THE SECOND FORM's CARD OF 'quietwinglaw6.TrailPlays'. -/
def trailPlaysUptoCard : Claim7 := { stood := { row := trailPlaysUptoRow, standIns := [], harness := (true, "7c3493579d646f60b750b10be5103543f327c7c0ee67c4969c4cd874fb0c3699"), looks := true }, kinds := [], alts := [], laidByText := true, laidKinds := [.data, .data, .data, .handle], laidTests := true, laidLooks := .later }
def TrailPlaysUptoCardSaid : Prop := Claim7.holds Tryd.pinned (.plain (OpenSpec.upto trailPlaysSpec)) trailPlaysUptoCard
end Rows
end Go.Proofs.YtpppfiagaiaggaaDoor
