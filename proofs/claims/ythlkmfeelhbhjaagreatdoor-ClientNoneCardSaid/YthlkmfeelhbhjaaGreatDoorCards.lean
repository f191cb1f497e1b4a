/-
  DERIVED. GIVEN WITH THE SEED: THE CARDS: each row of YthlkmfeelhbhjaaGreatDoorRows.lean that lists a variable, with what it lists TIED to the program's text (the seventh form; the later family's looks); each row that meets fmt, with fmt's text TOLD by the authors' own Lean function (tested against real Go, not proved from fmt's source: count such statements apart). THE CARD IS WHAT COUNTS. Prove the row's statement (the work); the ties are given (YthlkmfeelhbhjaaGreatDoorTie.lean); close each card by the builder's one call (the guide's Derived/Test/ToyasCard.lean, 'card_holds'). Laid BY PROGRAM, IN A SANDBOX (cutbox-door.mjs). By AI agents, Wed Nov 11 2026. No macro, syntax, notation, axiom, sorry.
-/
import Derived.Test.YthlkmfeelhbhjaaGreatDoorRows
import GoSem.ClaimSeven
namespace Go.Proofs.YthlkmfeelhbhjaaGreatDoor
namespace Rows

/-- THE TIED CARD OF 'hedgerowlaw26.ClientNone'. -/
def clientNoneCard : Claim7 := { stood := { row := clientNoneRow, standIns := [], harness := (true, "22346a3276a3ecd641d3a52cab9e7462c354df1275329c6b6c51911c35dc53f4"), looks := true }, kinds := [], alts := [], laidByText := true, laidKinds := [.pinned, .data, .data], laidTests := true, laidLooks := .later }
def ClientNoneCardSaid : Prop := Claim7.holds Tryz.pinned (.plain (OpenSpec.ofChange clientNoneSpec)) clientNoneCard

/-- THE SECOND FORM's CARD OF 'hedgerowlaw26.ClientNone'. -/
def clientNoneUptoCard : Claim7 := { stood := { row := clientNoneUptoRow, standIns := [], harness := (true, "22346a3276a3ecd641d3a52cab9e7462c354df1275329c6b6c51911c35dc53f4"), looks := true }, kinds := [], alts := [], laidByText := true, laidKinds := [.pinned, .data, .data], laidTests := true, laidLooks := .later }
def ClientNoneUptoCardSaid : Prop := Claim7.holds Tryz.pinned (.plain (OpenSpec.upto clientNoneSpec)) clientNoneUptoCard
end Rows
end Go.Proofs.YthlkmfeelhbhjaaGreatDoor
