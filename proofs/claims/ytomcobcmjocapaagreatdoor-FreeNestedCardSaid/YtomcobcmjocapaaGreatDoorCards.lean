/-
  DERIVED. GIVEN WITH THE SEED: THE CARDS: each row of YtomcobcmjocapaaGreatDoorRows.lean that lists a variable, with what it lists TIED to the program's text (the seventh form; the later family's looks); each row that meets fmt, with fmt's text TOLD by the authors' own Lean function (tested against real Go, not proved from fmt's source: count such statements apart). THE CARD IS WHAT COUNTS. Prove the row's statement (the work); the ties are given (YtomcobcmjocapaaGreatDoorTie.lean); close each card by the builder's one call (the guide's Derived/Test/ToyasCard.lean, 'card_holds'). Laid BY PROGRAM, IN A SANDBOX (cutbox-door.mjs). By AI agents, Wed Nov 11 2026. No macro, syntax, notation, axiom, sorry.
-/
import Derived.Test.YtomcobcmjocapaaGreatDoorRows
import GoSem.ClaimSeven
namespace Go.Proofs.YtomcobcmjocapaaGreatDoor
namespace Rows

/-- THE TIED CARD OF 'parleylaw29.FreeNested'. -/
def freeNestedCard : Claim7 := { stood := { row := freeNestedRow, standIns := [], harness := (true, "f67eaaba8927b283a8abc1544adefef2e609af47a0a3017bdd540ca42b988fad"), looks := false }, kinds := [], alts := [], laidByText := true, laidKinds := [.data, .data], laidTests := true, laidLooks := .later }
def FreeNestedCardSaid : Prop := Claim7.holds Tryz.pinned (.plain (OpenSpec.ofChange freeNestedSpec)) freeNestedCard

/-- THE SECOND FORM's CARD OF 'parleylaw29.FreeNested'. -/
def freeNestedUptoCard : Claim7 := { stood := { row := freeNestedUptoRow, standIns := [], harness := (true, "f67eaaba8927b283a8abc1544adefef2e609af47a0a3017bdd540ca42b988fad"), looks := false }, kinds := [], alts := [], laidByText := true, laidKinds := [.data, .data], laidTests := true, laidLooks := .later }
def FreeNestedUptoCardSaid : Prop := Claim7.holds Tryz.pinned (.plain (OpenSpec.upto freeNestedSpec)) freeNestedUptoCard
end Rows
end Go.Proofs.YtomcobcmjocapaaGreatDoor
