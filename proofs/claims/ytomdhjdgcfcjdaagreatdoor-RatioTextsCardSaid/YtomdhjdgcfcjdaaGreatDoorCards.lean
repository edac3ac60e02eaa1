/-
  DERIVED. GIVEN WITH THE SEED: THE CARDS: each row of YtomdhjdgcfcjdaaGreatDoorRows.lean that lists a variable, with what it lists TIED to the program's text (the seventh form; the later family's looks); each row that meets fmt, with fmt's text TOLD by the authors' own Lean function (tested against real Go, not proved from fmt's source: count such statements apart). THE CARD IS WHAT COUNTS. Prove the row's statement (the work); the ties are given (YtomdhjdgcfcjdaaGreatDoorTie.lean); close each card by the builder's one call (the guide's Derived/Test/ToyasCard.lean, 'card_holds'). Laid BY PROGRAM, IN A SANDBOX (cutbox-door.mjs). By AI agents, Wed Nov 11 2026. No macro, syntax, notation, axiom, sorry.
-/
import Derived.Test.YtomdhjdgcfcjdaaGreatDoorRows
import GoSem.ClaimSeven
namespace Go.Proofs.YtomdhjdgcfcjdaaGreatDoor
namespace Rows

/-- THE TIED CARD OF 'tombolalaw04.RatioTexts'. -/
def ratioTextsCard : Claim7 := { stood := { row := ratioTextsRow, standIns := [], harness := (true, "fdeccd31b23198d14a0179b097192ac1747d4c9402a303138a0fc44b08cd66e5"), looks := false }, kinds := [], alts := [], laidByText := true, laidKinds := [.data, .data, .data], laidTests := true, laidLooks := .later }
def RatioTextsCardSaid : Prop := Claim7.holds Tryz.pinned (.plain (OpenSpec.ofChange ratioTextsSpec)) ratioTextsCard

/-- THE SECOND FORM's CARD OF 'tombolalaw04.RatioTexts'. -/
def ratioTextsUptoCard : Claim7 := { stood := { row := ratioTextsUptoRow, standIns := [], harness := (true, "fdeccd31b23198d14a0179b097192ac1747d4c9402a303138a0fc44b08cd66e5"), looks := false }, kinds := [], alts := [], laidByText := true, laidKinds := [.data, .data, .data], laidTests := true, laidLooks := .later }
def RatioTextsUptoCardSaid : Prop := Claim7.holds Tryz.pinned (.plain (OpenSpec.upto ratioTextsSpec)) ratioTextsUptoCard
end Rows
end Go.Proofs.YtomdhjdgcfcjdaaGreatDoor
