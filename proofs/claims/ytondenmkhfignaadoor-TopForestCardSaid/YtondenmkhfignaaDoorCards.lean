/-
  DERIVED. GIVEN WITH THE SEED: THE CARDS: each row of YtondenmkhfignaaDoorRows.lean that lists a variable, with what it lists TIED to the program's text (the seventh form; the later family's looks); each row that meets fmt, with fmt's text TOLD by the authors' own Lean function (tested against real Go, not proved from fmt's source: count such statements apart). THE CARD IS WHAT COUNTS. Prove the row's statement (the work); the ties are given (YtondenmkhfignaaDoorTie.lean); close each card by the builder's one call (the guide's Derived/Test/ToyasCard.lean, 'card_holds'). Laid BY PROGRAM, IN A SANDBOX (cutbox-door.mjs). By AI agents, Wed Nov 11 2026. No macro, syntax, notation, axiom, sorry.
-/
import Derived.Test.YtondenmkhfignaaDoorRows
import GoSem.ClaimSeven
namespace Go.Proofs.YtondenmkhfignaaDoor
namespace Rows

/-- THE TIED CARD OF 'progenytop.TopForest'. -/
def topForestCard : Claim7 := { stood := { row := topForestRow, standIns := [], harness := (true, "a7682df2103d9e4491f74097ada1f3d471e3ec82aa5d18a175655d192d4e75fe"), looks := false }, kinds := [], alts := [], laidByText := true, laidKinds := [.data, .pinned], laidTests := true, laidLooks := .later }
def TopForestCardSaid : Prop := Claim7.holds Tryd.pinned (.plain (OpenSpec.ofChange topForestSpec)) topForestCard

/-- THE SECOND FORM's CARD OF 'progenytop.TopForest'. -/
def topForestUptoCard : Claim7 := { stood := { row := topForestUptoRow, standIns := [], harness := (true, "a7682df2103d9e4491f74097ada1f3d471e3ec82aa5d18a175655d192d4e75fe"), looks := false }, kinds := [], alts := [], laidByText := true, laidKinds := [.data, .pinned], laidTests := true, laidLooks := .later }
def TopForestUptoCardSaid : Prop := Claim7.holds Tryd.pinned (.plain (OpenSpec.upto topForestSpec)) topForestUptoCard
end Rows
end Go.Proofs.YtondenmkhfignaaDoor
