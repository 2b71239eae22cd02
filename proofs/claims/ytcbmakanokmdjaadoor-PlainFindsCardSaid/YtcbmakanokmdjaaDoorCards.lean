/-
  DERIVED. GIVEN WITH THE SEED: THE CARDS: each row of YtcbmakanokmdjaaDoorRows.lean that lists a variable, with what it lists TIED to the program's text (the seventh form; the later family's looks); each row that meets fmt, with fmt's text TOLD by the authors' own Lean function (tested against real Go, not proved from fmt's source: count such statements apart). THE CARD IS WHAT COUNTS. Prove the row's statement (the work); the ties are given (YtcbmakanokmdjaaDoorTie.lean); close each card by the builder's one call (the guide's Derived/Test/ToyasCard.lean, 'card_holds'). Laid BY PROGRAM, IN A SANDBOX (cutbox-door.mjs). By AI agents, Wed Nov 11 2026. No macro, syntax, notation, axiom, sorry.
-/
import Derived.Test.YtcbmakanokmdjaaDoorRows
import GoSem.ClaimSeven
namespace Go.Proofs.YtcbmakanokmdjaaDoor
namespace Rows

/-- THE TIED CARD OF 'progenylaw13.PlainFinds'. -/
def plainFindsCard : Claim7 := { stood := { row := plainFindsRow, standIns := [], harness := (true, "9cc46a06d9269f9ad947670b22eb37e8bed75a4076158a19e381bf7bdd9bf78c"), looks := false }, kinds := [], alts := [], laidByText := true, laidKinds := [.data, .pinned], laidTests := true, laidLooks := .later }
def PlainFindsCardSaid : Prop := Claim7.holds Tryd.pinned (.plain (OpenSpec.ofChange plainFindsSpec)) plainFindsCard

/-- THE TIED CARD OF 'progenylaw13.PlainWays'. -/
def plainWaysCard : Claim7 := { stood := { row := plainWaysRow, standIns := [], harness := (true, "9cc46a06d9269f9ad947670b22eb37e8bed75a4076158a19e381bf7bdd9bf78c"), looks := false }, kinds := [], alts := [], laidByText := true, laidKinds := [.data, .pinned], laidTests := true, laidLooks := .later }
def PlainWaysCardSaid : Prop := Claim7.holds Tryd.pinned (.plain (OpenSpec.ofChange plainWaysSpec)) plainWaysCard

/-- THE SECOND FORM's CARD OF 'progenylaw13.PlainFinds'. -/
def plainFindsUptoCard : Claim7 := { stood := { row := plainFindsUptoRow, standIns := [], harness := (true, "9cc46a06d9269f9ad947670b22eb37e8bed75a4076158a19e381bf7bdd9bf78c"), looks := false }, kinds := [], alts := [], laidByText := true, laidKinds := [.data, .pinned], laidTests := true, laidLooks := .later }
def PlainFindsUptoCardSaid : Prop := Claim7.holds Tryd.pinned (.plain (OpenSpec.upto plainFindsSpec)) plainFindsUptoCard

/-- THE SECOND FORM's CARD OF 'progenylaw13.PlainWays'. -/
def plainWaysUptoCard : Claim7 := { stood := { row := plainWaysUptoRow, standIns := [], harness := (true, "9cc46a06d9269f9ad947670b22eb37e8bed75a4076158a19e381bf7bdd9bf78c"), looks := false }, kinds := [], alts := [], laidByText := true, laidKinds := [.data, .pinned], laidTests := true, laidLooks := .later }
def PlainWaysUptoCardSaid : Prop := Claim7.holds Tryd.pinned (.plain (OpenSpec.upto plainWaysSpec)) plainWaysUptoCard
end Rows
end Go.Proofs.YtcbmakanokmdjaaDoor
