/-
  DERIVED. GIVEN WITH THE SEED: THE CARDS: each row of YtbdpceigmnpoaaaGreatDoorRows.lean that lists a variable, with what it lists TIED to the program's text (the seventh form; the later family's looks); each row that meets fmt, with fmt's text TOLD by the authors' own Lean function (tested against real Go, not proved from fmt's source: count such statements apart). THE CARD IS WHAT COUNTS. Prove the row's statement (the work); the ties are given (YtbdpceigmnpoaaaGreatDoorTie.lean); close each card by the builder's one call (the guide's Derived/Test/ToyasCard.lean, 'card_holds'). Laid BY PROGRAM, IN A SANDBOX (cutbox-door.mjs). By AI agents, Wed Nov 11 2026. No macro, syntax, notation, axiom, sorry.
-/
import Derived.Test.YtbdpceigmnpoaaaGreatDoorRows
import GoSem.ClaimSeven
namespace Go.Proofs.YtbdpceigmnpoaaaGreatDoor
namespace Rows

/-- THE TIED CARD OF 'progenylaw15.CallAll'. -/
def callAllCard : Claim7 := { stood := { row := callAllRow, standIns := [], harness := (true, "7badb380429ad031ab07b4330afe3e1c226506141b04f89e32d71ee0cdd0ec31"), looks := false }, kinds := [], alts := [], laidByText := true, laidKinds := [.data, .pinned], laidTests := true, laidLooks := .later }
def CallAllCardSaid : Prop := Claim7.holds Tryz.pinned (.plain (OpenSpec.ofChange callAllSpec)) callAllCard

/-- THE TIED CARD OF 'progenylaw15.CallThrough'. -/
def callThroughCard : Claim7 := { stood := { row := callThroughRow, standIns := [], harness := (true, "7badb380429ad031ab07b4330afe3e1c226506141b04f89e32d71ee0cdd0ec31"), looks := false }, kinds := [], alts := [], laidByText := true, laidKinds := [.data, .pinned], laidTests := true, laidLooks := .later }
def CallThroughCardSaid : Prop := Claim7.holds Tryz.pinned (.plain (OpenSpec.ofChange callThroughSpec)) callThroughCard

/-- THE TIED CARD OF 'progenylaw15.CallDoes'. -/
def callDoesCard : Claim7 := { stood := { row := callDoesRow, standIns := [], harness := (true, "7badb380429ad031ab07b4330afe3e1c226506141b04f89e32d71ee0cdd0ec31"), looks := false }, kinds := [], alts := [], laidByText := true, laidKinds := [.data, .pinned], laidTests := true, laidLooks := .later }
def CallDoesCardSaid : Prop := Claim7.holds Tryz.pinned (.plain (OpenSpec.ofChange callDoesSpec)) callDoesCard

/-- THE TIED CARD OF 'progenylaw15.CallFirst'. -/
def callFirstCard : Claim7 := { stood := { row := callFirstRow, standIns := [], harness := (true, "7badb380429ad031ab07b4330afe3e1c226506141b04f89e32d71ee0cdd0ec31"), looks := false }, kinds := [], alts := [], laidByText := true, laidKinds := [.data, .pinned], laidTests := true, laidLooks := .later }
def CallFirstCardSaid : Prop := Claim7.holds Tryz.pinned (.plain (OpenSpec.ofChange callFirstSpec)) callFirstCard

/-- THE TIED CARD OF 'progenylaw15.CallFinds'. -/
def callFindsCard : Claim7 := { stood := { row := callFindsRow, standIns := [], harness := (true, "7badb380429ad031ab07b4330afe3e1c226506141b04f89e32d71ee0cdd0ec31"), looks := false }, kinds := [], alts := [], laidByText := true, laidKinds := [.data, .pinned], laidTests := true, laidLooks := .later }
def CallFindsCardSaid : Prop := Claim7.holds Tryz.pinned (.plain (OpenSpec.ofChange callFindsSpec)) callFindsCard

/-- THE TIED CARD OF 'progenylaw15.CallSatisfies'. -/
def callSatisfiesCard : Claim7 := { stood := { row := callSatisfiesRow, standIns := [], harness := (true, "7badb380429ad031ab07b4330afe3e1c226506141b04f89e32d71ee0cdd0ec31"), looks := false }, kinds := [], alts := [], laidByText := true, laidKinds := [.data, .pinned], laidTests := true, laidLooks := .later }
def CallSatisfiesCardSaid : Prop := Claim7.holds Tryz.pinned (.plain (OpenSpec.ofChange callSatisfiesSpec)) callSatisfiesCard

/-- THE SECOND FORM's CARD OF 'progenylaw15.CallAll'. -/
def callAllUptoCard : Claim7 := { stood := { row := callAllUptoRow, standIns := [], harness := (true, "7badb380429ad031ab07b4330afe3e1c226506141b04f89e32d71ee0cdd0ec31"), looks := false }, kinds := [], alts := [], laidByText := true, laidKinds := [.data, .pinned], laidTests := true, laidLooks := .later }
def CallAllUptoCardSaid : Prop := Claim7.holds Tryz.pinned (.plain (OpenSpec.upto callAllSpec)) callAllUptoCard

/-- THE SECOND FORM's CARD OF 'progenylaw15.CallThrough'. -/
def callThroughUptoCard : Claim7 := { stood := { row := callThroughUptoRow, standIns := [], harness := (true, "7badb380429ad031ab07b4330afe3e1c226506141b04f89e32d71ee0cdd0ec31"), looks := false }, kinds := [], alts := [], laidByText := true, laidKinds := [.data, .pinned], laidTests := true, laidLooks := .later }
def CallThroughUptoCardSaid : Prop := Claim7.holds Tryz.pinned (.plain (OpenSpec.upto callThroughSpec)) callThroughUptoCard

/-- THE SECOND FORM's CARD OF 'progenylaw15.CallDoes'. -/
def callDoesUptoCard : Claim7 := { stood := { row := callDoesUptoRow, standIns := [], harness := (true, "7badb380429ad031ab07b4330afe3e1c226506141b04f89e32d71ee0cdd0ec31"), looks := false }, kinds := [], alts := [], laidByText := true, laidKinds := [.data, .pinned], laidTests := true, laidLooks := .later }
def CallDoesUptoCardSaid : Prop := Claim7.holds Tryz.pinned (.plain (OpenSpec.upto callDoesSpec)) callDoesUptoCard

/-- THE SECOND FORM's CARD OF 'progenylaw15.CallFirst'. -/
def callFirstUptoCard : Claim7 := { stood := { row := callFirstUptoRow, standIns := [], harness := (true, "7badb380429ad031ab07b4330afe3e1c226506141b04f89e32d71ee0cdd0ec31"), looks := false }, kinds := [], alts := [], laidByText := true, laidKinds := [.data, .pinned], laidTests := true, laidLooks := .later }
def CallFirstUptoCardSaid : Prop := Claim7.holds Tryz.pinned (.plain (OpenSpec.upto callFirstSpec)) callFirstUptoCard

/-- THE SECOND FORM's CARD OF 'progenylaw15.CallFinds'. -/
def callFindsUptoCard : Claim7 := { stood := { row := callFindsUptoRow, standIns := [], harness := (true, "7badb380429ad031ab07b4330afe3e1c226506141b04f89e32d71ee0cdd0ec31"), looks := false }, kinds := [], alts := [], laidByText := true, laidKinds := [.data, .pinned], laidTests := true, laidLooks := .later }
def CallFindsUptoCardSaid : Prop := Claim7.holds Tryz.pinned (.plain (OpenSpec.upto callFindsSpec)) callFindsUptoCard

/-- THE SECOND FORM's CARD OF 'progenylaw15.CallSatisfies'. -/
def callSatisfiesUptoCard : Claim7 := { stood := { row := callSatisfiesUptoRow, standIns := [], harness := (true, "7badb380429ad031ab07b4330afe3e1c226506141b04f89e32d71ee0cdd0ec31"), looks := false }, kinds := [], alts := [], laidByText := true, laidKinds := [.data, .pinned], laidTests := true, laidLooks := .later }
def CallSatisfiesUptoCardSaid : Prop := Claim7.holds Tryz.pinned (.plain (OpenSpec.upto callSatisfiesSpec)) callSatisfiesUptoCard
end Rows
end Go.Proofs.YtbdpceigmnpoaaaGreatDoor
