/-
  No cell of these rows narrows 'for every input' (looked for: loops, veiled, ifaces, maps, wideKeys, modest, calm, conditions, laid).
  DERIVED. THE GIVEN ROWS OF THIS SEAT. 5 by the template 'for every input the law returns true; each argument reads behind the call as it read before'; 0 by the template 'total and deterministic' (their statements: YthgcnlmmgilhjaaTotals.lean).
  GIVEN WITH THE SEED: the statements are not yours to turn. If you find one false, say at which input.
  Laid BY PROGRAM, IN A SANDBOX (cutbox-rows.mjs): the forced cells as the released guide's own fill.sh prints them over the translation 8689c75d651a8838… (all of the seat's roots in one cut). By AI agents, Wed Nov 11 2026. No macro, syntax, notation, axiom, sorry.
-/
import Derived.Test.YthgcnlmmgilhjaaChecked
import GoSem.Claim
import GoSem.ClaimJoined
import GoSem.ClaimMapViews
import Derived.JoinedTies
import Derived.KernelRfl
namespace Go.Proofs.Ythgcnlmmgilhjaa
/- THE CELL 'sum', in the pinned program and in every row, IS THE sha256 OF THE DUMP (.gsa) THAT YthgcnlmmgilhjaaProg.lean LOADS. Nothing in Lean hashes anything: it is a label: what it is worth is what the hold of that sum in a sandbox is worth. -/
noncomputable def Try.pinned : Pinned := { name := "ythgcnlmmgilhjaa", sum := "8689c75d651a88384171693e597df061ee7f4588a33d8c78f0082e99407012ed", checked := Try.checked }
namespace Rows
def none {H : Type} : Left H := { results := [], args := [] }

/-- 'progenylaw08.PagePlaces': WHATEVER THE INPUT: true; the input reads as it did. -/
def pagePlacesSpec : ChangeSpec := { name := "pagePlaces", fn := fun _ => fun
  | [d] => { results := [.lit (.bool true)], args := [d] }
  | _ => none }
def pagePlacesRow : OpenClaim := { program := "ythgcnlmmgilhjaa", sum := "8689c75d651a88384171693e597df061ee7f4588a33d8c78f0082e99407012ed", func := "progeny/progenylaw08.PagePlaces", spec := "pagePlaces", unfollowed := true, recurses := true, apart := false }
def PagePlacesSaid : Prop := pagePlacesRow.holds Try.pinned (OpenSpec.ofChange pagePlacesSpec)

/-- ITS FALSE NEIGHBOUR: 'it returns false'. Refute it at one input. -/
def pagePlacesWrong : ChangeSpec := { name := "pagePlaces", fn := fun _ => fun
  | [d] => { results := [.lit (.bool false)], args := [d] }
  | _ => none }
def PagePlacesWrongFalsely : Prop := pagePlacesRow.holds Try.pinned (OpenSpec.ofChange pagePlacesWrong)

/-- 'progenylaw08.PageReads': WHATEVER THE INPUT: true; the input reads as it did. -/
def pageReadsSpec : ChangeSpec := { name := "pageReads", fn := fun _ => fun
  | [d1, d2, d3] => { results := [.lit (.bool true)], args := [d1, d2, d3] }
  | _ => none }
def pageReadsRow : OpenClaim := { program := "ythgcnlmmgilhjaa", sum := "8689c75d651a88384171693e597df061ee7f4588a33d8c78f0082e99407012ed", func := "progeny/progenylaw08.PageReads", spec := "pageReads", unfollowed := true, recurses := true, apart := false }
def PageReadsSaid : Prop := pageReadsRow.holds Try.pinned (OpenSpec.ofChange pageReadsSpec)

/-- ITS FALSE NEIGHBOUR: 'it returns false'. Refute it at one input. -/
def pageReadsWrong : ChangeSpec := { name := "pageReads", fn := fun _ => fun
  | [d1, d2, d3] => { results := [.lit (.bool false)], args := [d1, d2, d3] }
  | _ => none }
def PageReadsWrongFalsely : Prop := pageReadsRow.holds Try.pinned (OpenSpec.ofChange pageReadsWrong)

/-- 'progenylaw08.PageTakes': WHATEVER THE INPUT: true; the input reads as it did. -/
def pageTakesSpec : ChangeSpec := { name := "pageTakes", fn := fun _ => fun
  | [d1, d2, d3] => { results := [.lit (.bool true)], args := [d1, d2, d3] }
  | _ => none }
def pageTakesRow : OpenClaim := { program := "ythgcnlmmgilhjaa", sum := "8689c75d651a88384171693e597df061ee7f4588a33d8c78f0082e99407012ed", func := "progeny/progenylaw08.PageTakes", spec := "pageTakes", inPlace := ["slices.overlaps[progeny/page.place]"], unfollowed := true, recurses := true, apart := false }
def PageTakesSaid : Prop := pageTakesRow.holds Try.pinned (OpenSpec.ofChange pageTakesSpec)

/-- ITS FALSE NEIGHBOUR: 'it returns false'. Refute it at one input. -/
def pageTakesWrong : ChangeSpec := { name := "pageTakes", fn := fun _ => fun
  | [d1, d2, d3] => { results := [.lit (.bool false)], args := [d1, d2, d3] }
  | _ => none }
def PageTakesWrongFalsely : Prop := pageTakesRow.holds Try.pinned (OpenSpec.ofChange pageTakesWrong)

/-- 'progenylaw08.PageBack': WHATEVER THE INPUT: true; the input reads as it did. -/
def pageBackSpec : ChangeSpec := { name := "pageBack", fn := fun _ => fun
  | [d1, d2] => { results := [.lit (.bool true)], args := [d1, d2] }
  | _ => none }
def pageBackRow : OpenClaim := { program := "ythgcnlmmgilhjaa", sum := "8689c75d651a88384171693e597df061ee7f4588a33d8c78f0082e99407012ed", func := "progeny/progenylaw08.PageBack", spec := "pageBack", inPlace := ["slices.overlaps[progeny/page.place]"], unfollowed := true, recurses := true, apart := false }
def PageBackSaid : Prop := pageBackRow.holds Try.pinned (OpenSpec.ofChange pageBackSpec)

/-- ITS FALSE NEIGHBOUR: 'it returns false'. Refute it at one input. -/
def pageBackWrong : ChangeSpec := { name := "pageBack", fn := fun _ => fun
  | [d1, d2] => { results := [.lit (.bool false)], args := [d1, d2] }
  | _ => none }
def PageBackWrongFalsely : Prop := pageBackRow.holds Try.pinned (OpenSpec.ofChange pageBackWrong)

/-- 'progenylaw08.PageMoves': WHATEVER THE INPUT: true; the input reads as it did. -/
def pageMovesSpec : ChangeSpec := { name := "pageMoves", fn := fun _ => fun
  | [d] => { results := [.lit (.bool true)], args := [d] }
  | _ => none }
def pageMovesRow : OpenClaim := { program := "ythgcnlmmgilhjaa", sum := "8689c75d651a88384171693e597df061ee7f4588a33d8c78f0082e99407012ed", func := "progeny/progenylaw08.PageMoves", spec := "pageMoves", inPlace := ["slices.overlaps[progeny/page.place]"], unfollowed := true, recurses := true, apart := false }
def PageMovesSaid : Prop := pageMovesRow.holds Try.pinned (OpenSpec.ofChange pageMovesSpec)

/-- ITS FALSE NEIGHBOUR: 'it returns false'. Refute it at one input. -/
def pageMovesWrong : ChangeSpec := { name := "pageMoves", fn := fun _ => fun
  | [d] => { results := [.lit (.bool false)], args := [d] }
  | _ => none }
def PageMovesWrongFalsely : Prop := pageMovesRow.holds Try.pinned (OpenSpec.ofChange pageMovesWrong)

/- THE SECOND FORM. 'bulk': how many values and letters a reading holds, each counted each time it is reached (what is shared counts as often as it is met; a slice's spare places count too). A statement '..UptoSaid' is the law's where the arguments, and the package variables that the reading takes, are together of bulk at most 1048576: NARROWER than '..Said'. Prove '..Said' where nothing that the law and all that it calls make is longer than what came in: it says more and counts as full. Else prove '..UptoSaid'. A law counts once. -/
mutual
def uptoBulk {H : Type} : DataW H → Nat
  | .lit (.string bytes) => bytes.length + 1
  | .lit _ => 1
  | .nil => 1
  | .ptr d => uptoBulk d + 1
  | .slice elems spare => uptoBulkAll elems + uptoBulkAll spare + 1
  | .agg parts => uptoBulkAll parts + 1
  | .iface _ d => uptoBulk d + 1
  | .map entries => uptoBulkEntries entries + 1
  | .held _ => 1
def uptoBulkAll {H : Type} : List (DataW H) → Nat
  | [] => 0
  | d :: r => uptoBulk d + uptoBulkAll r
def uptoBulkEntries {H : Type} : List (Lit × DataW H) → Nat
  | [] => 0
  | x :: r => uptoBulkEntry x + uptoBulkEntries r
def uptoBulkEntry {H : Type} : Lit × DataW H → Nat
  | (.string bytes, d) => bytes.length + uptoBulk d + 1
  | (_, d) => uptoBulk d + 1
 end
def uptoSmall : (H : Type) → List (DataW H) → Bool := fun _ ds => decide (uptoBulkAll ds ≤ 1048576)
def OpenSpec.upto (s : _root_.Go.ChangeSpec) : _root_.Go.OpenSpec := { _root_.Go.OpenSpec.ofChange s with cond := some uptoSmall }

/-- 'progenylaw08.PagePlaces', WHERE WHAT IT READS IS OF BULK AT MOST 1048576: true; the input reads as it did. -/
def pagePlacesUptoRow : OpenClaim := { program := "ythgcnlmmgilhjaa", sum := "8689c75d651a88384171693e597df061ee7f4588a33d8c78f0082e99407012ed", func := "progeny/progenylaw08.PagePlaces", spec := "pagePlaces", unfollowed := true, recurses := true, apart := false, narrowed := true }
def PagePlacesUptoSaid : Prop := pagePlacesUptoRow.holds Try.pinned (OpenSpec.upto pagePlacesSpec)

/-- 'progenylaw08.PageReads', WHERE WHAT IT READS IS OF BULK AT MOST 1048576: true; the input reads as it did. -/
def pageReadsUptoRow : OpenClaim := { program := "ythgcnlmmgilhjaa", sum := "8689c75d651a88384171693e597df061ee7f4588a33d8c78f0082e99407012ed", func := "progeny/progenylaw08.PageReads", spec := "pageReads", unfollowed := true, recurses := true, apart := false, narrowed := true }
def PageReadsUptoSaid : Prop := pageReadsUptoRow.holds Try.pinned (OpenSpec.upto pageReadsSpec)

/-- 'progenylaw08.PageTakes', WHERE WHAT IT READS IS OF BULK AT MOST 1048576: true; the input reads as it did. -/
def pageTakesUptoRow : OpenClaim := { program := "ythgcnlmmgilhjaa", sum := "8689c75d651a88384171693e597df061ee7f4588a33d8c78f0082e99407012ed", func := "progeny/progenylaw08.PageTakes", spec := "pageTakes", inPlace := ["slices.overlaps[progeny/page.place]"], unfollowed := true, recurses := true, apart := false, narrowed := true }
def PageTakesUptoSaid : Prop := pageTakesUptoRow.holds Try.pinned (OpenSpec.upto pageTakesSpec)

/-- 'progenylaw08.PageBack', WHERE WHAT IT READS IS OF BULK AT MOST 1048576: true; the input reads as it did. -/
def pageBackUptoRow : OpenClaim := { program := "ythgcnlmmgilhjaa", sum := "8689c75d651a88384171693e597df061ee7f4588a33d8c78f0082e99407012ed", func := "progeny/progenylaw08.PageBack", spec := "pageBack", inPlace := ["slices.overlaps[progeny/page.place]"], unfollowed := true, recurses := true, apart := false, narrowed := true }
def PageBackUptoSaid : Prop := pageBackUptoRow.holds Try.pinned (OpenSpec.upto pageBackSpec)

/-- 'progenylaw08.PageMoves', WHERE WHAT IT READS IS OF BULK AT MOST 1048576: true; the input reads as it did. -/
def pageMovesUptoRow : OpenClaim := { program := "ythgcnlmmgilhjaa", sum := "8689c75d651a88384171693e597df061ee7f4588a33d8c78f0082e99407012ed", func := "progeny/progenylaw08.PageMoves", spec := "pageMoves", inPlace := ["slices.overlaps[progeny/page.place]"], unfollowed := true, recurses := true, apart := false, narrowed := true }
def PageMovesUptoSaid : Prop := pageMovesUptoRow.holds Try.pinned (OpenSpec.upto pageMovesSpec)

end Rows
end Go.Proofs.Ythgcnlmmgilhjaa
