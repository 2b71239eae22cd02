/-
  No cell of these rows narrows 'for every input' (looked for: loops, veiled, ifaces, maps, wideKeys, modest, calm, conditions, laid).
  DERIVED. THE GIVEN ROWS OF THIS SEAT. 6 by the template 'for every input the law returns true; each argument reads behind the call as it read before'; 0 by the template 'total and deterministic' (their statements: YtcbmakanokmdjaaTotals.lean).
  GIVEN WITH THE SEED: the statements are not yours to turn. If you find one false, say at which input.
  Laid BY PROGRAM, IN A SANDBOX (cutbox-rows.mjs): the forced cells as the released guide's own fill.sh prints them over the translation dcb810aa55ba69de… (all of the seat's roots in one cut). By AI agents, Wed Nov 11 2026. No macro, syntax, notation, axiom, sorry.
-/
import Derived.Test.YtcbmakanokmdjaaChecked
import GoSem.Claim
import GoSem.ClaimJoined
import GoSem.ClaimMapViews
import Derived.JoinedTies
import Derived.KernelRfl
namespace Go.Proofs.Ytcbmakanokmdjaa
/- THE CELL 'sum', in the pinned program and in every row, IS THE sha256 OF THE DUMP (.gsa) THAT YtcbmakanokmdjaaProg.lean LOADS. Nothing in Lean hashes anything: it is a label: what it is worth is what the hold of that sum in a sandbox is worth. -/
noncomputable def Try.pinned : Pinned := { name := "ytcbmakanokmdjaa", sum := "dcb810aa55ba69de27d4c7e4581ee5a05f7a1e4c7c907ed238bf87229f289315", checked := Try.checked }
namespace Rows
def none {H : Type} : Left H := { results := [], args := [] }

/-- 'progenylaw13.PlainValid': WHATEVER THE INPUT: true; the input reads as it did. -/
def plainValidSpec : ChangeSpec := { name := "plainValid", fn := fun _ => fun
  | [d1, d2, d3] => { results := [.lit (.bool true)], args := [d1, d2, d3] }
  | _ => none }
def plainValidRow : OpenClaim := { program := "ytcbmakanokmdjaa", sum := "dcb810aa55ba69de27d4c7e4581ee5a05f7a1e4c7c907ed238bf87229f289315", func := "progeny/progenylaw13.PlainValid", spec := "plainValid", unfollowed := true, recurses := true, apart := false }
def PlainValidSaid : Prop := plainValidRow.holds Try.pinned (OpenSpec.ofChange plainValidSpec)

/-- ITS FALSE NEIGHBOUR: 'it returns false'. Refute it at one input. -/
def plainValidWrong : ChangeSpec := { name := "plainValid", fn := fun _ => fun
  | [d1, d2, d3] => { results := [.lit (.bool false)], args := [d1, d2, d3] }
  | _ => none }
def PlainValidWrongFalsely : Prop := plainValidRow.holds Try.pinned (OpenSpec.ofChange plainValidWrong)

/-- 'progenylaw13.PlainChanges': WHATEVER THE INPUT: true; the input reads as it did. -/
def plainChangesSpec : ChangeSpec := { name := "plainChanges", fn := fun _ => fun
  | [d1, d2, d3] => { results := [.lit (.bool true)], args := [d1, d2, d3] }
  | _ => none }
def plainChangesRow : OpenClaim := { program := "ytcbmakanokmdjaa", sum := "dcb810aa55ba69de27d4c7e4581ee5a05f7a1e4c7c907ed238bf87229f289315", func := "progeny/progenylaw13.PlainChanges", spec := "plainChanges", unfollowed := true, recurses := true, apart := false }
def PlainChangesSaid : Prop := plainChangesRow.holds Try.pinned (OpenSpec.ofChange plainChangesSpec)

/-- ITS FALSE NEIGHBOUR: 'it returns false'. Refute it at one input. -/
def plainChangesWrong : ChangeSpec := { name := "plainChanges", fn := fun _ => fun
  | [d1, d2, d3] => { results := [.lit (.bool false)], args := [d1, d2, d3] }
  | _ => none }
def PlainChangesWrongFalsely : Prop := plainChangesRow.holds Try.pinned (OpenSpec.ofChange plainChangesWrong)

/-- 'progenylaw13.PlainParts': WHATEVER THE INPUT: true; the input reads as it did. -/
def plainPartsSpec : ChangeSpec := { name := "plainParts", fn := fun _ => fun
  | [d1, d2, d3] => { results := [.lit (.bool true)], args := [d1, d2, d3] }
  | _ => none }
def plainPartsRow : OpenClaim := { program := "ytcbmakanokmdjaa", sum := "dcb810aa55ba69de27d4c7e4581ee5a05f7a1e4c7c907ed238bf87229f289315", func := "progeny/progenylaw13.PlainParts", spec := "plainParts", unfollowed := true, recurses := true, apart := false }
def PlainPartsSaid : Prop := plainPartsRow.holds Try.pinned (OpenSpec.ofChange plainPartsSpec)

/-- ITS FALSE NEIGHBOUR: 'it returns false'. Refute it at one input. -/
def plainPartsWrong : ChangeSpec := { name := "plainParts", fn := fun _ => fun
  | [d1, d2, d3] => { results := [.lit (.bool false)], args := [d1, d2, d3] }
  | _ => none }
def PlainPartsWrongFalsely : Prop := plainPartsRow.holds Try.pinned (OpenSpec.ofChange plainPartsWrong)

/-- 'progenylaw13.PlainCommutes': WHATEVER THE INPUT: true; the input reads as it did. -/
def plainCommutesSpec : ChangeSpec := { name := "plainCommutes", fn := fun _ => fun
  | [d1, d2, d3] => { results := [.lit (.bool true)], args := [d1, d2, d3] }
  | _ => none }
def plainCommutesRow : OpenClaim := { program := "ytcbmakanokmdjaa", sum := "dcb810aa55ba69de27d4c7e4581ee5a05f7a1e4c7c907ed238bf87229f289315", func := "progeny/progenylaw13.PlainCommutes", spec := "plainCommutes", unfollowed := true, recurses := true, apart := false }
def PlainCommutesSaid : Prop := plainCommutesRow.holds Try.pinned (OpenSpec.ofChange plainCommutesSpec)

/-- ITS FALSE NEIGHBOUR: 'it returns false'. Refute it at one input. -/
def plainCommutesWrong : ChangeSpec := { name := "plainCommutes", fn := fun _ => fun
  | [d1, d2, d3] => { results := [.lit (.bool false)], args := [d1, d2, d3] }
  | _ => none }
def PlainCommutesWrongFalsely : Prop := plainCommutesRow.holds Try.pinned (OpenSpec.ofChange plainCommutesWrong)

/-- 'progenylaw13.PlainInserts': WHATEVER THE INPUT: true; the input reads as it did. -/
def plainInsertsSpec : ChangeSpec := { name := "plainInserts", fn := fun _ => fun
  | [d1, d2, d3] => { results := [.lit (.bool true)], args := [d1, d2, d3] }
  | _ => none }
def plainInsertsRow : OpenClaim := { program := "ytcbmakanokmdjaa", sum := "dcb810aa55ba69de27d4c7e4581ee5a05f7a1e4c7c907ed238bf87229f289315", func := "progeny/progenylaw13.PlainInserts", spec := "plainInserts", inPlace := ["slices.overlaps[progeny/api.Item]"], unfollowed := true, recurses := true, apart := false }
def PlainInsertsSaid : Prop := plainInsertsRow.holds Try.pinned (OpenSpec.ofChange plainInsertsSpec)

/-- ITS FALSE NEIGHBOUR: 'it returns false'. Refute it at one input. -/
def plainInsertsWrong : ChangeSpec := { name := "plainInserts", fn := fun _ => fun
  | [d1, d2, d3] => { results := [.lit (.bool false)], args := [d1, d2, d3] }
  | _ => none }
def PlainInsertsWrongFalsely : Prop := plainInsertsRow.holds Try.pinned (OpenSpec.ofChange plainInsertsWrong)

/-- 'progenylaw13.PlainBack': WHATEVER THE INPUT: true; the input reads as it did. -/
def plainBackSpec : ChangeSpec := { name := "plainBack", fn := fun _ => fun
  | [d1, d2, d3] => { results := [.lit (.bool true)], args := [d1, d2, d3] }
  | _ => none }
def plainBackRow : OpenClaim := { program := "ytcbmakanokmdjaa", sum := "dcb810aa55ba69de27d4c7e4581ee5a05f7a1e4c7c907ed238bf87229f289315", func := "progeny/progenylaw13.PlainBack", spec := "plainBack", inPlace := ["slices.overlaps[progeny/api.Item]"], unfollowed := true, recurses := true, apart := false }
def PlainBackSaid : Prop := plainBackRow.holds Try.pinned (OpenSpec.ofChange plainBackSpec)

/-- ITS FALSE NEIGHBOUR: 'it returns false'. Refute it at one input. -/
def plainBackWrong : ChangeSpec := { name := "plainBack", fn := fun _ => fun
  | [d1, d2, d3] => { results := [.lit (.bool false)], args := [d1, d2, d3] }
  | _ => none }
def PlainBackWrongFalsely : Prop := plainBackRow.holds Try.pinned (OpenSpec.ofChange plainBackWrong)

/- THE SECOND FORM. 'bulk': how many values and letters a reading holds, each counted each time it is reached (what is shared counts as often as it is met; a slice's spare places count too). A statement '..UptoSaid' is the law's where the arguments, and the package variables that the reading takes, are together of bulk at most 1048576: NARROWER than '..Said'. Prove '..Said' where nothing that the law and all that it calls make is longer than what came in: it says more and counts as full. Else prove '..UptoSaid'. A law counts once. -/
mutual
def uptoBulk {H : Type} : DataW H → Nat
  | .lit (.string bytes) => bytes.length + 1
  | .lit _ => 1
  | .nil => 1
  | .ptr d => uptoBulk d + 1
  | .slice elems spare => uptoBulkAll elems + uptoBulkAll spare + 1
  | .agg parts => uptoBulkAll parts + 1
  | .iface _ d => uptoBulk d + 1
  | .map entries => uptoBulkEntries entries + 1
  | .held _ => 1
def uptoBulkAll {H : Type} : List (DataW H) → Nat
  | [] => 0
  | d :: r => uptoBulk d + uptoBulkAll r
def uptoBulkEntries {H : Type} : List (Lit × DataW H) → Nat
  | [] => 0
  | x :: r => uptoBulkEntry x + uptoBulkEntries r
def uptoBulkEntry {H : Type} : Lit × DataW H → Nat
  | (.string bytes, d) => bytes.length + uptoBulk d + 1
  | (_, d) => uptoBulk d + 1
 end
def uptoSmall : (H : Type) → List (DataW H) → Bool := fun _ ds => decide (uptoBulkAll ds ≤ 1048576)
def OpenSpec.upto (s : _root_.Go.ChangeSpec) : _root_.Go.OpenSpec := { _root_.Go.OpenSpec.ofChange s with cond := some uptoSmall }

/-- 'progenylaw13.PlainValid', WHERE WHAT IT READS IS OF BULK AT MOST 1048576: true; the input reads as it did. -/
def plainValidUptoRow : OpenClaim := { program := "ytcbmakanokmdjaa", sum := "dcb810aa55ba69de27d4c7e4581ee5a05f7a1e4c7c907ed238bf87229f289315", func := "progeny/progenylaw13.PlainValid", spec := "plainValid", unfollowed := true, recurses := true, apart := false, narrowed := true }
def PlainValidUptoSaid : Prop := plainValidUptoRow.holds Try.pinned (OpenSpec.upto plainValidSpec)

/-- 'progenylaw13.PlainChanges', WHERE WHAT IT READS IS OF BULK AT MOST 1048576: true; the input reads as it did. -/
def plainChangesUptoRow : OpenClaim := { program := "ytcbmakanokmdjaa", sum := "dcb810aa55ba69de27d4c7e4581ee5a05f7a1e4c7c907ed238bf87229f289315", func := "progeny/progenylaw13.PlainChanges", spec := "plainChanges", unfollowed := true, recurses := true, apart := false, narrowed := true }
def PlainChangesUptoSaid : Prop := plainChangesUptoRow.holds Try.pinned (OpenSpec.upto plainChangesSpec)

/-- 'progenylaw13.PlainParts', WHERE WHAT IT READS IS OF BULK AT MOST 1048576: true; the input reads as it did. -/
def plainPartsUptoRow : OpenClaim := { program := "ytcbmakanokmdjaa", sum := "dcb810aa55ba69de27d4c7e4581ee5a05f7a1e4c7c907ed238bf87229f289315", func := "progeny/progenylaw13.PlainParts", spec := "plainParts", unfollowed := true, recurses := true, apart := false, narrowed := true }
def PlainPartsUptoSaid : Prop := plainPartsUptoRow.holds Try.pinned (OpenSpec.upto plainPartsSpec)

/-- 'progenylaw13.PlainCommutes', WHERE WHAT IT READS IS OF BULK AT MOST 1048576: true; the input reads as it did. -/
def plainCommutesUptoRow : OpenClaim := { program := "ytcbmakanokmdjaa", sum := "dcb810aa55ba69de27d4c7e4581ee5a05f7a1e4c7c907ed238bf87229f289315", func := "progeny/progenylaw13.PlainCommutes", spec := "plainCommutes", unfollowed := true, recurses := true, apart := false, narrowed := true }
def PlainCommutesUptoSaid : Prop := plainCommutesUptoRow.holds Try.pinned (OpenSpec.upto plainCommutesSpec)

/-- 'progenylaw13.PlainInserts', WHERE WHAT IT READS IS OF BULK AT MOST 1048576: true; the input reads as it did. -/
def plainInsertsUptoRow : OpenClaim := { program := "ytcbmakanokmdjaa", sum := "dcb810aa55ba69de27d4c7e4581ee5a05f7a1e4c7c907ed238bf87229f289315", func := "progeny/progenylaw13.PlainInserts", spec := "plainInserts", inPlace := ["slices.overlaps[progeny/api.Item]"], unfollowed := true, recurses := true, apart := false, narrowed := true }
def PlainInsertsUptoSaid : Prop := plainInsertsUptoRow.holds Try.pinned (OpenSpec.upto plainInsertsSpec)

/-- 'progenylaw13.PlainBack', WHERE WHAT IT READS IS OF BULK AT MOST 1048576: true; the input reads as it did. -/
def plainBackUptoRow : OpenClaim := { program := "ytcbmakanokmdjaa", sum := "dcb810aa55ba69de27d4c7e4581ee5a05f7a1e4c7c907ed238bf87229f289315", func := "progeny/progenylaw13.PlainBack", spec := "plainBack", inPlace := ["slices.overlaps[progeny/api.Item]"], unfollowed := true, recurses := true, apart := false, narrowed := true }
def PlainBackUptoSaid : Prop := plainBackUptoRow.holds Try.pinned (OpenSpec.upto plainBackSpec)

end Rows
end Go.Proofs.Ytcbmakanokmdjaa
