/-
  NARROWER THAN 'FOR EVERY INPUT', by the rows' own cells (each row's printed sentence says how): CallAll: laid · CallThrough: laid · CallDoes: laid · CallFirst: laid · CallFinds: laid · CallSatisfies: laid.
  DERIVED. THE GIVEN ROWS OF THIS SEAT. 6 by the template 'for every input the law returns true; each argument reads behind the call as it read before'; 0 by the template 'total and deterministic' (their statements: YtbdpceigmnpoaaaGreatDoorTotals.lean).
  GIVEN WITH THE SEED: the statements are not yours to turn. If you find one false, say at which input.
  Laid BY PROGRAM, IN A SANDBOX (cutbox-rows.mjs): the forced cells as the released guide's own fill.sh prints them over the translation 05dd793c3e850700… (all of the seat's roots in one cut). By AI agents, Wed Nov 11 2026. No macro, syntax, notation, axiom, sorry.
-/
import Derived.Test.YtbdpceigmnpoaaaGreatDoorChecked
import GoSem.PinnedTables
import GoSem.Claim
import GoSem.ClaimJoined
import GoSem.ClaimMapViews
import Derived.JoinedTies
import Derived.KernelRfl
namespace Go.Proofs.YtbdpceigmnpoaaaGreatDoor
/- THE CELL 'sum', in the pinned program and in every row, IS THE sha256 OF THE DUMP (.gsa) THAT YtbdpceigmnpoaaaGreatDoorProg.lean LOADS. Nothing in Lean hashes anything: it is a label: what it is worth is what the hold of that sum in a sandbox is worth. -/
noncomputable def Tryz.pinned : Pinned := { name := "ytbdpceigmnpoaaagreatdoor", sum := "05dd793c3e8507000f20a9a4582b479e3b8167130600186375207e82e8c95e60", checked := Tryz.checked }
namespace Rows
def none {H : Type} : Left H := { results := [], args := [] }

/- WHAT THE LISTED PACKAGE-LEVEL VARIABLES READ AS WHEN THE CALL BEGINS. Each datum BY PROGRAM (the guide's laid-datum.mjs) off the statement by which the dump's own 'gosem.cut.vars' lays the variable. In a bare row this is a premise. The card (YtbdpceigmnpoaaaGreatDoorCards.lean) ties it to the program's text. -/
def laid_unicode_utf8_acceptRanges {H : Type} : DataW H := .agg [.agg [.lit (.int .u8 128), .lit (.int .u8 191)], .agg [.lit (.int .u8 160), .lit (.int .u8 191)], .agg [.lit (.int .u8 128), .lit (.int .u8 159)], .agg [.lit (.int .u8 144), .lit (.int .u8 191)], .agg [.lit (.int .u8 128), .lit (.int .u8 143)], .agg [.lit (.int .u8 0), .lit (.int .u8 0)], .agg [.lit (.int .u8 0), .lit (.int .u8 0)], .agg [.lit (.int .u8 0), .lit (.int .u8 0)], .agg [.lit (.int .u8 0), .lit (.int .u8 0)], .agg [.lit (.int .u8 0), .lit (.int .u8 0)], .agg [.lit (.int .u8 0), .lit (.int .u8 0)], .agg [.lit (.int .u8 0), .lit (.int .u8 0)], .agg [.lit (.int .u8 0), .lit (.int .u8 0)], .agg [.lit (.int .u8 0), .lit (.int .u8 0)], .agg [.lit (.int .u8 0), .lit (.int .u8 0)], .agg [.lit (.int .u8 0), .lit (.int .u8 0)]]
/-- One of Go's own tables, pinned by name: the form's constant. -/
def laid_unicode_utf8_first : DataW Unit := Go.Pinned.utf8First

/-- 'progenylaw15.CallAll': WHATEVER THE INPUT: true; the input reads as it did. -/
def callAllSpec : ChangeSpec := { name := "callAll", fn := fun _ => fun
  | [d1, d2, d3] => { results := [.lit (.bool true)], args := [d1, d2, d3] }
  | _ => none }
def callAllRow : OpenClaim := { program := "ytbdpceigmnpoaaagreatdoor", sum := "05dd793c3e8507000f20a9a4582b479e3b8167130600186375207e82e8c95e60", func := "progeny/progenylaw15.CallAll", spec := "callAll", inPlace := ["internal/bytealg.IndexByteString", "internal/bytealg.abigen_runtime_cmpstring", "slices.overlaps[progeny/api.Item]", "internal/bytealg.CountString", "internal/bytealg.IndexString", "internal/abi.NoEscape", "internal/bytealg.MakeNoZero"], unfollowed := true, recurses := true, named := ["internal/bytealg.MaxLen", "unicode/utf8.first", "unicode/utf8.acceptRanges"], apart := false, laid := [("unicode/utf8.acceptRanges", laid_unicode_utf8_acceptRanges), ("unicode/utf8.first", laid_unicode_utf8_first)] }
def CallAllSaid : Prop := callAllRow.holds Tryz.pinned (OpenSpec.ofChange callAllSpec)

/-- ITS FALSE NEIGHBOUR: 'it returns false'. Refute it at one input. -/
def callAllWrong : ChangeSpec := { name := "callAll", fn := fun _ => fun
  | [d1, d2, d3] => { results := [.lit (.bool false)], args := [d1, d2, d3] }
  | _ => none }
def CallAllWrongFalsely : Prop := callAllRow.holds Tryz.pinned (OpenSpec.ofChange callAllWrong)

/-- 'progenylaw15.CallThrough': WHATEVER THE INPUT: true; the input reads as it did. -/
def callThroughSpec : ChangeSpec := { name := "callThrough", fn := fun _ => fun
  | [d1, d2, d3] => { results := [.lit (.bool true)], args := [d1, d2, d3] }
  | _ => none }
def callThroughRow : OpenClaim := { program := "ytbdpceigmnpoaaagreatdoor", sum := "05dd793c3e8507000f20a9a4582b479e3b8167130600186375207e82e8c95e60", func := "progeny/progenylaw15.CallThrough", spec := "callThrough", inPlace := ["internal/bytealg.IndexByteString", "internal/bytealg.abigen_runtime_cmpstring", "slices.overlaps[progeny/api.Item]", "internal/bytealg.CountString", "internal/bytealg.IndexString", "internal/abi.NoEscape", "internal/bytealg.MakeNoZero"], unfollowed := true, recurses := true, named := ["internal/bytealg.MaxLen", "unicode/utf8.first", "unicode/utf8.acceptRanges"], apart := false, laid := [("unicode/utf8.acceptRanges", laid_unicode_utf8_acceptRanges), ("unicode/utf8.first", laid_unicode_utf8_first)] }
def CallThroughSaid : Prop := callThroughRow.holds Tryz.pinned (OpenSpec.ofChange callThroughSpec)

/-- ITS FALSE NEIGHBOUR: 'it returns false'. Refute it at one input. -/
def callThroughWrong : ChangeSpec := { name := "callThrough", fn := fun _ => fun
  | [d1, d2, d3] => { results := [.lit (.bool false)], args := [d1, d2, d3] }
  | _ => none }
def CallThroughWrongFalsely : Prop := callThroughRow.holds Tryz.pinned (OpenSpec.ofChange callThroughWrong)

/-- 'progenylaw15.CallDoes': WHATEVER THE INPUT: true; the input reads as it did. -/
def callDoesSpec : ChangeSpec := { name := "callDoes", fn := fun _ => fun
  | [d1, d2, d3] => { results := [.lit (.bool true)], args := [d1, d2, d3] }
  | _ => none }
def callDoesRow : OpenClaim := { program := "ytbdpceigmnpoaaagreatdoor", sum := "05dd793c3e8507000f20a9a4582b479e3b8167130600186375207e82e8c95e60", func := "progeny/progenylaw15.CallDoes", spec := "callDoes", inPlace := ["internal/bytealg.IndexByteString", "internal/bytealg.abigen_runtime_cmpstring", "slices.overlaps[progeny/api.Item]", "internal/bytealg.CountString", "internal/bytealg.IndexString", "internal/abi.NoEscape", "internal/bytealg.MakeNoZero"], unfollowed := true, recurses := true, named := ["internal/bytealg.MaxLen", "unicode/utf8.first", "unicode/utf8.acceptRanges"], apart := false, laid := [("unicode/utf8.acceptRanges", laid_unicode_utf8_acceptRanges), ("unicode/utf8.first", laid_unicode_utf8_first)] }
def CallDoesSaid : Prop := callDoesRow.holds Tryz.pinned (OpenSpec.ofChange callDoesSpec)

/-- ITS FALSE NEIGHBOUR: 'it returns false'. Refute it at one input. -/
def callDoesWrong : ChangeSpec := { name := "callDoes", fn := fun _ => fun
  | [d1, d2, d3] => { results := [.lit (.bool false)], args := [d1, d2, d3] }
  | _ => none }
def CallDoesWrongFalsely : Prop := callDoesRow.holds Tryz.pinned (OpenSpec.ofChange callDoesWrong)

/-- 'progenylaw15.CallFirst': WHATEVER THE INPUT: true; the input reads as it did. -/
def callFirstSpec : ChangeSpec := { name := "callFirst", fn := fun _ => fun
  | [d1, d2, d3] => { results := [.lit (.bool true)], args := [d1, d2, d3] }
  | _ => none }
def callFirstRow : OpenClaim := { program := "ytbdpceigmnpoaaagreatdoor", sum := "05dd793c3e8507000f20a9a4582b479e3b8167130600186375207e82e8c95e60", func := "progeny/progenylaw15.CallFirst", spec := "callFirst", inPlace := ["internal/bytealg.IndexByteString", "internal/bytealg.abigen_runtime_cmpstring", "slices.overlaps[progeny/api.Item]", "internal/bytealg.CountString", "internal/bytealg.IndexString", "internal/abi.NoEscape", "internal/bytealg.MakeNoZero"], unfollowed := true, recurses := true, named := ["internal/bytealg.MaxLen", "unicode/utf8.first", "unicode/utf8.acceptRanges"], apart := false, laid := [("unicode/utf8.acceptRanges", laid_unicode_utf8_acceptRanges), ("unicode/utf8.first", laid_unicode_utf8_first)] }
def CallFirstSaid : Prop := callFirstRow.holds Tryz.pinned (OpenSpec.ofChange callFirstSpec)

/-- ITS FALSE NEIGHBOUR: 'it returns false'. Refute it at one input. -/
def callFirstWrong : ChangeSpec := { name := "callFirst", fn := fun _ => fun
  | [d1, d2, d3] => { results := [.lit (.bool false)], args := [d1, d2, d3] }
  | _ => none }
def CallFirstWrongFalsely : Prop := callFirstRow.holds Tryz.pinned (OpenSpec.ofChange callFirstWrong)

/-- 'progenylaw15.CallFinds': WHATEVER THE INPUT: true; the input reads as it did. -/
def callFindsSpec : ChangeSpec := { name := "callFinds", fn := fun _ => fun
  | [d1, d2, d3] => { results := [.lit (.bool true)], args := [d1, d2, d3] }
  | _ => none }
def callFindsRow : OpenClaim := { program := "ytbdpceigmnpoaaagreatdoor", sum := "05dd793c3e8507000f20a9a4582b479e3b8167130600186375207e82e8c95e60", func := "progeny/progenylaw15.CallFinds", spec := "callFinds", inPlace := ["internal/bytealg.IndexByteString", "internal/bytealg.abigen_runtime_cmpstring", "slices.overlaps[progeny/api.Item]", "internal/bytealg.CountString", "internal/bytealg.IndexString", "internal/abi.NoEscape", "internal/bytealg.MakeNoZero"], unfollowed := true, recurses := true, named := ["internal/bytealg.MaxLen", "unicode/utf8.first", "unicode/utf8.acceptRanges"], apart := false, laid := [("unicode/utf8.acceptRanges", laid_unicode_utf8_acceptRanges), ("unicode/utf8.first", laid_unicode_utf8_first)] }
def CallFindsSaid : Prop := callFindsRow.holds Tryz.pinned (OpenSpec.ofChange callFindsSpec)

/-- ITS FALSE NEIGHBOUR: 'it returns false'. Refute it at one input. -/
def callFindsWrong : ChangeSpec := { name := "callFinds", fn := fun _ => fun
  | [d1, d2, d3] => { results := [.lit (.bool false)], args := [d1, d2, d3] }
  | _ => none }
def CallFindsWrongFalsely : Prop := callFindsRow.holds Tryz.pinned (OpenSpec.ofChange callFindsWrong)

/-- 'progenylaw15.CallSatisfies': WHATEVER THE INPUT: true; the input reads as it did. -/
def callSatisfiesSpec : ChangeSpec := { name := "callSatisfies", fn := fun _ => fun
  | [d1, d2, d3] => { results := [.lit (.bool true)], args := [d1, d2, d3] }
  | _ => none }
def callSatisfiesRow : OpenClaim := { program := "ytbdpceigmnpoaaagreatdoor", sum := "05dd793c3e8507000f20a9a4582b479e3b8167130600186375207e82e8c95e60", func := "progeny/progenylaw15.CallSatisfies", spec := "callSatisfies", inPlace := ["internal/bytealg.IndexByteString", "internal/bytealg.abigen_runtime_cmpstring", "slices.overlaps[progeny/api.Item]", "internal/bytealg.CountString", "internal/bytealg.IndexString", "internal/abi.NoEscape", "internal/bytealg.MakeNoZero"], unfollowed := true, recurses := true, named := ["internal/bytealg.MaxLen", "unicode/utf8.first", "unicode/utf8.acceptRanges"], apart := false, laid := [("unicode/utf8.acceptRanges", laid_unicode_utf8_acceptRanges), ("unicode/utf8.first", laid_unicode_utf8_first)] }
def CallSatisfiesSaid : Prop := callSatisfiesRow.holds Tryz.pinned (OpenSpec.ofChange callSatisfiesSpec)

/-- ITS FALSE NEIGHBOUR: 'it returns false'. Refute it at one input. -/
def callSatisfiesWrong : ChangeSpec := { name := "callSatisfies", fn := fun _ => fun
  | [d1, d2, d3] => { results := [.lit (.bool false)], args := [d1, d2, d3] }
  | _ => none }
def CallSatisfiesWrongFalsely : Prop := callSatisfiesRow.holds Tryz.pinned (OpenSpec.ofChange callSatisfiesWrong)

/- THE SECOND FORM. 'bulk': how many values and letters a reading holds, each counted each time it is reached (what is shared counts as often as it is met; a slice's spare places count too). A statement '..UptoSaid' is the law's where the arguments, and the package variables that the reading takes, are together of bulk at most 1048576: NARROWER than '..Said'. Prove '..Said' where nothing that the law and all that it calls make is longer than what came in: it says more and counts as full. Else prove '..UptoSaid'. A law counts once. -/
mutual
def uptoBulk {H : Type} : DataW H → Nat
  | .lit (.string bytes) => bytes.length + 1
  | .lit _ => 1
  | .nil => 1
  | .ptr d => uptoBulk d + 1
  | .slice elems spare => uptoBulkAll elems + uptoBulkAll spare + 1
  | .agg parts => uptoBulkAll parts + 1
  | .iface _ d => uptoBulk d + 1
  | .map entries => uptoBulkEntries entries + 1
  | .held _ => 1
def uptoBulkAll {H : Type} : List (DataW H) → Nat
  | [] => 0
  | d :: r => uptoBulk d + uptoBulkAll r
def uptoBulkEntries {H : Type} : List (Lit × DataW H) → Nat
  | [] => 0
  | x :: r => uptoBulkEntry x + uptoBulkEntries r
def uptoBulkEntry {H : Type} : Lit × DataW H → Nat
  | (.string bytes, d) => bytes.length + uptoBulk d + 1
  | (_, d) => uptoBulk d + 1
 end
def uptoSmall : (H : Type) → List (DataW H) → Bool := fun _ ds => decide (uptoBulkAll ds ≤ 1048576)
def OpenSpec.upto (s : _root_.Go.ChangeSpec) : _root_.Go.OpenSpec := { _root_.Go.OpenSpec.ofChange s with cond := some uptoSmall }

/-- 'progenylaw15.CallAll', WHERE WHAT IT READS IS OF BULK AT MOST 1048576: true; the input reads as it did. -/
def callAllUptoRow : OpenClaim := { program := "ytbdpceigmnpoaaagreatdoor", sum := "05dd793c3e8507000f20a9a4582b479e3b8167130600186375207e82e8c95e60", func := "progeny/progenylaw15.CallAll", spec := "callAll", inPlace := ["internal/bytealg.IndexByteString", "internal/bytealg.abigen_runtime_cmpstring", "slices.overlaps[progeny/api.Item]", "internal/bytealg.CountString", "internal/bytealg.IndexString", "internal/abi.NoEscape", "internal/bytealg.MakeNoZero"], unfollowed := true, recurses := true, named := ["internal/bytealg.MaxLen", "unicode/utf8.first", "unicode/utf8.acceptRanges"], apart := false, laid := [("unicode/utf8.acceptRanges", laid_unicode_utf8_acceptRanges), ("unicode/utf8.first", laid_unicode_utf8_first)], narrowed := true }
def CallAllUptoSaid : Prop := callAllUptoRow.holds Tryz.pinned (OpenSpec.upto callAllSpec)

/-- 'progenylaw15.CallThrough', WHERE WHAT IT READS IS OF BULK AT MOST 1048576: true; the input reads as it did. -/
def callThroughUptoRow : OpenClaim := { program := "ytbdpceigmnpoaaagreatdoor", sum := "05dd793c3e8507000f20a9a4582b479e3b8167130600186375207e82e8c95e60", func := "progeny/progenylaw15.CallThrough", spec := "callThrough", inPlace := ["internal/bytealg.IndexByteString", "internal/bytealg.abigen_runtime_cmpstring", "slices.overlaps[progeny/api.Item]", "internal/bytealg.CountString", "internal/bytealg.IndexString", "internal/abi.NoEscape", "internal/bytealg.MakeNoZero"], unfollowed := true, recurses := true, named := ["internal/bytealg.MaxLen", "unicode/utf8.first", "unicode/utf8.acceptRanges"], apart := false, laid := [("unicode/utf8.acceptRanges", laid_unicode_utf8_acceptRanges), ("unicode/utf8.first", laid_unicode_utf8_first)], narrowed := true }
def CallThroughUptoSaid : Prop := callThroughUptoRow.holds Tryz.pinned (OpenSpec.upto callThroughSpec)

/-- 'progenylaw15.CallDoes', WHERE WHAT IT READS IS OF BULK AT MOST 1048576: true; the input reads as it did. -/
def callDoesUptoRow : OpenClaim := { program := "ytbdpceigmnpoaaagreatdoor", sum := "05dd793c3e8507000f20a9a4582b479e3b8167130600186375207e82e8c95e60", func := "progeny/progenylaw15.CallDoes", spec := "callDoes", inPlace := ["internal/bytealg.IndexByteString", "internal/bytealg.abigen_runtime_cmpstring", "slices.overlaps[progeny/api.Item]", "internal/bytealg.CountString", "internal/bytealg.IndexString", "internal/abi.NoEscape", "internal/bytealg.MakeNoZero"], unfollowed := true, recurses := true, named := ["internal/bytealg.MaxLen", "unicode/utf8.first", "unicode/utf8.acceptRanges"], apart := false, laid := [("unicode/utf8.acceptRanges", laid_unicode_utf8_acceptRanges), ("unicode/utf8.first", laid_unicode_utf8_first)], narrowed := true }
def CallDoesUptoSaid : Prop := callDoesUptoRow.holds Tryz.pinned (OpenSpec.upto callDoesSpec)

/-- 'progenylaw15.CallFirst', WHERE WHAT IT READS IS OF BULK AT MOST 1048576: true; the input reads as it did. -/
def callFirstUptoRow : OpenClaim := { program := "ytbdpceigmnpoaaagreatdoor", sum := "05dd793c3e8507000f20a9a4582b479e3b8167130600186375207e82e8c95e60", func := "progeny/progenylaw15.CallFirst", spec := "callFirst", inPlace := ["internal/bytealg.IndexByteString", "internal/bytealg.abigen_runtime_cmpstring", "slices.overlaps[progeny/api.Item]", "internal/bytealg.CountString", "internal/bytealg.IndexString", "internal/abi.NoEscape", "internal/bytealg.MakeNoZero"], unfollowed := true, recurses := true, named := ["internal/bytealg.MaxLen", "unicode/utf8.first", "unicode/utf8.acceptRanges"], apart := false, laid := [("unicode/utf8.acceptRanges", laid_unicode_utf8_acceptRanges), ("unicode/utf8.first", laid_unicode_utf8_first)], narrowed := true }
def CallFirstUptoSaid : Prop := callFirstUptoRow.holds Tryz.pinned (OpenSpec.upto callFirstSpec)

/-- 'progenylaw15.CallFinds', WHERE WHAT IT READS IS OF BULK AT MOST 1048576: true; the input reads as it did. -/
def callFindsUptoRow : OpenClaim := { program := "ytbdpceigmnpoaaagreatdoor", sum := "05dd793c3e8507000f20a9a4582b479e3b8167130600186375207e82e8c95e60", func := "progeny/progenylaw15.CallFinds", spec := "callFinds", inPlace := ["internal/bytealg.IndexByteString", "internal/bytealg.abigen_runtime_cmpstring", "slices.overlaps[progeny/api.Item]", "internal/bytealg.CountString", "internal/bytealg.IndexString", "internal/abi.NoEscape", "internal/bytealg.MakeNoZero"], unfollowed := true, recurses := true, named := ["internal/bytealg.MaxLen", "unicode/utf8.first", "unicode/utf8.acceptRanges"], apart := false, laid := [("unicode/utf8.acceptRanges", laid_unicode_utf8_acceptRanges), ("unicode/utf8.first", laid_unicode_utf8_first)], narrowed := true }
def CallFindsUptoSaid : Prop := callFindsUptoRow.holds Tryz.pinned (OpenSpec.upto callFindsSpec)

/-- 'progenylaw15.CallSatisfies', WHERE WHAT IT READS IS OF BULK AT MOST 1048576: true; the input reads as it did. -/
def callSatisfiesUptoRow : OpenClaim := { program := "ytbdpceigmnpoaaagreatdoor", sum := "05dd793c3e8507000f20a9a4582b479e3b8167130600186375207e82e8c95e60", func := "progeny/progenylaw15.CallSatisfies", spec := "callSatisfies", inPlace := ["internal/bytealg.IndexByteString", "internal/bytealg.abigen_runtime_cmpstring", "slices.overlaps[progeny/api.Item]", "internal/bytealg.CountString", "internal/bytealg.IndexString", "internal/abi.NoEscape", "internal/bytealg.MakeNoZero"], unfollowed := true, recurses := true, named := ["internal/bytealg.MaxLen", "unicode/utf8.first", "unicode/utf8.acceptRanges"], apart := false, laid := [("unicode/utf8.acceptRanges", laid_unicode_utf8_acceptRanges), ("unicode/utf8.first", laid_unicode_utf8_first)], narrowed := true }
def CallSatisfiesUptoSaid : Prop := callSatisfiesUptoRow.holds Tryz.pinned (OpenSpec.upto callSatisfiesSpec)

end Rows
end Go.Proofs.YtbdpceigmnpoaaaGreatDoor
