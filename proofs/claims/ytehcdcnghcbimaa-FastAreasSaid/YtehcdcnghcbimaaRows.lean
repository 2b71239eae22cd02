/-
  No cell of these rows narrows 'for every input' (looked for: loops, veiled, ifaces, maps, wideKeys, modest, calm, conditions, laid).
  DERIVED. THE GIVEN ROWS OF THIS SEAT. 7 by the template 'for every input the law returns true; each argument reads behind the call as it read before'; 0 by the template 'total and deterministic' (their statements: YtehcdcnghcbimaaTotals.lean).
  GIVEN WITH THE SEED: the statements are not yours to turn. If you find one false, say at which input.
  Laid BY PROGRAM, IN A SANDBOX (cutbox-rows.mjs): the forced cells as the released guide's own fill.sh prints them over the translation 681b902e6890476d… (all of the seat's roots in one cut). By AI agents, Wed Nov 11 2026. No macro, syntax, notation, axiom, sorry.
-/
import Derived.Test.YtehcdcnghcbimaaChecked
import GoSem.Claim
import GoSem.ClaimJoined
import GoSem.ClaimMapViews
import Derived.JoinedTies
import Derived.KernelRfl
namespace Go.Proofs.Ytehcdcnghcbimaa
/- THE CELL 'sum', in the pinned program and in every row, IS THE sha256 OF THE DUMP (.gsa) THAT YtehcdcnghcbimaaProg.lean LOADS. Nothing in Lean hashes anything: it is a label: what it is worth is what the hold of that sum in a sandbox is worth. -/
noncomputable def Try.pinned : Pinned := { name := "ytehcdcnghcbimaa", sum := "681b902e6890476d95466c5f96e1b2210f54b831192bf77333c881fc02886cf9", checked := Try.checked }
namespace Rows
def none {H : Type} : Left H := { results := [], args := [] }

/-- 'progenylaw23.FastSyncs': WHATEVER THE INPUT: true; the input reads as it did. -/
def fastSyncsSpec : ChangeSpec := { name := "fastSyncs", fn := fun _ => fun
  | [d1, d2] => { results := [.lit (.bool true)], args := [d1, d2] }
  | _ => none }
def fastSyncsRow : OpenClaim := { program := "ytehcdcnghcbimaa", sum := "681b902e6890476d95466c5f96e1b2210f54b831192bf77333c881fc02886cf9", func := "progeny/progenylaw23.FastSyncs", spec := "fastSyncs", unfollowed := true, recurses := true, apart := false }
def FastSyncsSaid : Prop := fastSyncsRow.holds Try.pinned (OpenSpec.ofChange fastSyncsSpec)

/-- ITS FALSE NEIGHBOUR: 'it returns false'. Refute it at one input. -/
def fastSyncsWrong : ChangeSpec := { name := "fastSyncs", fn := fun _ => fun
  | [d1, d2] => { results := [.lit (.bool false)], args := [d1, d2] }
  | _ => none }
def FastSyncsWrongFalsely : Prop := fastSyncsRow.holds Try.pinned (OpenSpec.ofChange fastSyncsWrong)

/-- 'progenylaw23.FastCalls': WHATEVER THE INPUT: true; the input reads as it did. -/
def fastCallsSpec : ChangeSpec := { name := "fastCalls", fn := fun _ => fun
  | [d1, d2, d3] => { results := [.lit (.bool true)], args := [d1, d2, d3] }
  | _ => none }
def fastCallsRow : OpenClaim := { program := "ytehcdcnghcbimaa", sum := "681b902e6890476d95466c5f96e1b2210f54b831192bf77333c881fc02886cf9", func := "progeny/progenylaw23.FastCalls", spec := "fastCalls", unfollowed := true, recurses := true, apart := false }
def FastCallsSaid : Prop := fastCallsRow.holds Try.pinned (OpenSpec.ofChange fastCallsSpec)

/-- ITS FALSE NEIGHBOUR: 'it returns false'. Refute it at one input. -/
def fastCallsWrong : ChangeSpec := { name := "fastCalls", fn := fun _ => fun
  | [d1, d2, d3] => { results := [.lit (.bool false)], args := [d1, d2, d3] }
  | _ => none }
def FastCallsWrongFalsely : Prop := fastCallsRow.holds Try.pinned (OpenSpec.ofChange fastCallsWrong)

/-- 'progenylaw23.FastApart': WHATEVER THE INPUT: true; the input reads as it did. -/
def fastApartSpec : ChangeSpec := { name := "fastApart", fn := fun _ => fun
  | [d1, d2, d3] => { results := [.lit (.bool true)], args := [d1, d2, d3] }
  | _ => none }
def fastApartRow : OpenClaim := { program := "ytehcdcnghcbimaa", sum := "681b902e6890476d95466c5f96e1b2210f54b831192bf77333c881fc02886cf9", func := "progeny/progenylaw23.FastApart", spec := "fastApart", unfollowed := true, recurses := true, apart := false }
def FastApartSaid : Prop := fastApartRow.holds Try.pinned (OpenSpec.ofChange fastApartSpec)

/-- ITS FALSE NEIGHBOUR: 'it returns false'. Refute it at one input. -/
def fastApartWrong : ChangeSpec := { name := "fastApart", fn := fun _ => fun
  | [d1, d2, d3] => { results := [.lit (.bool false)], args := [d1, d2, d3] }
  | _ => none }
def FastApartWrongFalsely : Prop := fastApartRow.holds Try.pinned (OpenSpec.ofChange fastApartWrong)

/-- 'progenylaw23.FastOrders': WHATEVER THE INPUT: true; the input reads as it did. -/
def fastOrdersSpec : ChangeSpec := { name := "fastOrders", fn := fun _ => fun
  | [d1, d2, d3] => { results := [.lit (.bool true)], args := [d1, d2, d3] }
  | _ => none }
def fastOrdersRow : OpenClaim := { program := "ytehcdcnghcbimaa", sum := "681b902e6890476d95466c5f96e1b2210f54b831192bf77333c881fc02886cf9", func := "progeny/progenylaw23.FastOrders", spec := "fastOrders", unfollowed := true, recurses := true, apart := false }
def FastOrdersSaid : Prop := fastOrdersRow.holds Try.pinned (OpenSpec.ofChange fastOrdersSpec)

/-- ITS FALSE NEIGHBOUR: 'it returns false'. Refute it at one input. -/
def fastOrdersWrong : ChangeSpec := { name := "fastOrders", fn := fun _ => fun
  | [d1, d2, d3] => { results := [.lit (.bool false)], args := [d1, d2, d3] }
  | _ => none }
def FastOrdersWrongFalsely : Prop := fastOrdersRow.holds Try.pinned (OpenSpec.ofChange fastOrdersWrong)

/-- 'progenylaw23.FastMoves': WHATEVER THE INPUT: true; the input reads as it did. -/
def fastMovesSpec : ChangeSpec := { name := "fastMoves", fn := fun _ => fun
  | [d1, d2] => { results := [.lit (.bool true)], args := [d1, d2] }
  | _ => none }
def fastMovesRow : OpenClaim := { program := "ytehcdcnghcbimaa", sum := "681b902e6890476d95466c5f96e1b2210f54b831192bf77333c881fc02886cf9", func := "progeny/progenylaw23.FastMoves", spec := "fastMoves", unfollowed := true, recurses := true, apart := false }
def FastMovesSaid : Prop := fastMovesRow.holds Try.pinned (OpenSpec.ofChange fastMovesSpec)

/-- ITS FALSE NEIGHBOUR: 'it returns false'. Refute it at one input. -/
def fastMovesWrong : ChangeSpec := { name := "fastMoves", fn := fun _ => fun
  | [d1, d2] => { results := [.lit (.bool false)], args := [d1, d2] }
  | _ => none }
def FastMovesWrongFalsely : Prop := fastMovesRow.holds Try.pinned (OpenSpec.ofChange fastMovesWrong)

/-- 'progenylaw23.FastAreas': WHATEVER THE INPUT: true; the input reads as it did. -/
def fastAreasSpec : ChangeSpec := { name := "fastAreas", fn := fun _ => fun
  | [d1, d2, d3] => { results := [.lit (.bool true)], args := [d1, d2, d3] }
  | _ => none }
def fastAreasRow : OpenClaim := { program := "ytehcdcnghcbimaa", sum := "681b902e6890476d95466c5f96e1b2210f54b831192bf77333c881fc02886cf9", func := "progeny/progenylaw23.FastAreas", spec := "fastAreas", unfollowed := true, recurses := true, apart := false }
def FastAreasSaid : Prop := fastAreasRow.holds Try.pinned (OpenSpec.ofChange fastAreasSpec)

/-- ITS FALSE NEIGHBOUR: 'it returns false'. Refute it at one input. -/
def fastAreasWrong : ChangeSpec := { name := "fastAreas", fn := fun _ => fun
  | [d1, d2, d3] => { results := [.lit (.bool false)], args := [d1, d2, d3] }
  | _ => none }
def FastAreasWrongFalsely : Prop := fastAreasRow.holds Try.pinned (OpenSpec.ofChange fastAreasWrong)

/-- 'progenylaw23.FastNobody': WHATEVER THE INPUT: true; the input reads as it did. -/
def fastNobodySpec : ChangeSpec := { name := "fastNobody", fn := fun _ => fun
  | [d1, d2] => { results := [.lit (.bool true)], args := [d1, d2] }
  | _ => none }
def fastNobodyRow : OpenClaim := { program := "ytehcdcnghcbimaa", sum := "681b902e6890476d95466c5f96e1b2210f54b831192bf77333c881fc02886cf9", func := "progeny/progenylaw23.FastNobody", spec := "fastNobody", unfollowed := true, recurses := true, apart := false }
def FastNobodySaid : Prop := fastNobodyRow.holds Try.pinned (OpenSpec.ofChange fastNobodySpec)

/-- ITS FALSE NEIGHBOUR: 'it returns false'. Refute it at one input. -/
def fastNobodyWrong : ChangeSpec := { name := "fastNobody", fn := fun _ => fun
  | [d1, d2] => { results := [.lit (.bool false)], args := [d1, d2] }
  | _ => none }
def FastNobodyWrongFalsely : Prop := fastNobodyRow.holds Try.pinned (OpenSpec.ofChange fastNobodyWrong)

/- THE SECOND FORM. 'bulk': how many values and letters a reading holds, each counted each time it is reached (what is shared counts as often as it is met; a slice's spare places count too). A statement '..UptoSaid' is the law's where the arguments, and the package variables that the reading takes, are together of bulk at most 1048576: NARROWER than '..Said'. Prove '..Said' where nothing that the law and all that it calls make is longer than what came in: it says more and counts as full. Else prove '..UptoSaid'. A law counts once. -/
mutual
def uptoBulk {H : Type} : DataW H → Nat
  | .lit (.string bytes) => bytes.length + 1
  | .lit _ => 1
  | .nil => 1
  | .ptr d => uptoBulk d + 1
  | .slice elems spare => uptoBulkAll elems + uptoBulkAll spare + 1
  | .agg parts => uptoBulkAll parts + 1
  | .iface _ d => uptoBulk d + 1
  | .map entries => uptoBulkEntries entries + 1
  | .held _ => 1
def uptoBulkAll {H : Type} : List (DataW H) → Nat
  | [] => 0
  | d :: r => uptoBulk d + uptoBulkAll r
def uptoBulkEntries {H : Type} : List (Lit × DataW H) → Nat
  | [] => 0
  | x :: r => uptoBulkEntry x + uptoBulkEntries r
def uptoBulkEntry {H : Type} : Lit × DataW H → Nat
  | (.string bytes, d) => bytes.length + uptoBulk d + 1
  | (_, d) => uptoBulk d + 1
 end
def uptoSmall : (H : Type) → List (DataW H) → Bool := fun _ ds => decide (uptoBulkAll ds ≤ 1048576)
def OpenSpec.upto (s : _root_.Go.ChangeSpec) : _root_.Go.OpenSpec := { _root_.Go.OpenSpec.ofChange s with cond := some uptoSmall }

/-- 'progenylaw23.FastSyncs', WHERE WHAT IT READS IS OF BULK AT MOST 1048576: true; the input reads as it did. -/
def fastSyncsUptoRow : OpenClaim := { program := "ytehcdcnghcbimaa", sum := "681b902e6890476d95466c5f96e1b2210f54b831192bf77333c881fc02886cf9", func := "progeny/progenylaw23.FastSyncs", spec := "fastSyncs", unfollowed := true, recurses := true, apart := false, narrowed := true }
def FastSyncsUptoSaid : Prop := fastSyncsUptoRow.holds Try.pinned (OpenSpec.upto fastSyncsSpec)

/-- 'progenylaw23.FastCalls', WHERE WHAT IT READS IS OF BULK AT MOST 1048576: true; the input reads as it did. -/
def fastCallsUptoRow : OpenClaim := { program := "ytehcdcnghcbimaa", sum := "681b902e6890476d95466c5f96e1b2210f54b831192bf77333c881fc02886cf9", func := "progeny/progenylaw23.FastCalls", spec := "fastCalls", unfollowed := true, recurses := true, apart := false, narrowed := true }
def FastCallsUptoSaid : Prop := fastCallsUptoRow.holds Try.pinned (OpenSpec.upto fastCallsSpec)

/-- 'progenylaw23.FastApart', WHERE WHAT IT READS IS OF BULK AT MOST 1048576: true; the input reads as it did. -/
def fastApartUptoRow : OpenClaim := { program := "ytehcdcnghcbimaa", sum := "681b902e6890476d95466c5f96e1b2210f54b831192bf77333c881fc02886cf9", func := "progeny/progenylaw23.FastApart", spec := "fastApart", unfollowed := true, recurses := true, apart := false, narrowed := true }
def FastApartUptoSaid : Prop := fastApartUptoRow.holds Try.pinned (OpenSpec.upto fastApartSpec)

/-- 'progenylaw23.FastOrders', WHERE WHAT IT READS IS OF BULK AT MOST 1048576: true; the input reads as it did. -/
def fastOrdersUptoRow : OpenClaim := { program := "ytehcdcnghcbimaa", sum := "681b902e6890476d95466c5f96e1b2210f54b831192bf77333c881fc02886cf9", func := "progeny/progenylaw23.FastOrders", spec := "fastOrders", unfollowed := true, recurses := true, apart := false, narrowed := true }
def FastOrdersUptoSaid : Prop := fastOrdersUptoRow.holds Try.pinned (OpenSpec.upto fastOrdersSpec)

/-- 'progenylaw23.FastMoves', WHERE WHAT IT READS IS OF BULK AT MOST 1048576: true; the input reads as it did. -/
def fastMovesUptoRow : OpenClaim := { program := "ytehcdcnghcbimaa", sum := "681b902e6890476d95466c5f96e1b2210f54b831192bf77333c881fc02886cf9", func := "progeny/progenylaw23.FastMoves", spec := "fastMoves", unfollowed := true, recurses := true, apart := false, narrowed := true }
def FastMovesUptoSaid : Prop := fastMovesUptoRow.holds Try.pinned (OpenSpec.upto fastMovesSpec)

/-- 'progenylaw23.FastAreas', WHERE WHAT IT READS IS OF BULK AT MOST 1048576: true; the input reads as it did. -/
def fastAreasUptoRow : OpenClaim := { program := "ytehcdcnghcbimaa", sum := "681b902e6890476d95466c5f96e1b2210f54b831192bf77333c881fc02886cf9", func := "progeny/progenylaw23.FastAreas", spec := "fastAreas", unfollowed := true, recurses := true, apart := false, narrowed := true }
def FastAreasUptoSaid : Prop := fastAreasUptoRow.holds Try.pinned (OpenSpec.upto fastAreasSpec)

/-- 'progenylaw23.FastNobody', WHERE WHAT IT READS IS OF BULK AT MOST 1048576: true; the input reads as it did. -/
def fastNobodyUptoRow : OpenClaim := { program := "ytehcdcnghcbimaa", sum := "681b902e6890476d95466c5f96e1b2210f54b831192bf77333c881fc02886cf9", func := "progeny/progenylaw23.FastNobody", spec := "fastNobody", unfollowed := true, recurses := true, apart := false, narrowed := true }
def FastNobodyUptoSaid : Prop := fastNobodyUptoRow.holds Try.pinned (OpenSpec.upto fastNobodySpec)

end Rows
end Go.Proofs.Ytehcdcnghcbimaa
