/-
  No cell of these rows narrows 'for every input' (looked for: loops, veiled, ifaces, maps, wideKeys, modest, calm, conditions, laid).
  DERIVED. THE GIVEN ROWS OF THIS SEAT. 6 by the template 'for every input the law returns true; each argument reads behind the call as it read before'; 0 by the template 'total and deterministic' (their statements: YtbchmbddcdionaaTotals.lean).
  GIVEN WITH THE SEED: the statements are not yours to turn. If you find one false, say at which input.
  Laid BY PROGRAM, IN A SANDBOX (cutbox-rows.mjs): the forced cells as the released guide's own fill.sh prints them over the translation 64c4099622bda148… (all of the seat's roots in one cut). By AI agents, Wed Nov 11 2026. No macro, syntax, notation, axiom, sorry.
-/
import Derived.Test.YtbchmbddcdionaaChecked
import GoSem.Claim
import GoSem.ClaimJoined
import GoSem.ClaimMapViews
import Derived.JoinedTies
import Derived.KernelRfl
namespace Go.Proofs.Ytbchmbddcdionaa
/- THE CELL 'sum', in the pinned program and in every row, IS THE sha256 OF THE DUMP (.gsa) THAT YtbchmbddcdionaaProg.lean LOADS. Nothing in Lean hashes anything: it is a label: what it is worth is what the hold of that sum in a sandbox is worth. -/
noncomputable def Try.pinned : Pinned := { name := "ytbchmbddcdionaa", sum := "64c4099622bda148c8158ba08de2566598b43075688f2a1f36f4e36891d58d0c", checked := Try.checked }
namespace Rows
def none {H : Type} : Left H := { results := [], args := [] }

/-- 'progenylaw19.LogicDeletes': WHATEVER THE INPUT: true; the input reads as it did. -/
def logicDeletesSpec : ChangeSpec := { name := "logicDeletes", fn := fun _ => fun
  | [d1, d2] => { results := [.lit (.bool true)], args := [d1, d2] }
  | _ => none }
def logicDeletesRow : OpenClaim := { program := "ytbchmbddcdionaa", sum := "64c4099622bda148c8158ba08de2566598b43075688f2a1f36f4e36891d58d0c", func := "progeny/progenylaw19.LogicDeletes", spec := "logicDeletes", unfollowed := true, recurses := true, apart := false }
def LogicDeletesSaid : Prop := logicDeletesRow.holds Try.pinned (OpenSpec.ofChange logicDeletesSpec)

/-- ITS FALSE NEIGHBOUR: 'it returns false'. Refute it at one input. -/
def logicDeletesWrong : ChangeSpec := { name := "logicDeletes", fn := fun _ => fun
  | [d1, d2] => { results := [.lit (.bool false)], args := [d1, d2] }
  | _ => none }
def LogicDeletesWrongFalsely : Prop := logicDeletesRow.holds Try.pinned (OpenSpec.ofChange logicDeletesWrong)

/-- 'progenylaw19.LogicAgrees': WHATEVER THE INPUT: true; the input reads as it did. -/
def logicAgreesSpec : ChangeSpec := { name := "logicAgrees", fn := fun _ => fun
  | [d] => { results := [.lit (.bool true)], args := [d] }
  | _ => none }
def logicAgreesRow : OpenClaim := { program := "ytbchmbddcdionaa", sum := "64c4099622bda148c8158ba08de2566598b43075688f2a1f36f4e36891d58d0c", func := "progeny/progenylaw19.LogicAgrees", spec := "logicAgrees", unfollowed := true, recurses := true, apart := false }
def LogicAgreesSaid : Prop := logicAgreesRow.holds Try.pinned (OpenSpec.ofChange logicAgreesSpec)

/-- ITS FALSE NEIGHBOUR: 'it returns false'. Refute it at one input. -/
def logicAgreesWrong : ChangeSpec := { name := "logicAgrees", fn := fun _ => fun
  | [d] => { results := [.lit (.bool false)], args := [d] }
  | _ => none }
def LogicAgreesWrongFalsely : Prop := logicAgreesRow.holds Try.pinned (OpenSpec.ofChange logicAgreesWrong)

/-- 'progenylaw19.LogicBoth': WHATEVER THE INPUT: true; the input reads as it did. -/
def logicBothSpec : ChangeSpec := { name := "logicBoth", fn := fun _ => fun
  | [d] => { results := [.lit (.bool true)], args := [d] }
  | _ => none }
def logicBothRow : OpenClaim := { program := "ytbchmbddcdionaa", sum := "64c4099622bda148c8158ba08de2566598b43075688f2a1f36f4e36891d58d0c", func := "progeny/progenylaw19.LogicBoth", spec := "logicBoth", unfollowed := true, recurses := true, apart := false }
def LogicBothSaid : Prop := logicBothRow.holds Try.pinned (OpenSpec.ofChange logicBothSpec)

/-- ITS FALSE NEIGHBOUR: 'it returns false'. Refute it at one input. -/
def logicBothWrong : ChangeSpec := { name := "logicBoth", fn := fun _ => fun
  | [d] => { results := [.lit (.bool false)], args := [d] }
  | _ => none }
def LogicBothWrongFalsely : Prop := logicBothRow.holds Try.pinned (OpenSpec.ofChange logicBothWrong)

/-- 'progenylaw19.LogicParents': WHATEVER THE INPUT: true; the input reads as it did. -/
def logicParentsSpec : ChangeSpec := { name := "logicParents", fn := fun _ => fun
  | [d1, d2] => { results := [.lit (.bool true)], args := [d1, d2] }
  | _ => none }
def logicParentsRow : OpenClaim := { program := "ytbchmbddcdionaa", sum := "64c4099622bda148c8158ba08de2566598b43075688f2a1f36f4e36891d58d0c", func := "progeny/progenylaw19.LogicParents", spec := "logicParents", unfollowed := true, recurses := true, apart := false }
def LogicParentsSaid : Prop := logicParentsRow.holds Try.pinned (OpenSpec.ofChange logicParentsSpec)

/-- ITS FALSE NEIGHBOUR: 'it returns false'. Refute it at one input. -/
def logicParentsWrong : ChangeSpec := { name := "logicParents", fn := fun _ => fun
  | [d1, d2] => { results := [.lit (.bool false)], args := [d1, d2] }
  | _ => none }
def LogicParentsWrongFalsely : Prop := logicParentsRow.holds Try.pinned (OpenSpec.ofChange logicParentsWrong)

/-- 'progenylaw19.LogicJoins': WHATEVER THE INPUT: true; the input reads as it did. -/
def logicJoinsSpec : ChangeSpec := { name := "logicJoins", fn := fun _ => fun
  | [d1, d2] => { results := [.lit (.bool true)], args := [d1, d2] }
  | _ => none }
def logicJoinsRow : OpenClaim := { program := "ytbchmbddcdionaa", sum := "64c4099622bda148c8158ba08de2566598b43075688f2a1f36f4e36891d58d0c", func := "progeny/progenylaw19.LogicJoins", spec := "logicJoins", unfollowed := true, recurses := true, apart := false }
def LogicJoinsSaid : Prop := logicJoinsRow.holds Try.pinned (OpenSpec.ofChange logicJoinsSpec)

/-- ITS FALSE NEIGHBOUR: 'it returns false'. Refute it at one input. -/
def logicJoinsWrong : ChangeSpec := { name := "logicJoins", fn := fun _ => fun
  | [d1, d2] => { results := [.lit (.bool false)], args := [d1, d2] }
  | _ => none }
def LogicJoinsWrongFalsely : Prop := logicJoinsRow.holds Try.pinned (OpenSpec.ofChange logicJoinsWrong)

/-- 'progenylaw19.LogicRules': WHATEVER THE INPUT: true; the input reads as it did. -/
def logicRulesSpec : ChangeSpec := { name := "logicRules", fn := fun _ => fun
  | [d1, d2, d3] => { results := [.lit (.bool true)], args := [d1, d2, d3] }
  | _ => none }
def logicRulesRow : OpenClaim := { program := "ytbchmbddcdionaa", sum := "64c4099622bda148c8158ba08de2566598b43075688f2a1f36f4e36891d58d0c", func := "progeny/progenylaw19.LogicRules", spec := "logicRules", inPlace := ["slices.overlaps[progeny/api.Item]"], unfollowed := true, recurses := true, apart := false }
def LogicRulesSaid : Prop := logicRulesRow.holds Try.pinned (OpenSpec.ofChange logicRulesSpec)

/-- ITS FALSE NEIGHBOUR: 'it returns false'. Refute it at one input. -/
def logicRulesWrong : ChangeSpec := { name := "logicRules", fn := fun _ => fun
  | [d1, d2, d3] => { results := [.lit (.bool false)], args := [d1, d2, d3] }
  | _ => none }
def LogicRulesWrongFalsely : Prop := logicRulesRow.holds Try.pinned (OpenSpec.ofChange logicRulesWrong)

/- THE SECOND FORM. 'bulk': how many values and letters a reading holds, each counted each time it is reached (what is shared counts as often as it is met; a slice's spare places count too). A statement '..UptoSaid' is the law's where the arguments, and the package variables that the reading takes, are together of bulk at most 1048576: NARROWER than '..Said'. Prove '..Said' where nothing that the law and all that it calls make is longer than what came in: it says more and counts as full. Else prove '..UptoSaid'. A law counts once. -/
mutual
def uptoBulk {H : Type} : DataW H → Nat
  | .lit (.string bytes) => bytes.length + 1
  | .lit _ => 1
  | .nil => 1
  | .ptr d => uptoBulk d + 1
  | .slice elems spare => uptoBulkAll elems + uptoBulkAll spare + 1
  | .agg parts => uptoBulkAll parts + 1
  | .iface _ d => uptoBulk d + 1
  | .map entries => uptoBulkEntries entries + 1
  | .held _ => 1
def uptoBulkAll {H : Type} : List (DataW H) → Nat
  | [] => 0
  | d :: r => uptoBulk d + uptoBulkAll r
def uptoBulkEntries {H : Type} : List (Lit × DataW H) → Nat
  | [] => 0
  | x :: r => uptoBulkEntry x + uptoBulkEntries r
def uptoBulkEntry {H : Type} : Lit × DataW H → Nat
  | (.string bytes, d) => bytes.length + uptoBulk d + 1
  | (_, d) => uptoBulk d + 1
 end
def uptoSmall : (H : Type) → List (DataW H) → Bool := fun _ ds => decide (uptoBulkAll ds ≤ 1048576)
def OpenSpec.upto (s : _root_.Go.ChangeSpec) : _root_.Go.OpenSpec := { _root_.Go.OpenSpec.ofChange s with cond := some uptoSmall }

/-- 'progenylaw19.LogicDeletes', WHERE WHAT IT READS IS OF BULK AT MOST 1048576: true; the input reads as it did. -/
def logicDeletesUptoRow : OpenClaim := { program := "ytbchmbddcdionaa", sum := "64c4099622bda148c8158ba08de2566598b43075688f2a1f36f4e36891d58d0c", func := "progeny/progenylaw19.LogicDeletes", spec := "logicDeletes", unfollowed := true, recurses := true, apart := false, narrowed := true }
def LogicDeletesUptoSaid : Prop := logicDeletesUptoRow.holds Try.pinned (OpenSpec.upto logicDeletesSpec)

/-- 'progenylaw19.LogicAgrees', WHERE WHAT IT READS IS OF BULK AT MOST 1048576: true; the input reads as it did. -/
def logicAgreesUptoRow : OpenClaim := { program := "ytbchmbddcdionaa", sum := "64c4099622bda148c8158ba08de2566598b43075688f2a1f36f4e36891d58d0c", func := "progeny/progenylaw19.LogicAgrees", spec := "logicAgrees", unfollowed := true, recurses := true, apart := false, narrowed := true }
def LogicAgreesUptoSaid : Prop := logicAgreesUptoRow.holds Try.pinned (OpenSpec.upto logicAgreesSpec)

/-- 'progenylaw19.LogicBoth', WHERE WHAT IT READS IS OF BULK AT MOST 1048576: true; the input reads as it did. -/
def logicBothUptoRow : OpenClaim := { program := "ytbchmbddcdionaa", sum := "64c4099622bda148c8158ba08de2566598b43075688f2a1f36f4e36891d58d0c", func := "progeny/progenylaw19.LogicBoth", spec := "logicBoth", unfollowed := true, recurses := true, apart := false, narrowed := true }
def LogicBothUptoSaid : Prop := logicBothUptoRow.holds Try.pinned (OpenSpec.upto logicBothSpec)

/-- 'progenylaw19.LogicParents', WHERE WHAT IT READS IS OF BULK AT MOST 1048576: true; the input reads as it did. -/
def logicParentsUptoRow : OpenClaim := { program := "ytbchmbddcdionaa", sum := "64c4099622bda148c8158ba08de2566598b43075688f2a1f36f4e36891d58d0c", func := "progeny/progenylaw19.LogicParents", spec := "logicParents", unfollowed := true, recurses := true, apart := false, narrowed := true }
def LogicParentsUptoSaid : Prop := logicParentsUptoRow.holds Try.pinned (OpenSpec.upto logicParentsSpec)

/-- 'progenylaw19.LogicJoins', WHERE WHAT IT READS IS OF BULK AT MOST 1048576: true; the input reads as it did. -/
def logicJoinsUptoRow : OpenClaim := { program := "ytbchmbddcdionaa", sum := "64c4099622bda148c8158ba08de2566598b43075688f2a1f36f4e36891d58d0c", func := "progeny/progenylaw19.LogicJoins", spec := "logicJoins", unfollowed := true, recurses := true, apart := false, narrowed := true }
def LogicJoinsUptoSaid : Prop := logicJoinsUptoRow.holds Try.pinned (OpenSpec.upto logicJoinsSpec)

/-- 'progenylaw19.LogicRules', WHERE WHAT IT READS IS OF BULK AT MOST 1048576: true; the input reads as it did. -/
def logicRulesUptoRow : OpenClaim := { program := "ytbchmbddcdionaa", sum := "64c4099622bda148c8158ba08de2566598b43075688f2a1f36f4e36891d58d0c", func := "progeny/progenylaw19.LogicRules", spec := "logicRules", inPlace := ["slices.overlaps[progeny/api.Item]"], unfollowed := true, recurses := true, apart := false, narrowed := true }
def LogicRulesUptoSaid : Prop := logicRulesUptoRow.holds Try.pinned (OpenSpec.upto logicRulesSpec)

end Rows
end Go.Proofs.Ytbchmbddcdionaa
