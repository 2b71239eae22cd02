/- strings.IndexByte and strings.Compare, as the evaluator sees them. -/
import Derived.Test.YtbdpceigmnpoaaaGreatDoorEvN
import Derived.Lib.Bytealg
set_option linter.unusedSimpArgs false
set_option linter.unusedVariables false
namespace Go.Proofs.YtbdpceigmnpoaaaGreatDoor.Ev

def pIdx (args : List AV) (H : Heap) : Option (List AV × Heap) :=
  match args with
  | [.str s, .int .u8 c] => some ([.int .i64 (Lib.indexByte s.data.toList c.toNat.toUInt8)], H)
  | _ => none
def pCmp (args : List AV) (H : Heap) : Option (List AV × Heap) :=
  match args with
  | [.str a, .str b] => some ([.int .i64 (Lib.compareBytes a.data.toList b.data.toList)], H)
  | _ => none
end Go.Proofs.YtbdpceigmnpoaaaGreatDoor.Ev
