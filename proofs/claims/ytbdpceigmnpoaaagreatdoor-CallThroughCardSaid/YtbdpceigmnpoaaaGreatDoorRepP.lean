/- strings.ReplaceAll of the bytes 00, as the evaluator sees it. -/
import Derived.Test.YtbdpceigmnpoaaaGreatDoorEvN
import Derived.Test.YtbdpceigmnpoaaaGreatDoorKeyM
set_option linter.unusedSimpArgs false
set_option linter.unusedVariables false
namespace Go.Proofs.YtbdpceigmnpoaaaGreatDoor.Ev

def pRepl (args : List AV) (H : Heap) : Option (List AV × Heap) :=
  match args with
  | [.str s, .str o, .str n] => if o.data = #[0] ∧ n.data = #[0, 255] ∧ s.size ≤ 1000000 then some ([.str ⟨(esc s.data.toList).toArray⟩], H) else none
  | _ => none
end Go.Proofs.YtbdpceigmnpoaaaGreatDoor.Ev
