/- strings.Repeat, as the evaluator sees it. -/
import Derived.Test.YtondenmkhfignaaEvN
import Derived.Lib.Repeat
set_option linter.unusedSimpArgs false
set_option linter.unusedVariables false
namespace Go.Proofs.Ytondenmkhfignaa.Ev

def pRpt (args : List AV) (H : Heap) : Option (List AV × Heap) :=
  match args with
  | [.str s, .int .i64 c] => if 0 ≤ c ∧ s.size * c.toNat ≤ 1000000 ∧ c ≤ 1000000 then some ([.str ⟨(Lib.repeatL s.data.toList c.toNat).toArray⟩], H) else none
  | _ => none
end Go.Proofs.Ytondenmkhfignaa.Ev
