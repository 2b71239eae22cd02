/- The law PlainValid is true. -/
import Derived.Test.YtcbmakanokmdjaaRv
set_option linter.unusedSimpArgs false
set_option linter.unusedVariables false
namespace Go.Proofs.Ytcbmakanokmdjaa.Code
open Go.Proofs.Ytcbmakanokmdjaa.Ev

theorem f3 (b : Base) (hb : b.Ok) (f g : List Item) (hf : f.length < 9223372036854775807) (hg : g.length < 9223372036854775807) : ∃ H', evC cprog 3 [eBase b, eItems f, eItems g] [] = some (.bool true, H') := by
  have h9 := fun f hf H => f9 b hb f hf H
  have h9f := h9 f hf
  have h9g := h9 g hg
  have h11 := f11 b hb f
  have h12 := f12 b hb f
  have h13 := f13 f g hf
  have h13' := f13 f f hf
  have h14 := f14 f g hf
  have h10 := f10
  have hsf : same f f = true := tell_pos rfl
  rw [hsf] at h13'
  simp only [eBase, bEr] at h9f h9g h11 h12
  rw [evC_fn at3]
  simp only [c3, eBase, cells_eItems, isTup_eItems, h9f, h9g, h10, h11, h12, h13, h13', h14, beq_self_eq_true, evX, Int.reduceEq, Int.reduceLT, Int.reduceLE, Nat.reduceMul, Nat.reduceMod, evW, fn_eq, evR, Nat.reduceAdd, Nat.reduceLT, Nat.reduceLeDiff, reduceIte, Nat.reduceEqDiff, reduceCtorEq, argEnv, eq_self, if_true, if_false]
  repeat' ((first | rw [guardK_cases] | rw [condK_bool] | rw [guardD_cases]); split <;> simp only [c3, eBase, cells_eItems, isTup_eItems, h9f, h9g, h10, h11, h12, h13, h13', h14, beq_self_eq_true, evX, Int.reduceEq, Int.reduceLT, Int.reduceLE, Nat.reduceMul, Nat.reduceMod, evW, evR, Nat.reduceAdd, Nat.reduceLT, Nat.reduceLeDiff, reduceIte, Nat.reduceEqDiff, reduceCtorEq, argEnv, eq_self, if_true, if_false, *])
  all_goals exact ⟨_, rfl⟩
end Go.Proofs.Ytcbmakanokmdjaa.Code
namespace Go.Proofs.Ytcbmakanokmdjaa.Pure
open Go.Proofs.Ytcbmakanokmdjaa.Ev Go.Proofs.Ytcbmakanokmdjaa.Code
theorem PlainValid (a0 : AV) (t0 : ArgTy true [.str, .int .i64, .sl [.str, .int .i64, .int .i64, .int .i64, .sl [.str, .int .i64, .int .i64], .int .i64, .bool, .bool], .sl [.str, .int .i64, .int .i64, .str]] a0)
    (a1 : AV) (t1 : ArgTy false [.sl [.int .i64, .str]] a1) (a2 : AV) (t2 : ArgTy false [.sl [.int .i64, .str]] a2) : ∃ H', evC cprog 3 [a0, a1, a2] [] = some (.bool true, H') := by
  obtain ⟨b, rfl, hb⟩ := open_Base t0
  obtain ⟨f, rfl, hf⟩ := open_Items t1
  obtain ⟨g, rfl, hg⟩ := open_Items t2
  exact f3 b hb f g hf hg
end Go.Proofs.Ytcbmakanokmdjaa.Pure
