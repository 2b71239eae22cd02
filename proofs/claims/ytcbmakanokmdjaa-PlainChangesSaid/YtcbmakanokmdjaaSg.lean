/- The law PlainChanges is true. -/
import Derived.Test.YtcbmakanokmdjaaSf
set_option linter.unusedSimpArgs false
set_option linter.unusedVariables false
namespace Go.Proofs.Ytcbmakanokmdjaa.Code
open Go.Proofs.Ytcbmakanokmdjaa.Ev Go.RowKit

theorem open_Put {a : AV} (h : ArgTy true [.int .i64, .int .i64, .int .i64, .str] a) : ∃ (p t o : Int) (d : ByteArray), a = .agg [.int .i64 p, .int .i64 t, .int .i64 o, .str d] := by
  obtain ⟨bs, rfl, h⟩ := h
  simp only [HasL.eq_2, HasL.eq_1, Has] at h
  obtain ⟨_, _, rfl, ⟨p, rfl, _⟩, _, _, rfl, ⟨t, rfl, _⟩, _, _, rfl, ⟨o, rfl, _⟩, _, _, rfl, ⟨d, rfl, _⟩, rfl⟩ := h
  exact ⟨p, t, o, d, rfl⟩
theorem small_len {b : Base} {f : List Item} (h : small b f = true) : f.length ≤ 60 := by
  simp only [small, Bool.and_eq_true, decide_eq_true_eq] at h
  omega
theorem delR_len (b : Base) (f : List Item) (i : Int) : (delR b f i).length ≤ 2 * f.length := by
  unfold delR
  split
  · rw [List.length_append, List.length_take, List.length_drop]; omega
  · simp
theorem repL_len (b : Base) (f : List Item) (i : Int) (d : ByteArray) : (repL b f i d).length ≤ f.length := by
  unfold repL
  split <;> simp
theorem f4 (b : Base) (hb : b.Ok) (f : List Item) (hf : f.length < 9223372036854775807) (p t i : Int) (d : ByteArray) : ∃ H', evC cprog 4 [eBase b, eItems f, .agg [.int .i64 p, .int .i64 t, .int .i64 i, .str d]] [] = some (.bool true, H') := by
  have h9 := f9 b hb f hf
  have h10 := f10
  have h15 := f15 b hb f hf i
  have h16 := f16 b hb f hf i
  have h17 := f17 b hb f hf i d
  have h18 := f18 b hb f hf i d
  simp only [eBase, eLE] at h9 h15 h16 h17 h18
  rw [evC_fn at4]
  cases hs : small b f with
  | false =>
    simp only [c4, eBase, cells_eItems, isTup_eItems, h9, h10, hs, evX, Int.reduceEq, Int.reduceLT, Int.reduceLE, Nat.reduceMul, Nat.reduceMod, evW, fn_eq, evR, Nat.reduceAdd, Nat.reduceLT, Nat.reduceLeDiff, reduceIte, Nat.reduceEqDiff, reduceCtorEq, argEnv, eq_self, if_true, if_false]
    repeat' ((first | rw [guardK_cases] | rw [condK_bool] | rw [guardD_cases]); split <;> simp only [c4, eBase, cells_eItems, isTup_eItems, h9, h10, hs, evX, Int.reduceEq, Int.reduceLT, Int.reduceLE, Nat.reduceMul, Nat.reduceMod, evW, evR, Nat.reduceAdd, Nat.reduceLT, Nat.reduceLeDiff, reduceIte, Nat.reduceEqDiff, reduceCtorEq, argEnv, eq_self, if_true, if_false, *])
    exact ⟨_, rfl⟩
  | true =>
    have hl := small_len hs
    have hsame1 : same (delR b f i) (delR b f i) = true := tell_pos rfl
    have hsame2 : same (repL b f i d) (repL b f i d) = true := tell_pos rfl
    have h14a := f14 (delR b f i) (delR b f i) (by have := delR_len b f i; omega)
    have h14b := f14 (repL b f i d) (repL b f i d) (by have := repL_len b f i d; omega)
    rw [hsame1] at h14a
    rw [hsame2] at h14b
    simp only [c4, eBase, cells_eItems, isTup_eItems, h9, h10, hs, h15, h16, h17, h18, h14a, h14b, evX, Int.reduceEq, Int.reduceLT, Int.reduceLE, Nat.reduceMul, Nat.reduceMod, evW, fn_eq, evR, Nat.reduceAdd, Nat.reduceLT, Nat.reduceLeDiff, reduceIte, Nat.reduceEqDiff, reduceCtorEq, argEnv, eq_self, if_true, if_false]
    repeat' ((first | rw [guardK_cases] | rw [condK_bool] | rw [guardD_cases]); split <;> simp only [c4, eBase, cells_eItems, isTup_eItems, h9, h10, hs, h15, h16, h17, h18, h14a, h14b, evX, Int.reduceEq, Int.reduceLT, Int.reduceLE, Nat.reduceMul, Nat.reduceMod, evW, evR, Nat.reduceAdd, Nat.reduceLT, Nat.reduceLeDiff, reduceIte, Nat.reduceEqDiff, reduceCtorEq, argEnv, eq_self, if_true, if_false, *])
    all_goals exact ⟨_, rfl⟩
end Go.Proofs.Ytcbmakanokmdjaa.Code
namespace Go.Proofs.Ytcbmakanokmdjaa.Pure
open Go.Proofs.Ytcbmakanokmdjaa.Ev Go.Proofs.Ytcbmakanokmdjaa.Code
theorem PlainChanges (a0 : AV) (t0 : ArgTy true [.str, .int .i64, .sl [.str, .int .i64, .int .i64, .int .i64, .sl [.str, .int .i64, .int .i64], .int .i64, .bool, .bool], .sl [.str, .int .i64, .int .i64, .str]] a0)
    (a1 : AV) (t1 : ArgTy false [.sl [.int .i64, .str]] a1) (a2 : AV) (t2 : ArgTy true [.int .i64, .int .i64, .int .i64, .str] a2) : ∃ H', evC cprog 4 [a0, a1, a2] [] = some (.bool true, H') := by
  obtain ⟨b, rfl, hb⟩ := open_Base t0
  obtain ⟨f, rfl, hf⟩ := open_Items t1
  obtain ⟨p, t, o, d, rfl⟩ := open_Put t2
  exact f4 b hb f hf p t o d
end Go.Proofs.Ytcbmakanokmdjaa.Pure
