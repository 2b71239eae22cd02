/- The law PageReads. -/
import Derived.Test.YthgcnlmmgilhjaaPi
set_option linter.unusedSimpArgs false
set_option linter.unusedVariables false
namespace Go.Proofs.Ythgcnlmmgilhjaa.Code
open Go.Proofs.Ythgcnlmmgilhjaa.Ev Go.RowKit

theorem f4 (p : List Nat) (hp : Page p) (a n : Int) (b : List Nat) (hb : Page b) (H : Heap) : ∃ H', evFn (evC cprog) itLim c4 [eB p, .agg [.int .i64 a, .int .i64 n], eB b] H = some (.bool true, H') := by
  have h1 := (sB H p).len
  have h2 := (sB H b).len
  simp only [List.length_map] at h1 h2
  have h22 := fun H => f22 p hp a n H
  have h23 := fun H => f23 p hp a n H
  have h24 := fun H => f24 p hp a n H
  have h25 := fun H => f25 p hp a n H
  have h26 := fun H => f26 p hp a b hb.len H
  have h27 := fun H => f27 p hp a b hb.len H
  have hbb : ∀ b : Bool, (b == b) = true := fun b => by cases b <;> rfl
  simp only [c4, h1, h2, f8, h22, h23, h24, h25, h26, h27, b2s_B, hbb, beq_self_eq_true, evX, Int.reduceEq, Int.reduceLT, Int.reduceLE, Nat.reduceMul, Nat.reduceMod, evW, fn_eq, evR, Nat.reduceAdd, Nat.reduceLT, Nat.reduceLeDiff, reduceIte, Nat.reduceEqDiff, reduceCtorEq, argEnv, eq_self, if_true, if_false]
  repeat' (first | (rw [guardK_cases]; split <;> simp only [c4, h1, h2, f8, h22, h23, h24, h25, h26, h27, b2s_B, hbb, beq_self_eq_true, evX, Int.reduceEq, Int.reduceLT, Int.reduceLE, Nat.reduceMul, Nat.reduceMod, evW, evR, Nat.reduceAdd, Nat.reduceLT, Nat.reduceLeDiff, reduceIte, Nat.reduceEqDiff, reduceCtorEq, argEnv, eq_self, if_true, if_false, *]) | (rw [condK_bool]; split <;> simp only [c4, h1, h2, f8, h22, h23, h24, h25, h26, h27, b2s_B, hbb, beq_self_eq_true, evX, Int.reduceEq, Int.reduceLT, Int.reduceLE, Nat.reduceMul, Nat.reduceMod, evW, evR, Nat.reduceAdd, Nat.reduceLT, Nat.reduceLeDiff, reduceIte, Nat.reduceEqDiff, reduceCtorEq, argEnv, eq_self, if_true, if_false, *]) | (rw [guardD_cases]; split <;> simp only [c4, h1, h2, f8, h22, h23, h24, h25, h26, h27, b2s_B, hbb, beq_self_eq_true, evX, Int.reduceEq, Int.reduceLT, Int.reduceLE, Nat.reduceMul, Nat.reduceMod, evW, evR, Nat.reduceAdd, Nat.reduceLT, Nat.reduceLeDiff, reduceIte, Nat.reduceEqDiff, reduceCtorEq, argEnv, eq_self, if_true, if_false, *]))
  all_goals exact ⟨_, rfl⟩
theorem open_span {x : AV} (h : ArgTy true [.int .i64, .int .i64] x) : ∃ a n : Int, x = .agg [.int .i64 a, .int .i64 n] := by
  obtain ⟨bs, rfl, h⟩ := h
  simp only [HasL.eq_2, HasL.eq_1, Has] at h
  obtain ⟨x, xs, rfl, ⟨a, rfl, _⟩, y, ys, rfl, ⟨n, rfl, _⟩, rfl⟩ := h
  exact ⟨a, n, rfl⟩
end Go.Proofs.Ythgcnlmmgilhjaa.Code
namespace Go.Proofs.Ythgcnlmmgilhjaa.Pure
open Go.Proofs.Ythgcnlmmgilhjaa.Ev Go.Proofs.Ythgcnlmmgilhjaa.Code Go.RowKit
theorem PageReads (a0 : AV) (t0 : ArgTy false [.sl [.int .u8]] a0) (a1 : AV) (t1 : ArgTy true [.int .i64, .int .i64] a1) (a2 : AV) (t2 : ArgTy false [.sl [.int .u8]] a2) : ∃ H', evC cprog 4 [a0, a1, a2] [] = some (.bool true, H') := by
  obtain ⟨p, rfl, hp⟩ := open_page t0
  obtain ⟨a, n, rfl⟩ := open_span t1
  obtain ⟨b, rfl, hb⟩ := open_page t2
  rw [evC_fn at4]
  exact f4 p hp a n b hb []
end Go.Proofs.Ythgcnlmmgilhjaa.Pure
