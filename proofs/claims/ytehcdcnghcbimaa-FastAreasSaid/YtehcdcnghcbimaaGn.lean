/- The law FastNobody. -/
import Derived.Test.YtehcdcnghcbimaaGm
set_option linter.unusedSimpArgs false
set_option linter.unusedVariables false
namespace Go.Proofs.Ytehcdcnghcbimaa.Code
open Go.Proofs.Ytehcdcnghcbimaa.Ev Go.RowKit

theorem f9 (d : Int) (i n : Int) (s : ByteArray) (zero : Bool) (H : Heap) : ∃ H', evFn (evC cprog) itLim c9 [.agg [.int .u8 d, .int .i64 i, .int .i64 n, .str s], .bool zero] H = some (.bool true, H') := by
  cases zero with
  | false =>
    obtain ⟨b, v, X, h30⟩ := f30_21 (H ++ [⟨0, true, 63, 4, [[.int .u8 d, .int .i64 i, .int .i64 n, .str s]]⟩])
    simp only [evR, Nat.reduceAdd, Nat.reduceLT, Nat.reduceLeDiff, reduceIte, Nat.reduceEqDiff, reduceCtorEq, argEnv, eq_self, if_true, if_false] at h30
    obtain ⟨K, hK⟩ : ∃ K : Heap, K = ⟨0, true, 63, 4, [[.int .u8 d, .int .i64 i, .int .i64 n, .str s]]⟩ :: ⟨0, true, 72, 1, [[.ref b v 1 0 2]]⟩ :: X := ⟨_, rfl⟩
    rw [← hK] at h30
    have hK0 : K[0]? = some ⟨0, true, 63, 4, [[.int .u8 d, .int .i64 i, .int .i64 n, .str s]]⟩ := by rw [hK]; rfl
    have ha : NoneAt (H ++ K) .nilptr := .inl rfl
    have hs := f63S (tA := 72) (H ++ K) (H.length + 1) b v 2 (by decide) (by rw [hK]; simp only [evR, Nat.reduceAdd, Nat.reduceLT, Nat.reduceLeDiff, reduceIte, Nat.reduceEqDiff, reduceCtorEq, argEnv, eq_self, if_true, if_false])
    have k1 := f32N ha n
    have k2 := f34N ha n s
    have k3 := f36N ha i n
    have k4 := f38N ha i
    have k5 := f40N ha n
    have k6 := f42NN ha ha
    have k6' := f42NN ha (.inl rfl)
    have k7 := f42NS ha hs
    have k8 := f42SN ha hs
    have k9 := f11 (H ++ K)
    simp only [c9, h30, hK0, k1, k2, k3, k4, k5, k6, k6', k7, k8, k9, evX, Int.reduceEq, Int.reduceLT, Int.reduceLE, Nat.reduceMul, Nat.reduceMod, evW, fn_eq, evR, Nat.reduceAdd, Nat.reduceLT, Nat.reduceLeDiff, reduceIte, Nat.reduceEqDiff, reduceCtorEq, argEnv, eq_self, if_true, if_false]
    repeat' (first | (rw [guardK_cases]; split <;> simp only [c9, h30, hK0, k1, k2, k3, k4, k5, k6, k6', k7, k8, k9, evX, Int.reduceEq, Int.reduceLT, Int.reduceLE, Nat.reduceMul, Nat.reduceMod, evW, evR, Nat.reduceAdd, Nat.reduceLT, Nat.reduceLeDiff, reduceIte, Nat.reduceEqDiff, reduceCtorEq, argEnv, eq_self, if_true, if_false, *]) | (rw [condK_bool]; split <;> simp only [c9, h30, hK0, k1, k2, k3, k4, k5, k6, k6', k7, k8, k9, evX, Int.reduceEq, Int.reduceLT, Int.reduceLE, Nat.reduceMul, Nat.reduceMod, evW, evR, Nat.reduceAdd, Nat.reduceLT, Nat.reduceLeDiff, reduceIte, Nat.reduceEqDiff, reduceCtorEq, argEnv, eq_self, if_true, if_false, *]) | (rw [guardD_cases]; split <;> simp only [c9, h30, hK0, k1, k2, k3, k4, k5, k6, k6', k7, k8, k9, evX, Int.reduceEq, Int.reduceLT, Int.reduceLE, Nat.reduceMul, Nat.reduceMod, evW, evR, Nat.reduceAdd, Nat.reduceLT, Nat.reduceLeDiff, reduceIte, Nat.reduceEqDiff, reduceCtorEq, argEnv, eq_self, if_true, if_false, *]))
    exact ⟨_, rfl⟩
  | true =>
    obtain ⟨b, v, X, h30⟩ := f30_21 (H ++ [⟨0, true, 63, 4, [[.int .u8 d, .int .i64 i, .int .i64 n, .str s]]⟩, ⟨0, true, 72, 1, [[.nils]]⟩])
    simp only [evR, Nat.reduceAdd, Nat.reduceLT, Nat.reduceLeDiff, reduceIte, Nat.reduceEqDiff, reduceCtorEq, argEnv, eq_self, if_true, if_false] at h30
    obtain ⟨K, hK⟩ : ∃ K : Heap, K = ⟨0, true, 63, 4, [[.int .u8 d, .int .i64 i, .int .i64 n, .str s]]⟩ :: ⟨0, true, 72, 1, [[.nils]]⟩ :: ⟨0, true, 72, 1, [[.ref b v 1 0 2]]⟩ :: X := ⟨_, rfl⟩
    rw [← hK] at h30
    have hK0 : K[0]? = some ⟨0, true, 63, 4, [[.int .u8 d, .int .i64 i, .int .i64 n, .str s]]⟩ := by rw [hK]; rfl
    have ha : NoneAt (H ++ K) (.ptr (H.length + 1) 0 1 0 0) := .inr ⟨_, rfl, fun Y => by rw [hK]; simp only [evR, Nat.reduceAdd, Nat.reduceLT, Nat.reduceLeDiff, reduceIte, Nat.reduceEqDiff, reduceCtorEq, argEnv, eq_self, if_true, if_false]⟩
    have hs := f63S (tA := 72) (H ++ K) (H.length + 2) b v 2 (by decide) (by rw [hK]; simp only [evR, Nat.reduceAdd, Nat.reduceLT, Nat.reduceLeDiff, reduceIte, Nat.reduceEqDiff, reduceCtorEq, argEnv, eq_self, if_true, if_false])
    have k1 := f32N ha n
    have k2 := f34N ha n s
    have k3 := f36N ha i n
    have k4 := f38N ha i
    have k5 := f40N ha n
    have k6 := f42NN ha ha
    have k6' := f42NN ha (.inl rfl)
    have k7 := f42NS ha hs
    have k8 := f42SN ha hs
    have k9 := f11 (H ++ K)
    simp only [c9, h30, hK0, k1, k2, k3, k4, k5, k6, k6', k7, k8, k9, evX, Int.reduceEq, Int.reduceLT, Int.reduceLE, Nat.reduceMul, Nat.reduceMod, evW, fn_eq, evR, Nat.reduceAdd, Nat.reduceLT, Nat.reduceLeDiff, reduceIte, Nat.reduceEqDiff, reduceCtorEq, argEnv, eq_self, if_true, if_false]
    repeat' (first | (rw [guardK_cases]; split <;> simp only [c9, h30, hK0, k1, k2, k3, k4, k5, k6, k6', k7, k8, k9, evX, Int.reduceEq, Int.reduceLT, Int.reduceLE, Nat.reduceMul, Nat.reduceMod, evW, evR, Nat.reduceAdd, Nat.reduceLT, Nat.reduceLeDiff, reduceIte, Nat.reduceEqDiff, reduceCtorEq, argEnv, eq_self, if_true, if_false, *]) | (rw [condK_bool]; split <;> simp only [c9, h30, hK0, k1, k2, k3, k4, k5, k6, k6', k7, k8, k9, evX, Int.reduceEq, Int.reduceLT, Int.reduceLE, Nat.reduceMul, Nat.reduceMod, evW, evR, Nat.reduceAdd, Nat.reduceLT, Nat.reduceLeDiff, reduceIte, Nat.reduceEqDiff, reduceCtorEq, argEnv, eq_self, if_true, if_false, *]) | (rw [guardD_cases]; split <;> simp only [c9, h30, hK0, k1, k2, k3, k4, k5, k6, k6', k7, k8, k9, evX, Int.reduceEq, Int.reduceLT, Int.reduceLE, Nat.reduceMul, Nat.reduceMod, evW, evR, Nat.reduceAdd, Nat.reduceLT, Nat.reduceLeDiff, reduceIte, Nat.reduceEqDiff, reduceCtorEq, argEnv, eq_self, if_true, if_false, *]))
    exact ⟨_, rfl⟩
theorem open_act {x : AV} (h : ArgTy true [.int .u8, .int .i64, .int .i64, .str] x) : ∃ (d i n : Int) (s : ByteArray), x = .agg [.int .u8 d, .int .i64 i, .int .i64 n, .str s] := by
  obtain ⟨bs, rfl, h⟩ := h
  simp only [HasL.eq_2, HasL.eq_1, Has] at h
  obtain ⟨x, xs, rfl, ⟨d, rfl, _⟩, y, ys, rfl, ⟨i, rfl, _⟩, z, zs, rfl, ⟨n, rfl, _⟩, w, ws, rfl, ⟨s, rfl, _⟩, rfl⟩ := h
  exact ⟨d, i, n, s, rfl⟩
theorem open_bool {x : AV} (h : ArgTy false [.bool] x) : ∃ b : Bool, x = .bool b := by
  have h : HasL [.bool] [x] := h
  simp only [HasL.eq_2, HasL.eq_1, Has] at h
  obtain ⟨y, ys, he, ⟨b, rfl⟩, rfl⟩ := h
  cases he
  exact ⟨b, rfl⟩
end Go.Proofs.Ytehcdcnghcbimaa.Code
namespace Go.Proofs.Ytehcdcnghcbimaa.Pure
open Go.Proofs.Ytehcdcnghcbimaa.Ev Go.Proofs.Ytehcdcnghcbimaa.Code
theorem FastNobody (a0 : AV) (t0 : ArgTy true [.int .u8, .int .i64, .int .i64, .str] a0) (a1 : AV) (t1 : ArgTy false [.bool] a1) : ∃ H', evC cprog 9 [a0, a1] [] = some (.bool true, H') := by
  obtain ⟨d, i, n, s, rfl⟩ := open_act t0
  obtain ⟨z, rfl⟩ := open_bool t1
  rw [evC_fn at9]
  exact f9 d i n s z []
end Go.Proofs.Ytehcdcnghcbimaa.Pure
