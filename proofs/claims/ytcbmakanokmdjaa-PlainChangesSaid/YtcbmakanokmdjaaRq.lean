/- plain: Valid of the program; parents and keys of the document. -/
import Derived.Test.YtcbmakanokmdjaaRp
set_option linter.unusedSimpArgs false
set_option linter.unusedVariables false
namespace Go.Proofs.Ytcbmakanokmdjaa.Code
open Go.Proofs.Ytcbmakanokmdjaa.Ev

theorem cells_eItems (f : List Item) : (eItems f).cells = [eItems f] := rfl
theorem isTup_eItems (f : List Item) : (eItems f).isTup = false := rfl
theorem f33 (b : Base) (ht : tysOk b.types = true) (f : List Item) (H : Heap) : cal (evC cprog) false 33 [eBase b, eItems f] H = some (.bool (forestOk b.types f), H) := by
  rw [cal_of at33]
  have hlen := (sItems [] f).len
  simp only [List.length_map] at hlen
  by_cases h : (200 : Int) < (f.length : Int)
  · have hv : forestOk b.types f = false := by unfold forestOk; rw [decide_eq_false (by omega)]; rfl
    rw [hv]
    simp only [c33, eBase, hlen, h, cells_eItems, isTup_eItems, evX, Int.reduceEq, Int.reduceLT, Int.reduceLE, Nat.reduceMul, Nat.reduceMod, evW, fn_eq, evR, Nat.reduceAdd, Nat.reduceLT, Nat.reduceLeDiff, reduceIte, Nat.reduceEqDiff, reduceCtorEq, argEnv, eq_self, if_true, if_false]
    repeat' ((first | rw [guardK_cases] | rw [condK_bool] | rw [guardD_cases]); split <;> simp only [c33, eBase, hlen, h, cells_eItems, isTup_eItems, evX, Int.reduceEq, Int.reduceLT, Int.reduceLE, Nat.reduceMul, Nat.reduceMod, evW, evR, Nat.reduceAdd, Nat.reduceLT, Nat.reduceLeDiff, reduceIte, Nat.reduceEqDiff, reduceCtorEq, argEnv, eq_self, if_true, if_false, *])
  · have hv : forestOk b.types f = tell (∀ (i : Nat) (x : Item), f[i]? = some x → okAt b.types f i x = true) := by unfold forestOk; rw [decide_eq_true (by omega)]; rfl
    rw [hv]
    simp only [c33, eBase, hlen, h, cells_eItems, isTup_eItems, evX, Int.reduceEq, Int.reduceLT, Int.reduceLE, Nat.reduceMul, Nat.reduceMod, evW, fn_eq, evR, Nat.reduceAdd, Nat.reduceLT, Nat.reduceLeDiff, reduceIte, Nat.reduceEqDiff, reduceCtorEq, argEnv, eq_self, if_true, if_false]
    repeat' ((first | rw [guardK_cases] | rw [condK_bool] | rw [guardD_cases]); split <;> simp only [c33, eBase, hlen, h, cells_eItems, isTup_eItems, evX, Int.reduceEq, Int.reduceLT, Int.reduceLE, Nat.reduceMul, Nat.reduceMod, evW, evR, Nat.reduceAdd, Nat.reduceLT, Nat.reduceLeDiff, reduceIte, Nat.reduceEqDiff, reduceCtorEq, argEnv, eq_self, if_true, if_false, *])
    generalize hz : itLim _ _ = z
    obtain ⟨c, T, X, rfl, g⟩ := l33 b ht f (by omega) (H ++ [bBase b, bItems f]) H.length (H.length + 1) (.mk (by simp)) (.mk (by simp)) [bI (-1)] (.ref (H.length + 2) 0 1 0 1) (.inr ⟨by simp, 0, 0, by simp, by simp [bI, rI]⟩) (by simp [oblk]) _ (by rfl) (by simp [bBase, bItems, bI]) z hz
    rcases g with ⟨g, rfl⟩ | ⟨g, rfl, hT⟩
    · rw [g]
      simp only [hlen, evX, Int.reduceEq, Int.reduceLT, Int.reduceLE, Nat.reduceMul, Nat.reduceMod, evW, fn_eq, evR, Nat.reduceAdd, Nat.reduceLT, Nat.reduceLeDiff, reduceIte, Nat.reduceEqDiff, reduceCtorEq, argEnv, eq_self, if_true, if_false]
      repeat' ((first | rw [guardK_cases] | rw [condK_bool] | rw [guardD_cases]); split <;> simp only [hlen, evX, Int.reduceEq, Int.reduceLT, Int.reduceLE, Nat.reduceMul, Nat.reduceMod, evW, evR, Nat.reduceAdd, Nat.reduceLT, Nat.reduceLeDiff, reduceIte, Nat.reduceEqDiff, reduceCtorEq, argEnv, eq_self, if_true, if_false, *])
    · rw [g]
      simp only [hT, evX, Int.reduceEq, Int.reduceLT, Int.reduceLE, Nat.reduceMul, Nat.reduceMod, evW, fn_eq, evR, Nat.reduceAdd, Nat.reduceLT, Nat.reduceLeDiff, reduceIte, Nat.reduceEqDiff, reduceCtorEq, argEnv, eq_self, if_true, if_false]
      repeat' ((first | rw [guardK_cases] | rw [condK_bool] | rw [guardD_cases]); split <;> simp only [hT, evX, Int.reduceEq, Int.reduceLT, Int.reduceLE, Nat.reduceMul, Nat.reduceMod, evW, evR, Nat.reduceAdd, Nat.reduceLT, Nat.reduceLeDiff, reduceIte, Nat.reduceEqDiff, reduceCtorEq, argEnv, eq_self, if_true, if_false, *])
def bEr (v : Bool) (e : Int) : AV := .tup [.bool v, .int .i64 e]
theorem valid_tys {b : Base} (h : validB b = true) : tysOk b.types = true := by
  simp only [validB, areTys, Bool.and_eq_true] at h
  exact h.1.1.2.2
theorem f11 (b : Base) (hb : b.Ok) (f : List Item) (H : Heap) : cal (evC cprog) false 11 [eBase b, eItems f] H = some (bEr (validB b && forestOk b.types f) (if validB b = true then 0 else 100), H) := by
  rw [cal_of at11]
  have h1 := f32 b hb
  simp only [eBase] at h1
  cases hv : validB b with
  | false =>
    simp only [c11, eBase, cells_eItems, isTup_eItems, h1, hv, bEr, evX, Int.reduceEq, Int.reduceLT, Int.reduceLE, Nat.reduceMul, Nat.reduceMod, evW, fn_eq, evR, Nat.reduceAdd, Nat.reduceLT, Nat.reduceLeDiff, reduceIte, Nat.reduceEqDiff, reduceCtorEq, argEnv, eq_self, if_true, if_false]
    repeat' ((first | rw [guardK_cases] | rw [condK_bool] | rw [guardD_cases]); split <;> simp only [c11, eBase, cells_eItems, isTup_eItems, h1, hv, bEr, evX, Int.reduceEq, Int.reduceLT, Int.reduceLE, Nat.reduceMul, Nat.reduceMod, evW, evR, Nat.reduceAdd, Nat.reduceLT, Nat.reduceLeDiff, reduceIte, Nat.reduceEqDiff, reduceCtorEq, argEnv, eq_self, if_true, if_false, *])
  | true =>
    have h2 := f33 b (valid_tys hv) f
    simp only [eBase] at h2
    simp only [c11, eBase, cells_eItems, isTup_eItems, h1, hv, h2, bEr, evX, Int.reduceEq, Int.reduceLT, Int.reduceLE, Nat.reduceMul, Nat.reduceMod, evW, fn_eq, evR, Nat.reduceAdd, Nat.reduceLT, Nat.reduceLeDiff, reduceIte, Nat.reduceEqDiff, reduceCtorEq, argEnv, eq_self, if_true, if_false]
    repeat' ((first | rw [guardK_cases] | rw [condK_bool] | rw [guardD_cases]); split <;> simp only [c11, eBase, cells_eItems, isTup_eItems, h1, hv, h2, bEr, evX, Int.reduceEq, Int.reduceLT, Int.reduceLE, Nat.reduceMul, Nat.reduceMod, evW, evR, Nat.reduceAdd, Nat.reduceLT, Nat.reduceLeDiff, reduceIte, Nat.reduceEqDiff, reduceCtorEq, argEnv, eq_self, if_true, if_false, *])
theorem f64 (b : Base) (f : List Item) (i : Nat) (x : Item) (hx : f[i]? = some x) (k : Nat) (t : Ty) (hk : x.type = (k : Int)) (htk : b.types[k]? = some t) (hl : f.length ≤ 1000) (H : Heap) :
    cal (evC cprog) false 64 [eBase b, eItems f, .int .i64 (i : Int)] H = some (.int .i64 (par b.types f i), H) := by
  rw [cal_of at64]
  have hlt : i < f.length := (List.getElem?_eq_some_iff.1 hx).1
  have ha := aItem hx
  have hat := aTy htk
  rw [← hk] at hat
  have hp : par b.types f i = if t.parent < 0 then -1 else lastTo f t.parent i := by unfold par; rw [typ_at hx, hk, tpar_at htk]
  rw [hp]
  have hw : IntKind.i64.wrap ((i : Int) - 1) = (i : Int) - 1 := wrap_i64 (by omega) (by omega)
  simp only [c64, eBase, ha, hat, rItem, rTy, hw, evX, Int.reduceEq, Int.reduceLT, Int.reduceLE, Nat.reduceMul, Nat.reduceMod, evW, fn_eq, evR, Nat.reduceAdd, Nat.reduceLT, Nat.reduceLeDiff, reduceIte, Nat.reduceEqDiff, reduceCtorEq, argEnv, eq_self, if_true, if_false]
  repeat' ((first | rw [guardK_cases] | rw [condK_bool] | rw [guardD_cases]); split <;> simp only [c64, eBase, ha, hat, rItem, rTy, hw, evX, Int.reduceEq, Int.reduceLT, Int.reduceLE, Nat.reduceMul, Nat.reduceMod, evW, evR, Nat.reduceAdd, Nat.reduceLT, Nat.reduceLeDiff, reduceIte, Nat.reduceEqDiff, reduceCtorEq, argEnv, eq_self, if_true, if_false, *])
  generalize hz : itLim _ _ = z
  have L := loop_rule (σ := Int) (m := [1, 7, 8]) (env := fun k => [(1, eItems f), (7, .int .i64 t.parent), (8, .int .i64 k)]) (hp := fun _ => H ++ [bBase b])
    (P := fun k r => ∃ c T, r = (c, T, H ++ [bBase b]) ∧ ((c = .exit 0 ∧ (if t.parent < 0 then -1 else lastTo f t.parent (k + 1).toNat) = -1) ∨ (c = .ret ∧ get T 6 = some (.int .i64 (if t.parent < 0 then -1 else lastTo f t.parent (k + 1).toNat)))))
    (mu := fun k => (k + 1).toNat) (I := fun k => -1 ≤ k ∧ k < (i : Int)) (evCode (evC cprog) itLim c64_l0) ?_ ((i : Int) - 1) _ (by omega) (by rfl) (by simp [bBase]) z hz
  · obtain ⟨_, rfl, c, T, rfl, h⟩ := L
    rw [show ((i : Int) - 1 + 1).toNat = i by omega] at h
    rcases h with ⟨rfl, h⟩ | ⟨rfl, hT⟩
    · rw [h]
      simp only [evX, Int.reduceEq, Int.reduceLT, Int.reduceLE, Nat.reduceMul, Nat.reduceMod, evW, fn_eq, evR, Nat.reduceAdd, Nat.reduceLT, Nat.reduceLeDiff, reduceIte, Nat.reduceEqDiff, reduceCtorEq, argEnv, eq_self, if_true, if_false]
      repeat' ((first | rw [guardK_cases] | rw [condK_bool] | rw [guardD_cases]); split <;> simp only [evX, Int.reduceEq, Int.reduceLT, Int.reduceLE, Nat.reduceMul, Nat.reduceMod, evW, evR, Nat.reduceAdd, Nat.reduceLT, Nat.reduceLeDiff, reduceIte, Nat.reduceEqDiff, reduceCtorEq, argEnv, eq_self, if_true, if_false, *])
    · simp only [hT, evX, Int.reduceEq, Int.reduceLT, Int.reduceLE, Nat.reduceMul, Nat.reduceMod, evW, fn_eq, evR, Nat.reduceAdd, Nat.reduceLT, Nat.reduceLeDiff, reduceIte, Nat.reduceEqDiff, reduceCtorEq, argEnv, eq_self, if_true, if_false]
      repeat' ((first | rw [guardK_cases] | rw [condK_bool] | rw [guardD_cases]); split <;> simp only [hT, evX, Int.reduceEq, Int.reduceLT, Int.reduceLE, Nat.reduceMul, Nat.reduceMod, evW, evR, Nat.reduceAdd, Nat.reduceLT, Nat.reduceLeDiff, reduceIte, Nat.reduceEqDiff, reduceCtorEq, argEnv, eq_self, if_true, if_false, *])
  · intro k ⟨h1, h2⟩ E hE
    by_cases h0 : 0 ≤ k
    · obtain ⟨j, rfl⟩ : ∃ j : Nat, k = (j : Int) := ⟨k.toNat, by omega⟩
      obtain ⟨y, hy⟩ : ∃ y, f[j]? = some y := ⟨_, List.getElem?_eq_getElem (by omega)⟩
      have hay := aItem hy
      have hwj : IntKind.i64.wrap ((j : Int) - 1) = (j : Int) - 1 := wrap_i64 (by omega) (by omega)
      have e : ((j : Int) + 1).toNat = j + 1 := by omega
      by_cases hp0 : 0 ≤ t.parent
      · by_cases hyt : y.type = t.parent
        · simp only [c64_l0, hE, h0, hp0, hay, hyt, rItem, evX, Int.reduceEq, Int.reduceLT, Int.reduceLE, Nat.reduceMul, Nat.reduceMod, evW, fn_eq, evR, Nat.reduceAdd, Nat.reduceLT, Nat.reduceLeDiff, reduceIte, Nat.reduceEqDiff, reduceCtorEq, argEnv, eq_self, if_true, if_false]
          repeat' ((first | rw [guardK_cases] | rw [condK_bool] | rw [guardD_cases]); split <;> simp only [c64_l0, hE, h0, hp0, hay, hyt, rItem, evX, Int.reduceEq, Int.reduceLT, Int.reduceLE, Nat.reduceMul, Nat.reduceMod, evW, evR, Nat.reduceAdd, Nat.reduceLT, Nat.reduceLeDiff, reduceIte, Nat.reduceEqDiff, reduceCtorEq, argEnv, eq_self, if_true, if_false, *])
          refine q_ret ⟨_, _, rfl, .inr ⟨rfl, ?_⟩⟩
          rw [if_neg (by omega), e, lastTo, typ_at hy, if_pos hyt]; rfl
        · simp only [c64_l0, hE, h0, hp0, hay, hyt, hwj, rItem, evX, Int.reduceEq, Int.reduceLT, Int.reduceLE, Nat.reduceMul, Nat.reduceMod, evW, fn_eq, evR, Nat.reduceAdd, Nat.reduceLT, Nat.reduceLeDiff, reduceIte, Nat.reduceEqDiff, reduceCtorEq, argEnv, eq_self, if_true, if_false]
          repeat' ((first | rw [guardK_cases] | rw [condK_bool] | rw [guardD_cases]); split <;> simp only [c64_l0, hE, h0, hp0, hay, hyt, hwj, rItem, evX, Int.reduceEq, Int.reduceLT, Int.reduceLE, Nat.reduceMul, Nat.reduceMod, evW, evR, Nat.reduceAdd, Nat.reduceLT, Nat.reduceLeDiff, reduceIte, Nat.reduceEqDiff, reduceCtorEq, argEnv, eq_self, if_true, if_false, *])
          refine q_next ((j : Int) - 1) (by rfl) rfl (by omega) (by omega) fun r h => ?_
          obtain ⟨c, T, h3, h⟩ := h
          refine ⟨c, T, h3, ?_⟩
          rw [e, lastTo, typ_at hy, if_neg hyt]
          rw [show ((j : Int) - 1 + 1).toNat = j by omega] at h
          exact h
      · simp only [c64_l0, hE, h0, hp0, evX, Int.reduceEq, Int.reduceLT, Int.reduceLE, Nat.reduceMul, Nat.reduceMod, evW, fn_eq, evR, Nat.reduceAdd, Nat.reduceLT, Nat.reduceLeDiff, reduceIte, Nat.reduceEqDiff, reduceCtorEq, argEnv, eq_self, if_true, if_false]
        repeat' ((first | rw [guardK_cases] | rw [condK_bool] | rw [guardD_cases]); split <;> simp only [c64_l0, hE, h0, hp0, evX, Int.reduceEq, Int.reduceLT, Int.reduceLE, Nat.reduceMul, Nat.reduceMod, evW, evR, Nat.reduceAdd, Nat.reduceLT, Nat.reduceLeDiff, reduceIte, Nat.reduceEqDiff, reduceCtorEq, argEnv, eq_self, if_true, if_false, *])
        exact q_exit ⟨_, _, rfl, .inl ⟨rfl, if_pos (by omega)⟩⟩
    · simp only [c64_l0, hE, h0, evX, Int.reduceEq, Int.reduceLT, Int.reduceLE, Nat.reduceMul, Nat.reduceMod, evW, fn_eq, evR, Nat.reduceAdd, Nat.reduceLT, Nat.reduceLeDiff, reduceIte, Nat.reduceEqDiff, reduceCtorEq, argEnv, eq_self, if_true, if_false]
      repeat' ((first | rw [guardK_cases] | rw [condK_bool] | rw [guardD_cases]); split <;> simp only [c64_l0, hE, h0, evX, Int.reduceEq, Int.reduceLT, Int.reduceLE, Nat.reduceMul, Nat.reduceMod, evW, evR, Nat.reduceAdd, Nat.reduceLT, Nat.reduceLeDiff, reduceIte, Nat.reduceEqDiff, reduceCtorEq, argEnv, eq_self, if_true, if_false, *])
      refine q_exit ⟨_, _, rfl, .inl ⟨rfl, ?_⟩⟩
      rw [show (k + 1).toNat = 0 by omega]
      simp [lastTo]
theorem f45 (b : Base) (x : Item) (k : Nat) (t : Ty) (hk : x.type = (k : Int)) (htk : b.types[k]? = some t) (ht : tyOk t = true) (hd : t.min ≤ x.data.size) (H : Heap) :
    cal (evC cprog) false 45 [eBase b, .agg (rItem x)] H = some (.str (keyOf t x.data), H) := by
  rw [cal_of at45]
  have hat := aTy htk
  rw [← hk] at hat
  by_cases hk : t.key < 0
  · simp only [c45, eBase, rItem, rTy, hat, hk, evX, Int.reduceEq, Int.reduceLT, Int.reduceLE, Nat.reduceMul, Nat.reduceMod, evW, fn_eq, evR, Nat.reduceAdd, Nat.reduceLT, Nat.reduceLeDiff, reduceIte, Nat.reduceEqDiff, reduceCtorEq, argEnv, eq_self, if_true, if_false]
    repeat' ((first | rw [guardK_cases] | rw [condK_bool] | rw [guardD_cases]); split <;> simp only [c45, eBase, rItem, rTy, hat, hk, evX, Int.reduceEq, Int.reduceLT, Int.reduceLE, Nat.reduceMul, Nat.reduceMod, evW, evR, Nat.reduceAdd, Nat.reduceLT, Nat.reduceLeDiff, reduceIte, Nat.reduceEqDiff, reduceCtorEq, argEnv, eq_self, if_true, if_false, *])
    simp [keyOf, hk]
  · obtain ⟨k, f, h1, h2, h3, h4, h5, h6⟩ := key_in ht (by omega)
    have haf := aFd h2
    have hw := wrapQ (a := f.at') (b := f.bytes) (by omega) (by omega) (by omega) (by omega)
    have k0 : ¬ (k : Int) < 0 := by omega
    have hsl := slcs_at x.data (a := f.at') (c := f.at' + f.bytes) h3 (by omega) (by omega)
    rw [keyOf_at h1 h2]
    simp only [c45, eBase, rItem, rTy, rFd, hat, h1, k0, haf, hw, p_slcs, slcsK_some, asNat_int h3, asNat_int (show 0 ≤ f.at' + f.bytes by omega), hsl, evX, Int.reduceEq, Int.reduceLT, Int.reduceLE, Nat.reduceMul, Nat.reduceMod, evW, fn_eq, evR, Nat.reduceAdd, Nat.reduceLT, Nat.reduceLeDiff, reduceIte, Nat.reduceEqDiff, reduceCtorEq, argEnv, eq_self, if_true, if_false]
    repeat' ((first | rw [guardK_cases] | rw [condK_bool] | rw [guardD_cases]); split <;> simp only [c45, eBase, rItem, rTy, rFd, hat, h1, k0, haf, hw, p_slcs, slcsK_some, asNat_int h3, asNat_int (show 0 ≤ f.at' + f.bytes by omega), hsl, evX, Int.reduceEq, Int.reduceLT, Int.reduceLE, Nat.reduceMul, Nat.reduceMod, evW, evR, Nat.reduceAdd, Nat.reduceLT, Nat.reduceLeDiff, reduceIte, Nat.reduceEqDiff, reduceCtorEq, argEnv, eq_self, if_true, if_false, *])
end Go.Proofs.Ytcbmakanokmdjaa.Code
