/- Texts of ours, joined into one file; each begins with its own remark. -/
import Derived.Test.YtondenmkhfignaaDoorU2
import Derived.Test.YtondenmkhfignaaDoorU1
/- TopForest: the forest that is nil: valid, and an insert into it. -/
set_option linter.unusedSimpArgs false
set_option linter.unusedVariables false
namespace Go.Proofs.YtondenmkhfignaaDoor.Code
open Go.Proofs.YtondenmkhfignaaDoor.Ev

theorem right_nil {b : Base} (hb : b.Ok) (hv : validB b = true) : Right b [] := ⟨hb, hv, by
  unfold forestOk
  rw [tell_pos fun i x hx => by simp at hx]
  simp⟩
theorem errF_nils {b : Base} (hb : b.Ok) : errF b [] [] = if validB b = true then 0 else 100 := by
  unfold errF
  split
  · rename_i hv
    rw [if_pos (right_nil hb hv).forest]
    simp
  · rfl
theorem f29n (b : Base) (H : Heap) : cal (evC cprog) false 29 [eBase b, .nils] H = some (.bool true, H) := by
  rw [cal_of at29]
  simp only [c29, eBase, evX, Int.reduceEq, Int.reduceLT, Int.reduceLE, Nat.reduceMul, Nat.reduceMod, evW, fn_eq, evR, Nat.reduceAdd, Nat.reduceLT, Nat.reduceLeDiff, reduceIte, Nat.reduceEqDiff, reduceCtorEq, argEnv, eq_self, if_true, if_false]
  repeat' ((first | rw [guardK_cases] | rw [condK_bool] | rw [guardD_cases]); split <;> simp only [c29, eBase, evX, Int.reduceEq, Int.reduceLT, Int.reduceLE, Nat.reduceMul, Nat.reduceMod, evW, evR, Nat.reduceAdd, Nat.reduceLT, Nat.reduceLeDiff, reduceIte, Nat.reduceEqDiff, reduceCtorEq, argEnv, eq_self, if_true, if_false, *])
  rw [itLim_eq]
  simp only [c29_l0, evX, Int.reduceEq, Int.reduceLT, Int.reduceLE, Nat.reduceMul, Nat.reduceMod, evW, fn_eq, evR, Nat.reduceAdd, Nat.reduceLT, Nat.reduceLeDiff, reduceIte, Nat.reduceEqDiff, reduceCtorEq, argEnv, eq_self, if_true, if_false]
  repeat' ((first | rw [guardK_cases] | rw [condK_bool] | rw [guardD_cases]); split <;> simp only [c29_l0, evX, Int.reduceEq, Int.reduceLT, Int.reduceLE, Nat.reduceMul, Nat.reduceMod, evW, evR, Nat.reduceAdd, Nat.reduceLT, Nat.reduceLeDiff, reduceIte, Nat.reduceEqDiff, reduceCtorEq, argEnv, eq_self, if_true, if_false, *])
theorem f8n (b : Base) (hb : b.Ok) (H : Heap) : cal (evC cprog) false 8 [eBase b, .nils] H = some (bEr (validB b) (if validB b = true then 0 else 100), H) := by
  rw [cal_of at8]
  have h1 := f28 b hb
  have h2 := f29n b
  simp only [eBase] at h1 h2
  cases hv : validB b with
  | false =>
    simp only [c8, eBase, h1, hv, bEr, evX, Int.reduceEq, Int.reduceLT, Int.reduceLE, Nat.reduceMul, Nat.reduceMod, evW, fn_eq, evR, Nat.reduceAdd, Nat.reduceLT, Nat.reduceLeDiff, reduceIte, Nat.reduceEqDiff, reduceCtorEq, argEnv, eq_self, if_true, if_false]
    repeat' ((first | rw [guardK_cases] | rw [condK_bool] | rw [guardD_cases]); split <;> simp only [c8, eBase, h1, hv, bEr, evX, Int.reduceEq, Int.reduceLT, Int.reduceLE, Nat.reduceMul, Nat.reduceMod, evW, evR, Nat.reduceAdd, Nat.reduceLT, Nat.reduceLeDiff, reduceIte, Nat.reduceEqDiff, reduceCtorEq, argEnv, eq_self, if_true, if_false, *])
  | true =>
    simp only [c8, eBase, h1, h2, hv, bEr, evX, Int.reduceEq, Int.reduceLT, Int.reduceLE, Nat.reduceMul, Nat.reduceMod, evW, fn_eq, evR, Nat.reduceAdd, Nat.reduceLT, Nat.reduceLeDiff, reduceIte, Nat.reduceEqDiff, reduceCtorEq, argEnv, eq_self, if_true, if_false]
    repeat' ((first | rw [guardK_cases] | rw [condK_bool] | rw [guardD_cases]); split <;> simp only [c8, eBase, h1, h2, hv, bEr, evX, Int.reduceEq, Int.reduceLT, Int.reduceLE, Nat.reduceMul, Nat.reduceMod, evW, evR, Nat.reduceAdd, Nat.reduceLT, Nat.reduceLeDiff, reduceIte, Nat.reduceEqDiff, reduceCtorEq, argEnv, eq_self, if_true, if_false, *])
theorem f30n (b : Base) (hb : b.Ok) (H : Heap) : cal (evC cprog) false 30 [eBase b, .nils, .nils] H = some (.int .i64 (errF b [] []), H) := by
  rw [cal_of at30, errF_nils hb]
  have h1 := f28 b hb
  have h2 := f29n b
  simp only [eBase] at h1 h2
  cases hv : validB b with
  | false =>
    simp only [c30, eBase, h1, hv, evX, Int.reduceEq, Int.reduceLT, Int.reduceLE, Nat.reduceMul, Nat.reduceMod, evW, fn_eq, evR, Nat.reduceAdd, Nat.reduceLT, Nat.reduceLeDiff, reduceIte, Nat.reduceEqDiff, reduceCtorEq, argEnv, eq_self, if_true, if_false]
    repeat' ((first | rw [guardK_cases] | rw [condK_bool] | rw [guardD_cases]); split <;> simp only [c30, eBase, h1, hv, evX, Int.reduceEq, Int.reduceLT, Int.reduceLE, Nat.reduceMul, Nat.reduceMod, evW, evR, Nat.reduceAdd, Nat.reduceLT, Nat.reduceLeDiff, reduceIte, Nat.reduceEqDiff, reduceCtorEq, argEnv, eq_self, if_true, if_false, *])
  | true =>
    have h49 := fun K => containsFunc_ok (g := 46) at49 (indexFunc_ok (sz := 1) (ag := false) at46 rI (fun x => .int .i64 x) lI 50 [.ptr (H.length + 1) 0 1 0 0] (fun _ => true) K .nils [] (nil_slat K) (by simp) fun x h => by cases h)
    simp only [c30, eBase, h1, h2, hv, h49, List.any_nil, scal_ptr, evX, Int.reduceEq, Int.reduceLT, Int.reduceLE, Nat.reduceMul, Nat.reduceMod, evW, fn_eq, evR, Nat.reduceAdd, Nat.reduceLT, Nat.reduceLeDiff, reduceIte, Nat.reduceEqDiff, reduceCtorEq, argEnv, eq_self, if_true, if_false]
    repeat' ((first | rw [guardK_cases] | rw [condK_bool] | rw [guardD_cases]); split <;> simp only [c30, eBase, h1, h2, hv, h49, List.any_nil, scal_ptr, evX, Int.reduceEq, Int.reduceLT, Int.reduceLE, Nat.reduceMul, Nat.reduceMod, evW, evR, Nat.reduceAdd, Nat.reduceLT, Nat.reduceLeDiff, reduceIte, Nat.reduceEqDiff, reduceCtorEq, argEnv, eq_self, if_true, if_false, *])
theorem f40n (b : Base) (H : Heap) : cal (evC cprog) true 40 [eBase b, .nils, .int .i64 (-1)] H = some (eIs [], H) := by
  rw [cal_of at40]
  simp only [c40, eBase, evX, Int.reduceEq, Int.reduceLT, Int.reduceLE, Nat.reduceMul, Nat.reduceMod, evW, fn_eq, evR, Nat.reduceAdd, Nat.reduceLT, Nat.reduceLeDiff, reduceIte, Nat.reduceEqDiff, reduceCtorEq, argEnv, eq_self, if_true, if_false]
  repeat' ((first | rw [guardK_cases] | rw [condK_bool] | rw [guardD_cases]); split <;> simp only [c40, eBase, evX, Int.reduceEq, Int.reduceLT, Int.reduceLE, Nat.reduceMul, Nat.reduceMod, evW, evR, Nat.reduceAdd, Nat.reduceLT, Nat.reduceLeDiff, reduceIte, Nat.reduceEqDiff, reduceCtorEq, argEnv, eq_self, if_true, if_false, *])
  rw [itLim_eq]
  simp only [c40_l0, evX, Int.reduceEq, Int.reduceLT, Int.reduceLE, Nat.reduceMul, Nat.reduceMod, evW, fn_eq, evR, Nat.reduceAdd, Nat.reduceLT, Nat.reduceLeDiff, reduceIte, Nat.reduceEqDiff, reduceCtorEq, argEnv, eq_self, if_true, if_false]
  repeat' ((first | rw [guardK_cases] | rw [condK_bool] | rw [guardD_cases]); split <;> simp only [c40_l0, evX, Int.reduceEq, Int.reduceLT, Int.reduceLE, Nat.reduceMul, Nat.reduceMod, evW, evR, Nat.reduceAdd, Nat.reduceLT, Nat.reduceLeDiff, reduceIte, Nat.reduceEqDiff, reduceCtorEq, argEnv, eq_self, if_true, if_false, *])
  exact frz_one (fz_nils _) rfl (by simp) (by simp)
set_option maxHeartbeats 4000000 in
theorem f25n (b : Base) (hb : b.Ok) (p t : Int) (d : ByteArray) (H : Heap) : cal (evC cprog) false 25 [eBase b, .nils, .int .i64 p, .int .i64 t, .str d] H = some (.tup [.int .i64 (placeR b [] p t d), .int .i64 (placeE b [] p t d)], H) := by
  rw [cal_of at25]
  have h30 := f30n b hb
  simp only [eBase] at h30
  by_cases he : errF b [] [] = 0
  · have hr := (errF_zero hb he).1
    rw [he] at h30
    have bad : argOk b [] p t d = false → placeE b [] p t d = 2 ∧ placeR b [] p t d = 0 := fun h => by
      have e : placeE b [] p t d = 2 := by unfold placeE; rw [if_pos he, if_neg (by rw [h]; simp)]
      exact ⟨e, by unfold placeR; rw [e]; rfl⟩
    by_cases c1 : p < -1
    · obtain ⟨e1, e2⟩ := bad (by simp [argOk]; omega)
      rw [e1, e2]
      simp only [c25, eBase, h30, c1, evX, Int.reduceEq, Int.reduceLT, Int.reduceLE, Nat.reduceMul, Nat.reduceMod, evW, fn_eq, evR, Nat.reduceAdd, Nat.reduceLT, Nat.reduceLeDiff, reduceIte, Nat.reduceEqDiff, reduceCtorEq, argEnv, eq_self, if_true, if_false]
      repeat' ((first | rw [guardK_cases] | rw [condK_bool] | rw [guardD_cases]); split <;> simp only [c25, eBase, h30, c1, evX, Int.reduceEq, Int.reduceLT, Int.reduceLE, Nat.reduceMul, Nat.reduceMod, evW, evR, Nat.reduceAdd, Nat.reduceLT, Nat.reduceLeDiff, reduceIte, Nat.reduceEqDiff, reduceCtorEq, argEnv, eq_self, if_true, if_false, *])
    by_cases c2 : (0 : Int) ≤ p
    · obtain ⟨e1, e2⟩ := bad (by simp [argOk]; omega)
      rw [e1, e2]
      simp only [c25, eBase, h30, c1, c2, evX, Int.reduceEq, Int.reduceLT, Int.reduceLE, Nat.reduceMul, Nat.reduceMod, evW, fn_eq, evR, Nat.reduceAdd, Nat.reduceLT, Nat.reduceLeDiff, reduceIte, Nat.reduceEqDiff, reduceCtorEq, argEnv, eq_self, if_true, if_false]
      repeat' ((first | rw [guardK_cases] | rw [condK_bool] | rw [guardD_cases]); split <;> simp only [c25, eBase, h30, c1, c2, evX, Int.reduceEq, Int.reduceLT, Int.reduceLE, Nat.reduceMul, Nat.reduceMod, evW, evR, Nat.reduceAdd, Nat.reduceLT, Nat.reduceLeDiff, reduceIte, Nat.reduceEqDiff, reduceCtorEq, argEnv, eq_self, if_true, if_false, *])
    have hp : p = -1 := by omega
    subst hp
    have h38 := fun K => f38 b ⟨t, d⟩ K
    simp only [eBase, rItem] at h38
    cases hfit : fits b.types ⟨t, d⟩ with
    | false =>
      obtain ⟨e1, e2⟩ := bad (by simp [argOk, hfit])
      rw [e1, e2]
      rw [hfit] at h38
      simp only [c25, eBase, h30, h38, evX, Int.reduceEq, Int.reduceLT, Int.reduceLE, Nat.reduceMul, Nat.reduceMod, evW, fn_eq, evR, Nat.reduceAdd, Nat.reduceLT, Nat.reduceLeDiff, reduceIte, Nat.reduceEqDiff, reduceCtorEq, argEnv, eq_self, if_true, if_false]
      repeat' ((first | rw [guardK_cases] | rw [condK_bool] | rw [guardD_cases]); split <;> simp only [c25, eBase, h30, h38, evX, Int.reduceEq, Int.reduceLT, Int.reduceLE, Nat.reduceMul, Nat.reduceMod, evW, evR, Nat.reduceAdd, Nat.reduceLT, Nat.reduceLeDiff, reduceIte, Nat.reduceEqDiff, reduceCtorEq, argEnv, eq_self, if_true, if_false, *])
    | true =>
      rw [hfit] at h38
      obtain ⟨ti, ty, htt, htl, hty, hmin, hmax⟩ := fits_some hfit
      simp only at htt hmin hmax
      subst htt
      have hat := aTy hty
      have htok : tyOk ty = true := by
        have := tell_true.1 hr.tys ti ty hty
        simp only [tyAt, Bool.and_eq_true] at this; exact this.1.1.1
      have h39 := fun K => f39 ty htok d (by omega) K
      have h40 := f40n b
      simp only [eBase, rTy] at h39 h40
      by_cases c4 : ti = 0
      · have hg : argOk b [] (-1) (ti : Int) d = true := by
          simp only [argOk, Bool.and_eq_true, decide_eq_true_eq]
          exact ⟨⟨⟨by omega, by simp⟩, hfit⟩, by simp [c4]⟩
        have c4' : ((ti : Int) = 0) = True := eq_true (by omega)
        have e1 : placeE b [] (-1) (ti : Int) d = 0 := by
          unfold placeE; rw [if_pos he, if_pos hg]; rfl
        have e2 : placeR b [] (-1) (ti : Int) d = 0 := by unfold placeR; rw [if_pos e1]; rfl
        rw [e1, e2]
        have hw : IntKind.i64.wrap (-1 + 1) = 0 := by rfl
        simp only [c25, eBase, h30, c4', h38, hat, rTy, h39, h40, hw, eIs, List.map_nil, Int.natCast_zero, evX, Int.reduceEq, Int.reduceLT, Int.reduceLE, Nat.reduceMul, Nat.reduceMod, evW, fn_eq, evR, Nat.reduceAdd, Nat.reduceLT, Nat.reduceLeDiff, reduceIte, Nat.reduceEqDiff, reduceCtorEq, argEnv, eq_self, if_true, if_false]
        repeat' ((first | rw [guardK_cases] | rw [condK_bool] | rw [guardD_cases]); split <;> simp only [c25, eBase, h30, c4', h38, hat, rTy, h39, h40, hw, eIs, List.map_nil, Int.natCast_zero, evX, Int.reduceEq, Int.reduceLT, Int.reduceLE, Nat.reduceMul, Nat.reduceMod, evW, evR, Nat.reduceAdd, Nat.reduceLT, Nat.reduceLeDiff, reduceIte, Nat.reduceEqDiff, reduceCtorEq, argEnv, eq_self, if_true, if_false, *])
        rw [itLim_eq]
        simp only [c25_l0, Int.lt_irrefl, evX, Int.reduceEq, Int.reduceLT, Int.reduceLE, Nat.reduceMul, Nat.reduceMod, evW, fn_eq, evR, Nat.reduceAdd, Nat.reduceLT, Nat.reduceLeDiff, reduceIte, Nat.reduceEqDiff, reduceCtorEq, argEnv, eq_self, if_true, if_false]
        repeat' ((first | rw [guardK_cases] | rw [condK_bool] | rw [guardD_cases]); split <;> simp only [c25_l0, Int.lt_irrefl, evX, Int.reduceEq, Int.reduceLT, Int.reduceLE, Nat.reduceMul, Nat.reduceMod, evW, evR, Nat.reduceAdd, Nat.reduceLT, Nat.reduceLeDiff, reduceIte, Nat.reduceEqDiff, reduceCtorEq, argEnv, eq_self, if_true, if_false, *])
      · obtain ⟨e1, e2⟩ := bad (by simp [argOk]; omega)
        have c4' : ((ti : Int) = 0) = False := eq_false (by omega)
        rw [e1, e2]
        simp only [c25, eBase, h30, h38, c4', evX, Int.reduceEq, Int.reduceLT, Int.reduceLE, Nat.reduceMul, Nat.reduceMod, evW, fn_eq, evR, Nat.reduceAdd, Nat.reduceLT, Nat.reduceLeDiff, reduceIte, Nat.reduceEqDiff, reduceCtorEq, argEnv, eq_self, if_true, if_false]
        repeat' ((first | rw [guardK_cases] | rw [condK_bool] | rw [guardD_cases]); split <;> simp only [c25, eBase, h30, h38, c4', evX, Int.reduceEq, Int.reduceLT, Int.reduceLE, Nat.reduceMul, Nat.reduceMod, evW, evR, Nat.reduceAdd, Nat.reduceLT, Nat.reduceLeDiff, reduceIte, Nat.reduceEqDiff, reduceCtorEq, argEnv, eq_self, if_true, if_false, *])
  · have e1 : placeE b [] p t d = errF b [] [] := if_neg he
    have e2 : placeR b [] p t d = 0 := by unfold placeR; rw [e1, if_neg he]
    rw [e1, e2]
    simp only [c25, eBase, h30, he, evX, Int.reduceEq, Int.reduceLT, Int.reduceLE, Nat.reduceMul, Nat.reduceMod, evW, fn_eq, evR, Nat.reduceAdd, Nat.reduceLT, Nat.reduceLeDiff, reduceIte, Nat.reduceEqDiff, reduceCtorEq, argEnv, eq_self, if_true, if_false]
    repeat' ((first | rw [guardK_cases] | rw [condK_bool] | rw [guardD_cases]); split <;> simp only [c25, eBase, h30, he, evX, Int.reduceEq, Int.reduceLT, Int.reduceLE, Nat.reduceMul, Nat.reduceMod, evW, evR, Nat.reduceAdd, Nat.reduceLT, Nat.reduceLeDiff, reduceIte, Nat.reduceEqDiff, reduceCtorEq, argEnv, eq_self, if_true, if_false, *])
theorem f27n (H : Heap) : cal (evC cprog) false 27 [.nils] H = some (.nils, H) := by
  rw [cal_of at27, show c27 = cClone 46 2 24 from rfl]
  have e1 : evBody (evC cprog) itLim (cClone 46 2 24) [.nils] H = some (.nils, H) := by
    have he : eqnK false 1 (some .nils) (some .nils) = some (.bool true) := rfl
    simp only [cClone, body_eq, he, evX, Int.reduceEq, Int.reduceLT, Int.reduceLE, Nat.reduceMul, Nat.reduceMod, evW, fn_eq, evR, Nat.reduceAdd, Nat.reduceLT, Nat.reduceLeDiff, reduceIte, Nat.reduceEqDiff, reduceCtorEq, argEnv, eq_self, if_true, if_false]
    repeat' ((first | rw [guardK_cases] | rw [condK_bool] | rw [guardD_cases]); split <;> simp only [cClone, body_eq, he, evX, Int.reduceEq, Int.reduceLT, Int.reduceLE, Nat.reduceMul, Nat.reduceMod, evW, evR, Nat.reduceAdd, Nat.reduceLT, Nat.reduceLeDiff, reduceIte, Nat.reduceEqDiff, reduceCtorEq, argEnv, eq_self, if_true, if_false, *])
  have : evFn (evC cprog) itLim (cClone 46 2 24) [.nils] H = some (.nils, H) := by
    unfold evFn
    rw [if_neg (show ¬ (cClone 46 2 24).closed = true from fun h => by cases h), if_pos (show (cClone 46 2 24).split = true from rfl)]
    simp only [splitArg, e1]
  rw [this, calK_f, gc_same]
theorem f26m (H : Heap) (bv : Nat) (row : List AV) (hv : H[bv]? = some ⟨0, true, 46, 2, [row]⟩) :
    cal (evC cprog) false 26 [.nils, .int .i64 0, .ref bv 0 2 0 1] H = some (.ref H.length 0 2 0 1, H ++ [⟨0, true, 46, 2, [row]⟩]) := by
  rw [cal_of at26, show c26 = ⟨0, [.t 0], .user (pIns 2 46 24), false, false⟩ from rfl, fn_uIns]
  have hc2 : curBlk H bv 0 2 = some ⟨0, true, 46, 2, [row]⟩ := by simp [curBlk, hv]
  have h : pIns 2 46 24 [.nils, .int .i64 0, .ref bv 0 2 0 1] H = some ([.ref H.length 0 2 0 1], H ++ [⟨0, true, 46, 2, [row]⟩]) := by simp [pIns, hc2]
  rw [h]
  simp only [evX, Int.reduceEq, Int.reduceLT, Int.reduceLE, Nat.reduceMul, Nat.reduceMod, evW, fn_eq, evR, Nat.reduceAdd, Nat.reduceLT, Nat.reduceLeDiff, reduceIte, Nat.reduceEqDiff, reduceCtorEq, argEnv, eq_self, if_true, if_false]
  repeat' ((first | rw [guardK_cases] | rw [condK_bool] | rw [guardD_cases]); split <;> simp only [evX, Int.reduceEq, Int.reduceLT, Int.reduceLE, Nat.reduceMul, Nat.reduceMod, evW, evR, Nat.reduceAdd, Nat.reduceLT, Nat.reduceLeDiff, reduceIte, Nat.reduceEqDiff, reduceCtorEq, argEnv, eq_self, if_true, if_false, *])
/-- an insert into the forest that is nil -/
theorem f7n (b : Base) (hb : b.Ok) (p t : Int) (d : ByteArray) (H : Heap) : cal (evC cprog) true 7 [eBase b, .nils, .int .i64 p, .int .i64 t, .str d] H = some (eLIE (insL b [] p t d) (insN b [] p t d) (insE b [] p t d), H) := by
  rw [cal_of at7]
  have h25 := f25n b hb p t d
  simp only [eBase] at h25
  by_cases he : placeE b [] p t d = 0
  · obtain ⟨_, _, _, hn⟩ := place_ok hb he
    have hn0 : placeN b [] p t d = 0 := by simpa using hn
    have hR : placeR b [] p t d = 0 := by unfold placeR; rw [if_pos he, hn0]; rfl
    have e1 : insE b [] p t d = 0 := by unfold insE; rw [if_pos he]; simp
    have e2 : insL b [] p t d = [⟨t, d⟩] := by unfold insL; rw [if_pos e1, hn0]; rfl
    have e3 : insN b [] p t d = 0 := by unfold insN; rw [if_pos e1, hn0]; rfl
    rw [hR, he] at h25
    rw [e1, e2, e3]
    have h27 := f27n
    have h26 := f26m (H ++ [bBase b, ⟨0, true, 46, 2, [[.int .i64 t, .str d]]⟩]) (H.length + 1) [.int .i64 t, .str d] (by simp)
    simp only [bBase] at h26
    simp only [c7, eBase, h25, h27, h26, evX, Int.reduceEq, Int.reduceLT, Int.reduceLE, Nat.reduceMul, Nat.reduceMod, evW, fn_eq, evR, Nat.reduceAdd, Nat.reduceLT, Nat.reduceLeDiff, reduceIte, Nat.reduceEqDiff, reduceCtorEq, argEnv, eq_self, if_true, if_false]
    repeat' ((first | rw [guardK_cases] | rw [condK_bool] | rw [guardD_cases]); split <;> simp only [c7, eBase, h25, h27, h26, evX, Int.reduceEq, Int.reduceLT, Int.reduceLE, Nat.reduceMul, Nat.reduceMod, evW, evR, Nat.reduceAdd, Nat.reduceLT, Nat.reduceLeDiff, reduceIte, Nat.reduceEqDiff, reduceCtorEq, argEnv, eq_self, if_true, if_false, *])
    obtain ⟨ids, g1, g2⟩ := fz_blk (H := H ++ [bBase b, ⟨0, true, 46, 2, [[.int .i64 t, .str d]]⟩, ⟨0, true, 46, 2, [[.int .i64 t, .str d]]⟩]) (b := H.length + 2) (v := 0) (sz := 2) (len := 1) (k := ⟨0, true, 46, 2, [[.int .i64 t, .str d]]⟩) (by simp [curBlk]) (rows := ([⟨t, d⟩] : List Item).map rItem) rfl (plain_items _) 6
    exact frz_three (ids := ids) g1 rfl (by simp) (fun x hx => by have := g2 x hx; omega) _ _ _ _
  · have e1 : insE b [] p t d = placeE b [] p t d := if_neg he
    have e2 : insL b [] p t d = [] := by unfold insL; rw [e1, if_neg he]
    have e3 : insN b [] p t d = 0 := by unfold insN; rw [e1, if_neg he]
    rw [e1, e2, e3]
    simp only [c7, eBase, h25, he, evX, Int.reduceEq, Int.reduceLT, Int.reduceLE, Nat.reduceMul, Nat.reduceMod, evW, fn_eq, evR, Nat.reduceAdd, Nat.reduceLT, Nat.reduceLeDiff, reduceIte, Nat.reduceEqDiff, reduceCtorEq, argEnv, eq_self, if_true, if_false]
    repeat' ((first | rw [guardK_cases] | rw [condK_bool] | rw [guardD_cases]); split <;> simp only [c7, eBase, h25, he, evX, Int.reduceEq, Int.reduceLT, Int.reduceLE, Nat.reduceMul, Nat.reduceMod, evW, evR, Nat.reduceAdd, Nat.reduceLT, Nat.reduceLeDiff, reduceIte, Nat.reduceEqDiff, reduceCtorEq, argEnv, eq_self, if_true, if_false, *])
    exact frz_three (fz_nils _) rfl (by simp) (by simp) _ _ _ _
end Go.Proofs.YtondenmkhfignaaDoor.Code

/- TopForest: the loops over the items of a forest. -/
set_option linter.unusedSimpArgs false
set_option linter.unusedVariables false
namespace Go.Proofs.YtondenmkhfignaaDoor.Code
open Go.Proofs.YtondenmkhfignaaDoor.Ev

def hasN (l : List Int) (n : Int) : Bool := l.any fun k => decide (k = n)
theorem hasN_iff {l : List Int} {n : Int} : hasN l n = true ↔ n ∈ l := by
  unfold hasN
  rw [List.any_eq_true]
  exact ⟨fun ⟨x, h, e⟩ => by rw [← of_decide_eq_true e]; exact h, fun h => ⟨n, h, by simp⟩⟩
theorem f11 (l : List Int) (hl : l.length < 9223372036854775807) (n : Int) (H : Heap) : cal (evC cprog) false 11 [eIs l, .int .i64 n] H = some (.bool (hasN l n), H) := by
  rw [cal_of at11]
  have h1 := (sIs [] l).len
  simp only [List.length_map] at h1
  have hn : (l.all fun k => !decide (k = n)) = !hasN l n := by
    unfold hasN
    simp [List.any_eq_not_all_not]
  simp only [c11, evX, Int.reduceEq, Int.reduceLT, Int.reduceLE, Nat.reduceMul, Nat.reduceMod, evW, fn_eq, evR, Nat.reduceAdd, Nat.reduceLT, Nat.reduceLeDiff, reduceIte, Nat.reduceEqDiff, reduceCtorEq, argEnv, eq_self, if_true, if_false]
  repeat' ((first | rw [guardK_cases] | rw [condK_bool] | rw [guardD_cases]); split <;> simp only [c11, evX, Int.reduceEq, Int.reduceLT, Int.reduceLE, Nat.reduceMul, Nat.reduceMod, evW, evR, Nat.reduceAdd, Nat.reduceLT, Nat.reduceLeDiff, reduceIte, Nat.reduceEqDiff, reduceCtorEq, argEnv, eq_self, if_true, if_false, *])
  generalize hz : itLim _ _ = z
  have L := all_rule l (fun k => !decide (k = n)) [0, 1, 5] (fun i => [(0, eIs l), (1, .int .i64 n), (5, .int .i64 (i : Int))]) H [] (evCode (evC cprog) itLim c11_l0) (fun c T => c = .exit 0) (fun c T => c = .ret ∧ get T 4 = some (.bool true))
    (fun i x hx E G hE => by
      have hlt : i < l.length := (List.getElem?_eq_some_iff.1 hx).1
      have hi : (i : Int) < (l.length : Int) := by omega
      have ha := aI hx
      have hw := wrapS hlt hl
      by_cases he : x = n
      · have he' : (x = n) = True := eq_true he
        clear he
        simp only [c11_l0, hE, hi, h1, ha, rI, he', evX, Int.reduceEq, Int.reduceLT, Int.reduceLE, Nat.reduceMul, Nat.reduceMod, evW, fn_eq, evR, Nat.reduceAdd, Nat.reduceLT, Nat.reduceLeDiff, reduceIte, Nat.reduceEqDiff, reduceCtorEq, argEnv, eq_self, if_true, if_false]
        repeat' ((first | rw [guardK_cases] | rw [condK_bool] | rw [guardD_cases]); split <;> simp only [c11_l0, hE, hi, h1, ha, rI, he', evX, Int.reduceEq, Int.reduceLT, Int.reduceLE, Nat.reduceMul, Nat.reduceMod, evW, evR, Nat.reduceAdd, Nat.reduceLT, Nat.reduceLeDiff, reduceIte, Nat.reduceEqDiff, reduceCtorEq, argEnv, eq_self, if_true, if_false, *])
        exact Sc.ret rfl ⟨rfl, rfl⟩
      · have he' : (x = n) = False := eq_false he
        clear he
        simp only [c11_l0, hE, hi, h1, ha, rI, he', hw, evX, Int.reduceEq, Int.reduceLT, Int.reduceLE, Nat.reduceMul, Nat.reduceMod, evW, fn_eq, evR, Nat.reduceAdd, Nat.reduceLT, Nat.reduceLeDiff, reduceIte, Nat.reduceEqDiff, reduceCtorEq, argEnv, eq_self, if_true, if_false]
        repeat' ((first | rw [guardK_cases] | rw [condK_bool] | rw [guardD_cases]); split <;> simp only [c11_l0, hE, hi, h1, ha, rI, he', hw, evX, Int.reduceEq, Int.reduceLT, Int.reduceLE, Nat.reduceMul, Nat.reduceMod, evW, evR, Nat.reduceAdd, Nat.reduceLT, Nat.reduceLeDiff, reduceIte, Nat.reduceEqDiff, reduceCtorEq, argEnv, eq_self, if_true, if_false, *])
        exact Sc.next rfl (by rfl))
    (fun E G hE => by
      simp only [c11_l0, hE, h1, Int.lt_irrefl, evX, Int.reduceEq, Int.reduceLT, Int.reduceLE, Nat.reduceMul, Nat.reduceMod, evW, fn_eq, evR, Nat.reduceAdd, Nat.reduceLT, Nat.reduceLeDiff, reduceIte, Nat.reduceEqDiff, reduceCtorEq, argEnv, eq_self, if_true, if_false]
      repeat' ((first | rw [guardK_cases] | rw [condK_bool] | rw [guardD_cases]); split <;> simp only [c11_l0, hE, h1, Int.lt_irrefl, evX, Int.reduceEq, Int.reduceLT, Int.reduceLE, Nat.reduceMul, Nat.reduceMod, evW, evR, Nat.reduceAdd, Nat.reduceLT, Nat.reduceLeDiff, reduceIte, Nat.reduceEqDiff, reduceCtorEq, argEnv, eq_self, if_true, if_false, *])
      exact .exit (K := []) rfl) _ [] (by rfl) (by simp) z hz
  rcases L with ⟨ha, c, T, G, rfl, _, rfl⟩ | ⟨ha, c, T, G, rfl, _, rfl, hT⟩
  · rw [hn] at ha
    have : hasN l n = false := by simpa using ha
    rw [this]
    simp only [evX, Int.reduceEq, Int.reduceLT, Int.reduceLE, Nat.reduceMul, Nat.reduceMod, evW, fn_eq, evR, Nat.reduceAdd, Nat.reduceLT, Nat.reduceLeDiff, reduceIte, Nat.reduceEqDiff, reduceCtorEq, argEnv, eq_self, if_true, if_false]
    repeat' ((first | rw [guardK_cases] | rw [condK_bool] | rw [guardD_cases]); split <;> simp only [evX, Int.reduceEq, Int.reduceLT, Int.reduceLE, Nat.reduceMul, Nat.reduceMod, evW, evR, Nat.reduceAdd, Nat.reduceLT, Nat.reduceLeDiff, reduceIte, Nat.reduceEqDiff, reduceCtorEq, argEnv, eq_self, if_true, if_false, *])
  · rw [hn] at ha
    have : hasN l n = true := by simpa using ha
    rw [this]
    simp only [hT, evX, Int.reduceEq, Int.reduceLT, Int.reduceLE, Nat.reduceMul, Nat.reduceMod, evW, fn_eq, evR, Nat.reduceAdd, Nat.reduceLT, Nat.reduceLeDiff, reduceIte, Nat.reduceEqDiff, reduceCtorEq, argEnv, eq_self, if_true, if_false]
    repeat' ((first | rw [guardK_cases] | rw [condK_bool] | rw [guardD_cases]); split <;> simp only [hT, evX, Int.reduceEq, Int.reduceLT, Int.reduceLE, Nat.reduceMul, Nat.reduceMod, evW, evR, Nat.reduceAdd, Nat.reduceLT, Nat.reduceLeDiff, reduceIte, Nat.reduceEqDiff, reduceCtorEq, argEnv, eq_self, if_true, if_false, *])
/-- the way to a type, of the document -/
theorem f12 (b : Base) (hb : b.Ok) (hv : validB b = true) (k : Nat) (hk : k < b.types.length) (H : Heap) : cal (evC cprog) true 12 [eBase b, .int .i64 (k : Int)] H = some (.tup [eIs (anc b.types k), .int .i64 0], H) := by
  rw [cal_of at12]
  have h8 := (hb.lens hv).1
  have h33 := f33 b hb (.ref (H.length + 1) 0 1 0 1) [(k : Int)] (by simp) (H ++ [bBase b, bI k]) (one_slat H k [bBase b])
  rw [errB_ok hv hk] at h33
  have h20 := fun K => f20 b b.types.length (tys_good (valid_tys hv)) (Nat.le_refl _) (by omega) k hk K
  simp only [eBase, bBase, bI] at h33 h20
  have hi : (eIs (anc b.types k)).isTup = false := rfl
  simp only [c12, eBase, h33, h20, hi, evX, Int.reduceEq, Int.reduceLT, Int.reduceLE, Nat.reduceMul, Nat.reduceMod, evW, fn_eq, evR, Nat.reduceAdd, Nat.reduceLT, Nat.reduceLeDiff, reduceIte, Nat.reduceEqDiff, reduceCtorEq, argEnv, eq_self, if_true, if_false]
  repeat' ((first | rw [guardK_cases] | rw [condK_bool] | rw [guardD_cases]); split <;> simp only [c12, eBase, h33, h20, hi, evX, Int.reduceEq, Int.reduceLT, Int.reduceLE, Nat.reduceMul, Nat.reduceMod, evW, evR, Nat.reduceAdd, Nat.reduceLT, Nat.reduceLeDiff, reduceIte, Nat.reduceEqDiff, reduceCtorEq, argEnv, eq_self, if_true, if_false, *])
  exact frz_two (ids := []) rfl rfl (by simp) (by simp) _ _
end Go.Proofs.YtondenmkhfignaaDoor.Code

/- TopForest: the loops of the law: ends and paths; Unique ways. -/
set_option linter.unusedSimpArgs false
set_option linter.unusedVariables false
namespace Go.Proofs.YtondenmkhfignaaDoor.Code
open Go.Proofs.YtondenmkhfignaaDoor.Ev

theorem ends_ok {b : Base} {f : List Item} (hr : Right b f) {i k : Nat} (hi : i < f.length) (hk : k < f.length) : hasN (pth b.types f i) (k : Int) = (decide (k ≤ i) && decide (i < endOf b.types f k)) := by
  rw [Bool.eq_iff_iff, hasN_iff, pth_sub hr hi hk]
  simp
theorem l3_1 (b : Base) (f : List Item) (hr : Right b f) (i : Nat) (hi : i < f.length) (n : Nat) (H : Heap) (hn : Sits H n (bBase b)) (st : St) (hE : keepEnv st.1 [2, 5, 12, 13, 15] = [(2, .ptr n 0 4 0 0), (5, eItems f), (12, .int .i64 (i : Int)), (13, eIs (pth b.types f i)), (15, .int .i64 0)]) (hH : st.2 = H)
    (z : Option (CX × St)) (hz : itLim (evCode (evC cprog) itLim c3_l1) st = z) : ∃ T, z = some (.exit 4, T, H) ∧ keepEnv T [2, 5, 12, 13] = [(2, .ptr n 0 4 0 0), (5, eItems f), (12, .int .i64 (i : Int)), (13, eIs (pth b.types f i))] := by
  have hfr := hr.len
  have hlen := (sItems [] f).len
  simp only [List.length_map] at hlen
  have hn0 := hn.at
  simp only [bBase] at hn0
  have hpl := fk_len hr hi
  have L := loop_rule (σ := Nat) (m := [2, 5, 12, 13, 15]) (env := fun k => [(2, .ptr n 0 4 0 0), (5, eItems f), (12, .int .i64 (i : Int)), (13, eIs (pth b.types f i)), (15, .int .i64 (k : Int))]) (hp := fun _ => H)
    (P := fun _ r => ∃ T, r = (.exit 4, T, H) ∧ keepEnv T [2, 5, 12, 13] = [(2, .ptr n 0 4 0 0), (5, eItems f), (12, .int .i64 (i : Int)), (13, eIs (pth b.types f i))])
    (mu := fun k => f.length - k) (I := fun k => k ≤ f.length) (evCode (evC cprog) itLim c3_l1) ?_ 0 st (Nat.zero_le _) hE hH z hz
  · obtain ⟨_, rfl, T, rfl, hT⟩ := L
    exact ⟨T, rfl, hT⟩
  · intro k hk E hE
    by_cases hlt : k < f.length
    · have hkl : (k : Int) < (f.length : Int) := by omega
      have h10 := f10 b hr.base f (by omega) (k : Int) H
      have he0 := right_err hr hlt
      have hev : endV b f (k : Int) = (endOf b.types f k : Int) := by unfold endV; rw [if_pos he0, Int.toNat_natCast]
      rw [he0, hev] at h10
      have h11 := f11 (pth b.types f i) (by omega) (k : Int) H
      rw [ends_ok hr hi hlt] at h11
      have hw := wrapS hlt (by omega)
      simp only [eBase] at h10
      by_cases a1 : k ≤ i
      · have a1' : (k : Int) ≤ (i : Int) := by omega
        by_cases a2 : i < endOf b.types f k
        · have a2' : (i : Int) < (endOf b.types f k : Int) := by omega
          rw [decide_eq_true a1, decide_eq_true a2] at h11
          simp only [c3_l1, hE, hkl, hlen, hn0, h10, h11, a1', a2', eqb_bool, beq_self_eq_true, hw, evX, Int.reduceEq, Int.reduceLT, Int.reduceLE, Nat.reduceMul, Nat.reduceMod, evW, fn_eq, evR, Nat.reduceAdd, Nat.reduceLT, Nat.reduceLeDiff, reduceIte, Nat.reduceEqDiff, reduceCtorEq, argEnv, eq_self, if_true, if_false]
          repeat' ((first | rw [guardK_cases] | rw [condK_bool] | rw [guardD_cases]); split <;> simp only [c3_l1, hE, hkl, hlen, hn0, h10, h11, a1', a2', eqb_bool, beq_self_eq_true, hw, evX, Int.reduceEq, Int.reduceLT, Int.reduceLE, Nat.reduceMul, Nat.reduceMod, evW, evR, Nat.reduceAdd, Nat.reduceLT, Nat.reduceLeDiff, reduceIte, Nat.reduceEqDiff, reduceCtorEq, argEnv, eq_self, if_true, if_false, *])
          exact q_next (k + 1) (by rfl) rfl (by omega) (by omega) fun r h => h
        · have a2' : ¬ (i : Int) < (endOf b.types f k : Int) := by omega
          rw [decide_eq_true a1, decide_eq_false a2] at h11
          simp only [c3_l1, hE, hkl, hlen, hn0, h10, h11, a1', a2', eqb_bool, beq_self_eq_true, hw, evX, Int.reduceEq, Int.reduceLT, Int.reduceLE, Nat.reduceMul, Nat.reduceMod, evW, fn_eq, evR, Nat.reduceAdd, Nat.reduceLT, Nat.reduceLeDiff, reduceIte, Nat.reduceEqDiff, reduceCtorEq, argEnv, eq_self, if_true, if_false]
          repeat' ((first | rw [guardK_cases] | rw [condK_bool] | rw [guardD_cases]); split <;> simp only [c3_l1, hE, hkl, hlen, hn0, h10, h11, a1', a2', eqb_bool, beq_self_eq_true, hw, evX, Int.reduceEq, Int.reduceLT, Int.reduceLE, Nat.reduceMul, Nat.reduceMod, evW, evR, Nat.reduceAdd, Nat.reduceLT, Nat.reduceLeDiff, reduceIte, Nat.reduceEqDiff, reduceCtorEq, argEnv, eq_self, if_true, if_false, *])
          exact q_next (k + 1) (by rfl) rfl (by omega) (by omega) fun r h => h
      · have a1' : ¬ (k : Int) ≤ (i : Int) := by omega
        rw [decide_eq_false a1] at h11
        simp only [c3_l1, hE, hkl, hlen, hn0, h10, h11, a1', eqb_bool, beq_self_eq_true, hw, evX, Int.reduceEq, Int.reduceLT, Int.reduceLE, Nat.reduceMul, Nat.reduceMod, evW, fn_eq, evR, Nat.reduceAdd, Nat.reduceLT, Nat.reduceLeDiff, reduceIte, Nat.reduceEqDiff, reduceCtorEq, argEnv, eq_self, if_true, if_false]
        repeat' ((first | rw [guardK_cases] | rw [condK_bool] | rw [guardD_cases]); split <;> simp only [c3_l1, hE, hkl, hlen, hn0, h10, h11, a1', eqb_bool, beq_self_eq_true, hw, evX, Int.reduceEq, Int.reduceLT, Int.reduceLE, Nat.reduceMul, Nat.reduceMod, evW, evR, Nat.reduceAdd, Nat.reduceLT, Nat.reduceLeDiff, reduceIte, Nat.reduceEqDiff, reduceCtorEq, argEnv, eq_self, if_true, if_false, *])
        exact q_next (k + 1) (by rfl) rfl (by omega) (by omega) fun r h => h
    · have hkl : ¬ (k : Int) < (f.length : Int) := by omega
      simp only [c3_l1, hE, hkl, hlen, evX, Int.reduceEq, Int.reduceLT, Int.reduceLE, Nat.reduceMul, Nat.reduceMod, evW, fn_eq, evR, Nat.reduceAdd, Nat.reduceLT, Nat.reduceLeDiff, reduceIte, Nat.reduceEqDiff, reduceCtorEq, argEnv, eq_self, if_true, if_false]
      repeat' ((first | rw [guardK_cases] | rw [condK_bool] | rw [guardD_cases]); split <;> simp only [c3_l1, hE, hkl, hlen, evX, Int.reduceEq, Int.reduceLT, Int.reduceLE, Nat.reduceMul, Nat.reduceMod, evW, evR, Nat.reduceAdd, Nat.reduceLT, Nat.reduceLeDiff, reduceIte, Nat.reduceEqDiff, reduceCtorEq, argEnv, eq_self, if_true, if_false, *])
      exact q_exit ⟨_, rfl, by rfl⟩
/-- the types are Unique, so far -/
def uqA (ts : List Ty) (l : List Int) (j : Nat) : Bool := (l.take j).all fun t => (tyOf ts t).unique
theorem uqA_step (ts : List Ty) {l : List Int} {j : Nat} {t : Int} (h : l[j]? = some t) : uqA ts l (j + 1) = (uqA ts l j && (tyOf ts t).unique) := by
  unfold uqA
  rw [List.take_add_one, h, Option.toList_some, List.all_append]
  simp
theorem l3_2 (b : Base) (k : Nat) (hk : k < b.types.length) (h8 : b.types.length ≤ 1000) (f : List Item) (i : Int) (n : Nat) (H : Heap) (hn : Sits H n (bBase b)) (st : St) (hE : keepEnv st.1 [2, 5, 12, 22, 23, 25] = [(2, .ptr n 0 4 0 0), (5, eItems f), (12, .int .i64 i), (22, .bool true), (23, eIs (anc b.types k)), (25, .int .i64 0)]) (hH : st.2 = H)
    (z : Option (CX × St)) (hz : itLim (evCode (evC cprog) itLim c3_l2) st = z) : ∃ T, z = some (.exit 6, T, H) ∧ keepEnv T [2, 5, 12, 22] = [(2, .ptr n 0 4 0 0), (5, eItems f), (12, .int .i64 i), (22, .bool (uqA b.types (anc b.types k) (anc b.types k).length))] := by
  have hal := anc_len b.types k k (Nat.le_refl _)
  have hlen := (sIs [] (anc b.types k)).len
  simp only [List.length_map] at hlen
  have hn0 := hn.at
  simp only [bBase] at hn0
  have L := loop_rule (σ := Nat) (m := [2, 5, 12, 22, 23, 25]) (env := fun j => [(2, .ptr n 0 4 0 0), (5, eItems f), (12, .int .i64 i), (22, .bool (uqA b.types (anc b.types k) j)), (23, eIs (anc b.types k)), (25, .int .i64 (j : Int))]) (hp := fun _ => H)
    (P := fun _ r => ∃ T, r = (.exit 6, T, H) ∧ keepEnv T [2, 5, 12, 22] = [(2, .ptr n 0 4 0 0), (5, eItems f), (12, .int .i64 i), (22, .bool (uqA b.types (anc b.types k) (anc b.types k).length))])
    (mu := fun j => (anc b.types k).length - j) (I := fun j => j ≤ (anc b.types k).length) (evCode (evC cprog) itLim c3_l2) ?_ 0 st (Nat.zero_le _) hE hH z hz
  · obtain ⟨_, rfl, T, rfl, hT⟩ := L
    exact ⟨T, rfl, hT⟩
  · intro j hj E hE
    by_cases hlt : j < (anc b.types k).length
    · obtain ⟨t, ht⟩ : ∃ t, (anc b.types k)[j]? = some t := ⟨_, List.getElem?_eq_getElem hlt⟩
      have htb := anc_bound (List.mem_of_getElem? ht)
      obtain ⟨m, rfl⟩ : ∃ m : Nat, t = (m : Int) := ⟨t.toNat, by omega⟩
      obtain ⟨ty, hty⟩ : ∃ ty, b.types[m]? = some ty := ⟨_, List.getElem?_eq_getElem (by omega)⟩
      have hi : (j : Int) < ((anc b.types k).length : Int) := by omega
      have ha := aI ht
      have hat := aTy hty
      have hw := wrapS hlt (by omega)
      have hs := uqA_step b.types ht
      rw [tyOf_at hty] at hs
      cases hb : uqA b.types (anc b.types k) j with
      | true =>
        rw [hb] at hE hs
        simp only [c3_l2, hE, hi, hlen, hn0, ha, rI, hat, rTy, hw, evX, Int.reduceEq, Int.reduceLT, Int.reduceLE, Nat.reduceMul, Nat.reduceMod, evW, fn_eq, evR, Nat.reduceAdd, Nat.reduceLT, Nat.reduceLeDiff, reduceIte, Nat.reduceEqDiff, reduceCtorEq, argEnv, eq_self, if_true, if_false]
        repeat' ((first | rw [guardK_cases] | rw [condK_bool] | rw [guardD_cases]); split <;> simp only [c3_l2, hE, hi, hlen, hn0, ha, rI, hat, rTy, hw, evX, Int.reduceEq, Int.reduceLT, Int.reduceLE, Nat.reduceMul, Nat.reduceMod, evW, evR, Nat.reduceAdd, Nat.reduceLT, Nat.reduceLeDiff, reduceIte, Nat.reduceEqDiff, reduceCtorEq, argEnv, eq_self, if_true, if_false, *])
        exact q_next (j + 1) (by rw [hs]; rfl) rfl (by omega) (by omega) fun r h => h
      | false =>
        rw [hb] at hE hs
        simp only [c3_l2, hE, hi, hlen, hn0, ha, rI, hat, rTy, hw, evX, Int.reduceEq, Int.reduceLT, Int.reduceLE, Nat.reduceMul, Nat.reduceMod, evW, fn_eq, evR, Nat.reduceAdd, Nat.reduceLT, Nat.reduceLeDiff, reduceIte, Nat.reduceEqDiff, reduceCtorEq, argEnv, eq_self, if_true, if_false]
        repeat' ((first | rw [guardK_cases] | rw [condK_bool] | rw [guardD_cases]); split <;> simp only [c3_l2, hE, hi, hlen, hn0, ha, rI, hat, rTy, hw, evX, Int.reduceEq, Int.reduceLT, Int.reduceLE, Nat.reduceMul, Nat.reduceMod, evW, evR, Nat.reduceAdd, Nat.reduceLT, Nat.reduceLeDiff, reduceIte, Nat.reduceEqDiff, reduceCtorEq, argEnv, eq_self, if_true, if_false, *])
        exact q_next (j + 1) (by rw [hs]; rfl) rfl (by omega) (by omega) fun r h => h
    · have : j = (anc b.types k).length := by omega
      subst this
      simp only [c3_l2, hE, hlen, Int.lt_irrefl, evX, Int.reduceEq, Int.reduceLT, Int.reduceLE, Nat.reduceMul, Nat.reduceMod, evW, fn_eq, evR, Nat.reduceAdd, Nat.reduceLT, Nat.reduceLeDiff, reduceIte, Nat.reduceEqDiff, reduceCtorEq, argEnv, eq_self, if_true, if_false]
      repeat' ((first | rw [guardK_cases] | rw [condK_bool] | rw [guardD_cases]); split <;> simp only [c3_l2, hE, hlen, Int.lt_irrefl, evX, Int.reduceEq, Int.reduceLT, Int.reduceLE, Nat.reduceMul, Nat.reduceMod, evW, evR, Nat.reduceAdd, Nat.reduceLT, Nat.reduceLeDiff, reduceIte, Nat.reduceEqDiff, reduceCtorEq, argEnv, eq_self, if_true, if_false, *])
      exact q_exit ⟨_, rfl, by rfl⟩
end Go.Proofs.YtondenmkhfignaaDoor.Code

/- TopForest: what is found by a full key; the loop over all items. -/
set_option linter.unusedSimpArgs false
set_option linter.unusedVariables false
namespace Go.Proofs.YtondenmkhfignaaDoor.Code
open Go.Proofs.YtondenmkhfignaaDoor.Ev

theorem find_own {b : Base} {f : List Item} {i : Nat} {x : Item} (hx : f[i]? = some x) : (i : Int) ∈ findL b f (keyU (fkL b f i)) x.type := by
  unfold findL
  rw [mem_gath]
  exact ⟨i, x, hx, by simp [findG]⟩
theorem gath_one {α : Type} (c : Int) (i : Nat) : ∀ (l : List α) (k : Nat), (gath (fun j (_ : α) => if j = i then [c] else []) k l).length = if k ≤ i ∧ i < k + l.length then 1 else 0
  | [], k => by
    simp only [gath, List.length_nil]
    rw [if_neg (by omega)]
  | x :: l, k => by
    rw [gath, List.length_append, gath_one c i l (k + 1)]
    by_cases h : k = i
    · subst h
      rw [if_pos rfl, if_neg (by omega), if_pos (by simp)]
      rfl
    · rw [if_neg h]
      by_cases h2 : k + 1 ≤ i ∧ i < k + 1 + l.length
      · rw [if_pos h2, if_pos (by simp only [List.length_cons]; omega)]
        rfl
      · rw [if_neg h2, if_neg (by simp only [List.length_cons]; omega)]
        rfl
theorem find_len {b : Base} {f : List Item} (hr : Right b f) {i : Nat} {x : Item} (hx : f[i]? = some x) (hu : uqA b.types (anc b.types x.type.toNat) (anc b.types x.type.toNat).length = true) : (findL b f (keyU (fkL b f i)) x.type).length = 1 := by
  have hi := (List.getElem?_eq_some_iff.1 hx).1
  have e : gath (findG b f (keyU (fkL b f i)) x.type) 0 f = gath (fun j (_ : Item) => if j = i then [(i : Int)] else []) 0 f := by
    refine gath_congr f 0 fun j y hy => ?_
    have hj := (List.getElem?_eq_some_iff.1 hy).1
    rw [Nat.zero_add]
    unfold findG
    by_cases hji : j = i
    · subst hji
      rw [hx] at hy; cases hy
      simp
    · rw [if_neg hji, if_neg]
      rintro ⟨h1, h2⟩
      refine hji (key_one hr i i j (Nat.le_refl _) hi hj (by rw [typ_at hx, typ_at hy, h1]) (keyU_inj h2).symm fun a ha => ?_).symm
      have hm := pth_typ hr i i (Nat.le_refl _) hi a ha
      rw [typ_at hx] at hm
      unfold uqA at hu
      rw [List.take_length, List.all_eq_true] at hu
      exact hu _ hm
  unfold findL
  rw [e, gath_one, if_pos (by omega)]
theorem findG_len' (b : Base) (f : List Item) (q : List UInt8) (t : Int) : (findL b f q t).length ≤ f.length := findG_len b f q t f
set_option maxHeartbeats 16000000 in
theorem l3_3 (b : Base) (f : List Item) (hr : Right b f) (n : Nat) (H : Heap) (hn : Sits H n (bBase b)) (st : St) (hE : keepEnv st.1 [2, 5, 12] = [(2, .ptr n 0 4 0 0), (5, eItems f), (12, .int .i64 0)]) (hH : st.2 = H)
    (z : Option (CX × St)) (hz : itLim (evCode (evC cprog) itLim c3_l3) st = z) : ∃ T, z = some (.exit 2, T, H) ∧ keepEnv T [2, 5] = [(2, .ptr n 0 4 0 0), (5, eItems f)] := by
  have hfr := hr.len
  have hb := hr.base
  have hlen := (sItems [] f).len
  simp only [List.length_map] at hlen
  have hn0 := hn.at
  simp only [bBase] at hn0
  have h8 := (hb.lens hr.valid).1
  have L := loop_rule (σ := Nat) (m := [2, 5, 12]) (env := fun i => [(2, .ptr n 0 4 0 0), (5, eItems f), (12, .int .i64 (i : Int))]) (hp := fun _ => H)
    (P := fun _ r => ∃ T, r = (.exit 2, T, H) ∧ keepEnv T [2, 5] = [(2, .ptr n 0 4 0 0), (5, eItems f)])
    (mu := fun k => f.length - k) (I := fun k => k ≤ f.length) (evCode (evC cprog) itLim c3_l3) ?_ 0 st (Nat.zero_le _) hE hH z hz
  · obtain ⟨_, rfl, T, rfl, hT⟩ := L
    exact ⟨T, rfl, hT⟩
  · intro i hi' E hE
    by_cases hi : i < f.length
    · have hil : (i : Int) < (f.length : Int) := by omega
      have he0 := right_err hr hi
      have h9 := f9 b hb f (by omega) (i : Int) H
      have hpv : pthV b f (i : Int) = pth b.types f i := by unfold pthV; rw [if_pos he0, Int.toNat_natCast]
      rw [he0, hpv] at h9
      have hpl := fk_len hr hi
      have hpn : 0 < (pth b.types f i).length := List.length_pos_iff.2 (anc_ne _ _)
      have hplen := (sIs [] (pth b.types f i)).len
      simp only [List.length_map] at hplen
      have hp0 : (((pth b.types f i).length : Int) = 0) = False := eq_false (by omega)
      have hw1 : IntKind.i64.wrap (((pth b.types f i).length : Int) - 1) = (((pth b.types f i).length - 1 : Nat) : Int) := by rw [wrap_i64 (by omega) (by omega)]; omega
      have hlast : (pth b.types f i)[(pth b.types f i).length - 1]? = some (i : Int) := by rw [← List.getLast?_eq_getElem?, pth_last]
      have ha1 := aI hlast
      obtain ⟨x, k, ty, hx, hk, hkl, hty, _⟩ := hr.item hi
      have hax := aItem hx
      have h12 := fun K => f12 b hb hr.valid k hkl K
      have h13 := f13 b hb f (by omega) (i : Int) H
      have hkv : keyV b f (i : Int) = keyU (fkL b f i) := by unfold keyV; rw [if_pos he0, Int.toNat_natCast]
      rw [he0, hkv] at h13
      have h14 := f14 b hb f (keyU (fkL b f i)) (k : Int) H
      have hfe : findE b f (k : Int) = 0 := by
        have : errF b f [] = 0 := by
          unfold errF; rw [if_pos hr.valid, if_pos hr.forest]; simp
        unfold findE; rw [if_pos this, if_pos (by omega)]
      have hfv : findV b f (keyU (fkL b f i)) (k : Int) = findL b f (keyU (fkL b f i)) (k : Int) := if_pos hfe
      rw [hfe, hfv] at h14
      have hfl := findG_len' b f (keyU (fkL b f i)) (k : Int)
      have h11 := f11 (findL b f (keyU (fkL b f i)) (k : Int)) (by omega) (i : Int) H
      have hown : hasN (findL b f (keyU (fkL b f i)) (k : Int)) (i : Int) = true := hasN_iff.2 (by rw [← hk]; exact find_own hx)
      rw [hown] at h11
      have hflen := (sIs [] (findL b f (keyU (fkL b f i)) (k : Int))).len
      simp only [List.length_map] at hflen
      have hone : uqA b.types (anc b.types k) (anc b.types k).length = true → (findL b f (keyU (fkL b f i)) (k : Int)).length = 1 := fun hu => by
        have := find_len hr hx (by rw [hk, Int.toNat_natCast]; exact hu)
        rwa [hk] at this
      have hw := wrapS hi (by omega)
      have hpI : (pth b.types f i).length = (pthI b.types f (par b.types f i)).length + 1 := by rw [pth_eq b.types f hi]; simp
      have h10 := f10 b hb f (by omega) (i : Int) H
      have hev : endV b f (i : Int) = (endOf b.types f i : Int) := by unfold endV; rw [if_pos he0, Int.toNat_natCast]
      rw [he0, hev] at h10
      have hpar : 1 < (pth b.types f i).length → ∃ q : Nat, q < f.length ∧ (pth b.types f i)[(pth b.types f i).length - 2]? = some (q : Int) ∧ endOf b.types f i ≤ endOf b.types f q := fun h1 => by
        have hp0 : 0 ≤ par b.types f i := by
          apply Classical.byContradiction
          intro hc
          rw [pthI_neg _ _ (by omega)] at hpI
          simp at hpI
          omega
        obtain ⟨q, hq⟩ : ∃ q : Nat, par b.types f i = (q : Int) := ⟨(par b.types f i).toNat, by omega⟩
        have hql : q < f.length := by have := (par_lt b.types f i).2; omega
        refine ⟨q, hql, ?_, end_sub hr hi hql (par_mem hi hq)⟩
        rw [hq, pthI_nat] at hpI
        rw [pth_eq b.types f hi, hq, pthI_nat, List.length_append, List.length_singleton, List.getElem?_append_left (by omega), show (pth b.types f q).length + 1 - 2 = (pth b.types f q).length - 1 by omega, ← List.getLast?_eq_getElem?, pth_last]
      clear hpv hkv hfe hfv hown hpI hev hpn
      simp only [eBase] at h9 h10 h12 h13 h14
      simp only [c3_l3, hE, hil, hlen, hn0, h9, hplen, hp0, hw1, ha1, rI, evX, Int.reduceEq, Int.reduceLT, Int.reduceLE, Nat.reduceMul, Nat.reduceMod, evW, fn_eq, evR, Nat.reduceAdd, Nat.reduceLT, Nat.reduceLeDiff, reduceIte, Nat.reduceEqDiff, reduceCtorEq, argEnv, eq_self, if_true, if_false]
      repeat' ((first | rw [guardK_cases] | rw [condK_bool] | rw [guardD_cases]); split <;> simp only [c3_l3, hE, hil, hlen, hn0, h9, hplen, hp0, hw1, ha1, rI, evX, Int.reduceEq, Int.reduceLT, Int.reduceLE, Nat.reduceMul, Nat.reduceMod, evW, evR, Nat.reduceAdd, Nat.reduceLT, Nat.reduceLeDiff, reduceIte, Nat.reduceEqDiff, reduceCtorEq, argEnv, eq_self, if_true, if_false, *])
      generalize hz : itLim _ _ = z
      obtain ⟨T, rfl, hT⟩ := l3_1 b f hr i hi n H hn _ (by rfl) rfl z hz
      by_cases h1 : 1 < (pth b.types f i).length
      · have h1' : (1 : Int) < ((pth b.types f i).length : Int) := by omega
        obtain ⟨q, hql, hq, hle⟩ := hpar h1
        have ha2 := aI hq
        have hw2 : IntKind.i64.wrap (((pth b.types f i).length : Int) - 2) = (((pth b.types f i).length - 2 : Nat) : Int) := by rw [wrap_i64 (by omega) (by omega)]; omega
        have h10q := f10 b hb f (by omega) (q : Int) H
        have hqv : endV b f (q : Int) = (endOf b.types f q : Int) := by unfold endV; rw [if_pos (right_err hr hql), Int.toNat_natCast]
        rw [right_err hr hql, hqv] at h10q
        have hle' : ¬ (endOf b.types f q : Int) < (endOf b.types f i : Int) := by omega
        simp only [eBase] at h10q
        clear hqv hle hq hpar
        simp only [hT, hplen, h1', h10, hn0, hw2, ha2, rI, h10q, hle', hax, rItem, hk, h12, evX, Int.reduceEq, Int.reduceLT, Int.reduceLE, Nat.reduceMul, Nat.reduceMod, evW, fn_eq, evR, Nat.reduceAdd, Nat.reduceLT, Nat.reduceLeDiff, reduceIte, Nat.reduceEqDiff, reduceCtorEq, argEnv, eq_self, if_true, if_false]
        repeat' ((first | rw [guardK_cases] | rw [condK_bool] | rw [guardD_cases]); split <;> simp only [hT, hplen, h1', h10, hn0, hw2, ha2, rI, h10q, hle', hax, rItem, hk, h12, evX, Int.reduceEq, Int.reduceLT, Int.reduceLE, Nat.reduceMul, Nat.reduceMod, evW, evR, Nat.reduceAdd, Nat.reduceLT, Nat.reduceLeDiff, reduceIte, Nat.reduceEqDiff, reduceCtorEq, argEnv, eq_self, if_true, if_false, *])
        generalize hz : itLim _ _ = z
        obtain ⟨T, rfl, hT⟩ := l3_2 b k hkl (by omega) f (i : Int) n H hn _ (by rfl) rfl z hz
        cases hu : uqA b.types (anc b.types k) (anc b.types k).length with
        | true =>
          have h1f : (((findL b f (keyU (fkL b f i)) (k : Int)).length : Int) = 1) = True := eq_true (by have := hone hu; omega)
          rw [hu] at hT
          clear hone
          simp only [hT, hn0, h13, hax, rItem, hk, h14, h11, hflen, h1f, hw, evX, Int.reduceEq, Int.reduceLT, Int.reduceLE, Nat.reduceMul, Nat.reduceMod, evW, fn_eq, evR, Nat.reduceAdd, Nat.reduceLT, Nat.reduceLeDiff, reduceIte, Nat.reduceEqDiff, reduceCtorEq, argEnv, eq_self, if_true, if_false]
          repeat' ((first | rw [guardK_cases] | rw [condK_bool] | rw [guardD_cases]); split <;> simp only [hT, hn0, h13, hax, rItem, hk, h14, h11, hflen, h1f, hw, evX, Int.reduceEq, Int.reduceLT, Int.reduceLE, Nat.reduceMul, Nat.reduceMod, evW, evR, Nat.reduceAdd, Nat.reduceLT, Nat.reduceLeDiff, reduceIte, Nat.reduceEqDiff, reduceCtorEq, argEnv, eq_self, if_true, if_false, *])
          exact q_next (i + 1) (by rfl) rfl (by omega) (by omega) fun r h => h
        | false =>
          rw [hu] at hT
          clear hone
          simp only [hT, hn0, h13, hax, rItem, hk, h14, h11, hflen, hw, evX, Int.reduceEq, Int.reduceLT, Int.reduceLE, Nat.reduceMul, Nat.reduceMod, evW, fn_eq, evR, Nat.reduceAdd, Nat.reduceLT, Nat.reduceLeDiff, reduceIte, Nat.reduceEqDiff, reduceCtorEq, argEnv, eq_self, if_true, if_false]
          repeat' ((first | rw [guardK_cases] | rw [condK_bool] | rw [guardD_cases]); split <;> simp only [hT, hn0, h13, hax, rItem, hk, h14, h11, hflen, hw, evX, Int.reduceEq, Int.reduceLT, Int.reduceLE, Nat.reduceMul, Nat.reduceMod, evW, evR, Nat.reduceAdd, Nat.reduceLT, Nat.reduceLeDiff, reduceIte, Nat.reduceEqDiff, reduceCtorEq, argEnv, eq_self, if_true, if_false, *])
          exact q_next (i + 1) (by rfl) rfl (by omega) (by omega) fun r h => h
      · have h1' : ¬ (1 : Int) < ((pth b.types f i).length : Int) := by omega
        clear hpar
        simp only [hT, hplen, h1', hn0, hax, rItem, hk, h12, evX, Int.reduceEq, Int.reduceLT, Int.reduceLE, Nat.reduceMul, Nat.reduceMod, evW, fn_eq, evR, Nat.reduceAdd, Nat.reduceLT, Nat.reduceLeDiff, reduceIte, Nat.reduceEqDiff, reduceCtorEq, argEnv, eq_self, if_true, if_false]
        repeat' ((first | rw [guardK_cases] | rw [condK_bool] | rw [guardD_cases]); split <;> simp only [hT, hplen, h1', hn0, hax, rItem, hk, h12, evX, Int.reduceEq, Int.reduceLT, Int.reduceLE, Nat.reduceMul, Nat.reduceMod, evW, evR, Nat.reduceAdd, Nat.reduceLT, Nat.reduceLeDiff, reduceIte, Nat.reduceEqDiff, reduceCtorEq, argEnv, eq_self, if_true, if_false, *])
        generalize hz : itLim _ _ = z
        obtain ⟨T, rfl, hT⟩ := l3_2 b k hkl (by omega) f (i : Int) n H hn _ (by rfl) rfl z hz
        cases hu : uqA b.types (anc b.types k) (anc b.types k).length with
        | true =>
          have h1f : (((findL b f (keyU (fkL b f i)) (k : Int)).length : Int) = 1) = True := eq_true (by have := hone hu; omega)
          rw [hu] at hT
          clear hone
          simp only [hT, hn0, h13, hax, rItem, hk, h14, h11, hflen, h1f, hw, evX, Int.reduceEq, Int.reduceLT, Int.reduceLE, Nat.reduceMul, Nat.reduceMod, evW, fn_eq, evR, Nat.reduceAdd, Nat.reduceLT, Nat.reduceLeDiff, reduceIte, Nat.reduceEqDiff, reduceCtorEq, argEnv, eq_self, if_true, if_false]
          repeat' ((first | rw [guardK_cases] | rw [condK_bool] | rw [guardD_cases]); split <;> simp only [hT, hn0, h13, hax, rItem, hk, h14, h11, hflen, h1f, hw, evX, Int.reduceEq, Int.reduceLT, Int.reduceLE, Nat.reduceMul, Nat.reduceMod, evW, evR, Nat.reduceAdd, Nat.reduceLT, Nat.reduceLeDiff, reduceIte, Nat.reduceEqDiff, reduceCtorEq, argEnv, eq_self, if_true, if_false, *])
          exact q_next (i + 1) (by rfl) rfl (by omega) (by omega) fun r h => h
        | false =>
          rw [hu] at hT
          clear hone
          simp only [hT, hn0, h13, hax, rItem, hk, h14, h11, hflen, hw, evX, Int.reduceEq, Int.reduceLT, Int.reduceLE, Nat.reduceMul, Nat.reduceMod, evW, fn_eq, evR, Nat.reduceAdd, Nat.reduceLT, Nat.reduceLeDiff, reduceIte, Nat.reduceEqDiff, reduceCtorEq, argEnv, eq_self, if_true, if_false]
          repeat' ((first | rw [guardK_cases] | rw [condK_bool] | rw [guardD_cases]); split <;> simp only [hT, hn0, h13, hax, rItem, hk, h14, h11, hflen, hw, evX, Int.reduceEq, Int.reduceLT, Int.reduceLE, Nat.reduceMul, Nat.reduceMod, evW, evR, Nat.reduceAdd, Nat.reduceLT, Nat.reduceLeDiff, reduceIte, Nat.reduceEqDiff, reduceCtorEq, argEnv, eq_self, if_true, if_false, *])
          exact q_next (i + 1) (by rfl) rfl (by omega) (by omega) fun r h => h
    · have hil : ¬ (i : Int) < (f.length : Int) := by omega
      simp only [c3_l3, hE, hil, hlen, evX, Int.reduceEq, Int.reduceLT, Int.reduceLE, Nat.reduceMul, Nat.reduceMod, evW, fn_eq, evR, Nat.reduceAdd, Nat.reduceLT, Nat.reduceLeDiff, reduceIte, Nat.reduceEqDiff, reduceCtorEq, argEnv, eq_self, if_true, if_false]
      repeat' ((first | rw [guardK_cases] | rw [condK_bool] | rw [guardD_cases]); split <;> simp only [c3_l3, hE, hil, hlen, evX, Int.reduceEq, Int.reduceLT, Int.reduceLE, Nat.reduceMul, Nat.reduceMod, evW, evR, Nat.reduceAdd, Nat.reduceLT, Nat.reduceLeDiff, reduceIte, Nat.reduceEqDiff, reduceCtorEq, argEnv, eq_self, if_true, if_false, *])
      exact q_exit ⟨_, rfl, by rfl⟩
end Go.Proofs.YtondenmkhfignaaDoor.Code

/- The law TopForest is true. -/
set_option linter.unusedSimpArgs false
set_option linter.unusedVariables false
namespace Go.Proofs.YtondenmkhfignaaDoor.Code
open Go.Proofs.YtondenmkhfignaaDoor.Ev

structure Put where
  at' : Int
  type : Int
  data : ByteArray
def rPut (x : Put) : List AV := [.int .i64 x.at', .int .i64 x.type, .str x.data]
def ePuts (l : List Put) : AV := .lst (l.map rPut)
theorem aPut {l : List Put} {i : Nat} {x : Put} (hx : l[i]? = some x) : iaddrK 3 (some (ePuts l)) (some (.int .i64 (i : Int))) = some (.fptr (rPut x)) := lFp rPut (fun _ => rfl) hx
theorem sPuts (H : Heap) (l : List Put) : SlAt H 3 (ePuts l) (l.map rPut) := sLst rPut (fun _ => rfl) H l
/-- what a forest is, as the law holds it -/
inductive Fv (b : Base) : AV → List Item → Prop where
  | nil : Fv b .nils []
  | some {f : List Item} (h : Right b f) : Fv b (eItems f) f
theorem ins_good {b : Base} (hb : b.Ok) {f : List Item} {p t : Int} {d : ByteArray} (h : insE b f p t d = 0) : Right b (insL b f p t d) ∧ (insL b f p t d).length = f.length + 1 := by
  have h0 := h
  unfold insE at h
  split at h
  case isFalse he => exact absurd h he
  rename_i he
  split at h
  · cases h
  rename_i h200
  obtain ⟨R, hg, htw, hn⟩ := place_ok hb he
  obtain ⟨q1, q2, q3, q4⟩ := argOk_at hg
  have S := spot_of R q1 q2 q3 q4 htw
  have e : insL b f p t d = insX f t d (placeN b f p t d) := if_pos h0
  rw [e]
  exact ⟨S.right (by omega), insX_len S.le⟩
theorem l3_0 (b : Base) (hb : b.Ok) (hv : validB b = true) (l : List Put) (hl : l.length ≤ 20) (n : Nat) (H : Heap) (hn : Sits H n (bBase b)) (st : St) (hE : keepEnv st.1 [1, 2, 5, 6] = [(1, ePuts l), (2, .ptr n 0 4 0 0), (5, .nils), (6, .int .i64 0)]) (hH : st.2 = H)
    (z : Option (CX × St)) (hz : itLim (evCode (evC cprog) itLim c3_l0) st = z) : ∃ T fv f, z = some (.exit 0, T, H) ∧ keepEnv T [2, 5] = [(2, .ptr n 0 4 0 0), (5, fv)] ∧ Fv b fv f ∧ f.length ≤ 20 := by
  have hlen := (sPuts [] l).len
  simp only [List.length_map] at hlen
  have hn0 := hn.at
  simp only [bBase] at hn0
  have L := loop_rule (σ := Nat × AV × List Item) (m := [1, 2, 5, 6]) (env := fun s => [(1, ePuts l), (2, .ptr n 0 4 0 0), (5, s.2.1), (6, .int .i64 (s.1 : Int))]) (hp := fun _ => H)
    (P := fun _ r => ∃ T fv f, r = (.exit 0, T, H) ∧ keepEnv T [2, 5] = [(2, .ptr n 0 4 0 0), (5, fv)] ∧ Fv b fv f ∧ f.length ≤ 20)
    (mu := fun s => l.length - s.1) (I := fun s => s.1 ≤ l.length ∧ Fv b s.2.1 s.2.2 ∧ s.2.2.length ≤ s.1) (evCode (evC cprog) itLim c3_l0) ?_ (0, .nils, []) st ⟨Nat.zero_le _, .nil, by simp⟩ hE hH z hz
  · obtain ⟨_, rfl, T, fv, f, rfl, h1, h2, h3⟩ := L
    exact ⟨T, fv, f, rfl, h1, h2, h3⟩
  · rintro ⟨i, fv, f⟩ ⟨hi, hF, hfl⟩ E hE
    simp only at hi hF hfl hE
    by_cases hlt : i < l.length
    · obtain ⟨x, hx⟩ : ∃ x, l[i]? = some x := ⟨_, List.getElem?_eq_getElem hlt⟩
      have hil : (i : Int) < (l.length : Int) := by omega
      have ha := aPut hx
      have hw := wrapS hlt (by omega)
      have h7 : cal (evC cprog) true 7 [eBase b, fv, .int .i64 x.at', .int .i64 x.type, .str x.data] H = some (eLIE (insL b f x.at' x.type x.data) (insN b f x.at' x.type x.data) (insE b f x.at' x.type x.data), H) := by
        cases hF with
        | nil => exact f7n b hb _ _ _ H
        | some hr => exact f7 b hb f (by omega) _ _ _ H
      have h8 : cal (evC cprog) false 8 [eBase b, fv] H = some (bEr true 0, H) := by
        cases hF with
        | nil =>
          have := f8n b hb H
          rwa [hv, if_pos rfl] at this
        | some hr =>
          have := f8 b hb f H
          rwa [hv, hr.forest, if_pos rfl] at this
      by_cases he : insE b f x.at' x.type x.data = 0
      · obtain ⟨hr', hl'⟩ := ins_good hb he
        have h8' := f8 b hb (insL b f x.at' x.type x.data) H
        rw [hv, hr'.forest, if_pos rfl] at h8'
        rw [he] at h7
        simp only [eBase, eLIE, bEr, Bool.and_self] at h7 h8'
        clear h8
        generalize insL b f x.at' x.type x.data = g at *
        generalize insN b f x.at' x.type x.data = m at *
        simp only [c3_l0, hE, hil, hlen, hn0, ha, rPut, h7, h8', hw, evX, Int.reduceEq, Int.reduceLT, Int.reduceLE, Nat.reduceMul, Nat.reduceMod, evW, fn_eq, evR, Nat.reduceAdd, Nat.reduceLT, Nat.reduceLeDiff, reduceIte, Nat.reduceEqDiff, reduceCtorEq, argEnv, eq_self, if_true, if_false]
        repeat' ((first | rw [guardK_cases] | rw [condK_bool] | rw [guardD_cases]); split <;> simp only [c3_l0, hE, hil, hlen, hn0, ha, rPut, h7, h8', hw, evX, Int.reduceEq, Int.reduceLT, Int.reduceLE, Nat.reduceMul, Nat.reduceMod, evW, evR, Nat.reduceAdd, Nat.reduceLT, Nat.reduceLeDiff, reduceIte, Nat.reduceEqDiff, reduceCtorEq, argEnv, eq_self, if_true, if_false, *])
        exact q_next (i + 1, eItems g, g) (by rfl) rfl ⟨hlt, .some hr', by simp only; omega⟩ (by simp only; omega) fun r h => h
      · simp only [eBase, eLIE, bEr] at h7 h8
        have he' : (insE b f x.at' x.type x.data = 0) = False := eq_false he
        clear he
        generalize insL b f x.at' x.type x.data = g at *
        generalize insN b f x.at' x.type x.data = m at *
        generalize insE b f x.at' x.type x.data = e at *
        simp only [c3_l0, hE, hil, hlen, hn0, ha, rPut, h7, h8, he', hw, evX, Int.reduceEq, Int.reduceLT, Int.reduceLE, Nat.reduceMul, Nat.reduceMod, evW, fn_eq, evR, Nat.reduceAdd, Nat.reduceLT, Nat.reduceLeDiff, reduceIte, Nat.reduceEqDiff, reduceCtorEq, argEnv, eq_self, if_true, if_false]
        repeat' ((first | rw [guardK_cases] | rw [condK_bool] | rw [guardD_cases]); split <;> simp only [c3_l0, hE, hil, hlen, hn0, ha, rPut, h7, h8, he', hw, evX, Int.reduceEq, Int.reduceLT, Int.reduceLE, Nat.reduceMul, Nat.reduceMod, evW, evR, Nat.reduceAdd, Nat.reduceLT, Nat.reduceLeDiff, reduceIte, Nat.reduceEqDiff, reduceCtorEq, argEnv, eq_self, if_true, if_false, *])
        exact q_next (i + 1, fv, f) (by rfl) rfl ⟨hlt, hF, by simp only; omega⟩ (by simp only; omega) fun r h => h
    · have hil : ¬ (i : Int) < (l.length : Int) := by omega
      simp only [c3_l0, hE, hil, hlen, evX, Int.reduceEq, Int.reduceLT, Int.reduceLE, Nat.reduceMul, Nat.reduceMod, evW, fn_eq, evR, Nat.reduceAdd, Nat.reduceLT, Nat.reduceLeDiff, reduceIte, Nat.reduceEqDiff, reduceCtorEq, argEnv, eq_self, if_true, if_false]
      repeat' ((first | rw [guardK_cases] | rw [condK_bool] | rw [guardD_cases]); split <;> simp only [c3_l0, hE, hil, hlen, evX, Int.reduceEq, Int.reduceLT, Int.reduceLE, Nat.reduceMul, Nat.reduceMod, evW, evR, Nat.reduceAdd, Nat.reduceLT, Nat.reduceLeDiff, reduceIte, Nat.reduceEqDiff, reduceCtorEq, argEnv, eq_self, if_true, if_false, *])
      exact q_exit ⟨_, fv, f, rfl, by rfl, hF, by omega⟩
theorem l3_4 (b : Base) (f : List Item) (hr : Right b f) (n : Nat) (H : Heap) (hn : Sits H n (bBase b)) (st : St) (hE : keepEnv st.1 [2, 5] = [(2, .ptr n 0 4 0 0), (5, eItems f)]) (hH : st.2 = H)
    (z : Option (CX × St)) (hz : itLim (evCode (evC cprog) itLim c3_l4) st = z) : ∃ T, z = some (.exit 8, T, H) := by
  have hfr := hr.len
  have hb := hr.base
  have hn0 := hn.at
  simp only [bBase] at hn0
  have L := loop_rule (σ := Nat) (m := [2, 5]) (env := fun j => [(2, .ptr n 0 4 0 0), (5, eItems (f.take j))]) (hp := fun _ => H)
    (P := fun _ r => ∃ T, r = (.exit 8, T, H))
    (mu := fun k => k) (I := fun k => k ≤ f.length ∧ Right b (f.take k)) (evCode (evC cprog) itLim c3_l4) ?_ f.length st ⟨Nat.le_refl _, by rw [List.take_length]; exact hr⟩ (by rw [List.take_length]; exact hE) hH z hz
  · obtain ⟨_, rfl, T, rfl⟩ := L
    exact ⟨T, rfl⟩
  · rintro j ⟨hj, R⟩ E hE
    have hjl : (f.take j).length = j := by rw [List.length_take]; omega
    have hlen := (sItems [] (f.take j)).len
    rw [List.length_map, hjl] at hlen
    by_cases h0 : 0 < j
    · have h0' : (0 : Int) < (j : Int) := by omega
      have hw : IntKind.i64.wrap ((j : Int) - 1) = ((j - 1 : Nat) : Int) := by rw [wrap_i64 (by omega) (by omega)]; omega
      have hi : j - 1 < (f.take j).length := by omega
      have hE' := endOf_is b.types (f.take j) hi
      have e1 := hE'.lt
      have e2 := hE'.le
      have e3 : endOf b.types (f.take j) (j - 1) = j := by omega
      have h15 := f15 b hb (f.take j) (by omega) ((j - 1 : Nat) : Int) H
      have hd : delR b (f.take j) ((j - 1 : Nat) : Int) = f.take (j - 1) := by
        unfold delR
        rw [if_pos (right_err R hi), Int.toNat_natCast, e3, List.take_take, List.drop_eq_nil_of_le (by omega), List.append_nil]
        congr 1
        omega
      rw [hd, right_err R hi] at h15
      have R' := del_right R hi
      rw [e3, List.take_take, List.drop_eq_nil_of_le (by omega), List.append_nil, show min (j - 1) j = j - 1 by omega] at R'
      have hs : evSlc H 2 (eItems (f.take j)) none (some (j - 1)) none = some (eItems (f.take (j - 1))) := by
        have := slc_take rItem (sz := 2) (fun _ => rfl) H (f.take j) (i := j - 1) (by omega)
        rwa [List.take_take, show min (j - 1) j = j - 1 by omega] at this
      have h16 := f16 (f.take (j - 1)) (f.take (j - 1)) (by rw [List.length_take]; omega) H
      have hsm : same (f.take (j - 1)) (f.take (j - 1)) = true := tell_pos rfl
      rw [hsm] at h16
      have hlen2 := (sItems [] (f.take (j - 1))).len
      rw [List.length_map, show (f.take (j - 1)).length = j - 1 by rw [List.length_take]; omega] at hlen2
      simp only [eBase, eLE] at h15
      clear hd hsm hjl e3 hi hE' e1 e2
      simp only [c3_l4, hE, h0', hlen, hn0, hw, h15, hlen2, hs, h16, evX, Int.reduceEq, Int.reduceLT, Int.reduceLE, Nat.reduceMul, Nat.reduceMod, evW, fn_eq, evR, Nat.reduceAdd, Nat.reduceLT, Nat.reduceLeDiff, reduceIte, Nat.reduceEqDiff, reduceCtorEq, argEnv, eq_self, if_true, if_false]
      repeat' ((first | rw [guardK_cases] | rw [condK_bool] | rw [guardD_cases]); split <;> simp only [c3_l4, hE, h0', hlen, hn0, hw, h15, hlen2, hs, h16, evX, Int.reduceEq, Int.reduceLT, Int.reduceLE, Nat.reduceMul, Nat.reduceMod, evW, evR, Nat.reduceAdd, Nat.reduceLT, Nat.reduceLeDiff, reduceIte, Nat.reduceEqDiff, reduceCtorEq, argEnv, eq_self, if_true, if_false, *])
      exact q_next (j - 1) (by rfl) rfl ⟨by omega, R'⟩ (by omega) fun r h => h
    · have h0' : ¬ (0 : Int) < (j : Int) := by omega
      simp only [c3_l4, hE, h0', hlen, evX, Int.reduceEq, Int.reduceLT, Int.reduceLE, Nat.reduceMul, Nat.reduceMod, evW, fn_eq, evR, Nat.reduceAdd, Nat.reduceLT, Nat.reduceLeDiff, reduceIte, Nat.reduceEqDiff, reduceCtorEq, argEnv, eq_self, if_true, if_false]
      repeat' ((first | rw [guardK_cases] | rw [condK_bool] | rw [guardD_cases]); split <;> simp only [c3_l4, hE, h0', hlen, evX, Int.reduceEq, Int.reduceLT, Int.reduceLE, Nat.reduceMul, Nat.reduceMod, evW, evR, Nat.reduceAdd, Nat.reduceLT, Nat.reduceLeDiff, reduceIte, Nat.reduceEqDiff, reduceCtorEq, argEnv, eq_self, if_true, if_false, *])
      exact q_exit ⟨_, rfl⟩
theorem f4n (b : Base) (hb : b.Ok) (H : Heap) : cal (evC cprog) false 4 [eBase b, .nils] H = some (.bool (small b []), H) := by
  rw [cal_of at4]
  have h1 := (sTys [] b.types).len
  have h3 := (sSes [] b.indexes).len
  simp only [List.length_map] at h1 h3
  simp only [c4, eBase, evX, Int.reduceEq, Int.reduceLT, Int.reduceLE, Nat.reduceMul, Nat.reduceMod, evW, fn_eq, evR, Nat.reduceAdd, Nat.reduceLT, Nat.reduceLeDiff, reduceIte, Nat.reduceEqDiff, reduceCtorEq, argEnv, eq_self, if_true, if_false]
  repeat' ((first | rw [guardK_cases] | rw [condK_bool] | rw [guardD_cases]); split <;> simp only [c4, eBase, evX, Int.reduceEq, Int.reduceLT, Int.reduceLE, Nat.reduceMul, Nat.reduceMod, evW, evR, Nat.reduceAdd, Nat.reduceLT, Nat.reduceLeDiff, reduceIte, Nat.reduceEqDiff, reduceCtorEq, argEnv, eq_self, if_true, if_false, *])
  generalize hz : itLim _ _ = z
  have hs : ∀ X, (H ++ ([bBase b] ++ X))[H.length]? = some (bBase b) := fun X => by simp
  simp only [bBase] at hs
  have L := all_rule b.types (fun t => decide ((t.fields.length : Int) ≤ 10)) [1, 2, 5] (fun i => [(1, .nils), (2, .ptr H.length 0 4 0 0), (5, .int .i64 (i : Int))]) H [bBase b] (evCode (evC cprog) itLim c4_l0) (fun c T => c = .exit 0 ∧ keepEnv T [1, 2] = [(1, .nils), (2, .ptr H.length 0 4 0 0)]) (fun c T => c = .ret ∧ get T 4 = some (.bool false))
      (fun i t hx E G hE => by
        have hlt : i < b.types.length := (List.getElem?_eq_some_iff.1 hx).1
        have hi : (i : Int) < (b.types.length : Int) := by omega
        have ha := aTy hx
        have h4 := (sFds [] t.fields).len
        simp only [List.length_map] at h4
        simp only [c4_l0, hE, bBase, hs, hi, h1, ha, h4, rTy, wrapS hlt hb.types, evX, Int.reduceEq, Int.reduceLT, Int.reduceLE, Nat.reduceMul, Nat.reduceMod, evW, fn_eq, evR, Nat.reduceAdd, Nat.reduceLT, Nat.reduceLeDiff, reduceIte, Nat.reduceEqDiff, reduceCtorEq, argEnv, eq_self, if_true, if_false]
        repeat' ((first | rw [guardK_cases] | rw [condK_bool] | rw [guardD_cases]); split <;> simp only [c4_l0, hE, bBase, hs, hi, h1, ha, h4, rTy, wrapS hlt hb.types, evX, Int.reduceEq, Int.reduceLT, Int.reduceLE, Nat.reduceMul, Nat.reduceMod, evW, evR, Nat.reduceAdd, Nat.reduceLT, Nat.reduceLeDiff, reduceIte, Nat.reduceEqDiff, reduceCtorEq, argEnv, eq_self, if_true, if_false, *])
        all_goals first | exact Sc.next (by first | (simp_all [Int.not_le]; done) | (simp_all [Int.not_le]; intros; omega)) (by rfl) | exact Sc.ret (by first | (simp_all [Int.not_le]; done) | (simp_all [Int.not_le]; intros; omega)) ⟨rfl, by first | rfl | exact ⟨rfl, rfl, rfl⟩⟩ | exact Sc.exit (by first | (simp_all [Int.not_le]; done) | (simp_all [Int.not_le]; intros; omega)) ⟨rfl, rfl⟩)
      (fun E G hE => by
        simp only [c4_l0, hE, bBase, hs, h1, Int.lt_irrefl, evX, Int.reduceEq, Int.reduceLT, Int.reduceLE, Nat.reduceMul, Nat.reduceMod, evW, fn_eq, evR, Nat.reduceAdd, Nat.reduceLT, Nat.reduceLeDiff, reduceIte, Nat.reduceEqDiff, reduceCtorEq, argEnv, eq_self, if_true, if_false]
        repeat' ((first | rw [guardK_cases] | rw [condK_bool] | rw [guardD_cases]); split <;> simp only [c4_l0, hE, bBase, hs, h1, Int.lt_irrefl, evX, Int.reduceEq, Int.reduceLT, Int.reduceLE, Nat.reduceMul, Nat.reduceMod, evW, evR, Nat.reduceAdd, Nat.reduceLT, Nat.reduceLeDiff, reduceIte, Nat.reduceEqDiff, reduceCtorEq, argEnv, eq_self, if_true, if_false, *])
        exact .exit (K := [bBase b]) ⟨rfl, by rfl⟩) _ [] (by rfl) (by simp [bBase]) z hz
  rcases L with ⟨g, c, T, G', rfl, _, rfl, hT⟩ | ⟨g, c, T, G', rfl, _, rfl, hT⟩
  · simp only [hT, evX, Int.reduceEq, Int.reduceLT, Int.reduceLE, Nat.reduceMul, Nat.reduceMod, evW, fn_eq, evR, Nat.reduceAdd, Nat.reduceLT, Nat.reduceLeDiff, reduceIte, Nat.reduceEqDiff, reduceCtorEq, argEnv, eq_self, if_true, if_false]
    repeat' ((first | rw [guardK_cases] | rw [condK_bool] | rw [guardD_cases]); split <;> simp only [hT, evX, Int.reduceEq, Int.reduceLT, Int.reduceLE, Nat.reduceMul, Nat.reduceMod, evW, evR, Nat.reduceAdd, Nat.reduceLT, Nat.reduceLeDiff, reduceIte, Nat.reduceEqDiff, reduceCtorEq, argEnv, eq_self, if_true, if_false, *])
    rw [itLim_eq]
    simp only [c4_l1, hT, hs, bBase, h1, h3, evX, Int.reduceEq, Int.reduceLT, Int.reduceLE, Nat.reduceMul, Nat.reduceMod, evW, fn_eq, evR, Nat.reduceAdd, Nat.reduceLT, Nat.reduceLeDiff, reduceIte, Nat.reduceEqDiff, reduceCtorEq, argEnv, eq_self, if_true, if_false]
    repeat' ((first | rw [guardK_cases] | rw [condK_bool] | rw [guardD_cases]); split <;> simp only [c4_l1, hT, hs, bBase, h1, h3, evX, Int.reduceEq, Int.reduceLT, Int.reduceLE, Nat.reduceMul, Nat.reduceMod, evW, evR, Nat.reduceAdd, Nat.reduceLT, Nat.reduceLeDiff, reduceIte, Nat.reduceEqDiff, reduceCtorEq, argEnv, eq_self, if_true, if_false, *])
    all_goals (simp_all [small]; try omega)
  · simp only [hT, evX, Int.reduceEq, Int.reduceLT, Int.reduceLE, Nat.reduceMul, Nat.reduceMod, evW, fn_eq, evR, Nat.reduceAdd, Nat.reduceLT, Nat.reduceLeDiff, reduceIte, Nat.reduceEqDiff, reduceCtorEq, argEnv, eq_self, if_true, if_false]
    repeat' ((first | rw [guardK_cases] | rw [condK_bool] | rw [guardD_cases]); split <;> simp only [hT, evX, Int.reduceEq, Int.reduceLT, Int.reduceLE, Nat.reduceMul, Nat.reduceMod, evW, evR, Nat.reduceAdd, Nat.reduceLT, Nat.reduceLeDiff, reduceIte, Nat.reduceEqDiff, reduceCtorEq, argEnv, eq_self, if_true, if_false, *])
    simp [small, g]
set_option maxHeartbeats 4000000 in
theorem f3 (b : Base) (hb : b.Ok) (l : List Put) (hl : l.length < 9223372036854775807) : ∃ H', evC cprog 3 [eBase b, ePuts l] [] = some (.bool true, H') := by
  have h4 := f4n b hb
  have h5 := f5 b hb
  have h6 := f6
  have hlen := (sPuts [] l).len
  simp only [List.length_map] at hlen
  have hcu : (ePuts l).cells = [ePuts l] := rfl
  have htu : (ePuts l).isTup = false := rfl
  simp only [eBase] at h4 h5
  rw [evC_fn at3]
  cases hs : small b [] with
  | false =>
    simp only [c3, eBase, hcu, htu, h4, h6, hs, evX, Int.reduceEq, Int.reduceLT, Int.reduceLE, Nat.reduceMul, Nat.reduceMod, evW, fn_eq, evR, Nat.reduceAdd, Nat.reduceLT, Nat.reduceLeDiff, reduceIte, Nat.reduceEqDiff, reduceCtorEq, argEnv, eq_self, if_true, if_false]
    repeat' ((first | rw [guardK_cases] | rw [condK_bool] | rw [guardD_cases]); split <;> simp only [c3, eBase, hcu, htu, h4, h6, hs, evX, Int.reduceEq, Int.reduceLT, Int.reduceLE, Nat.reduceMul, Nat.reduceMod, evW, evR, Nat.reduceAdd, Nat.reduceLT, Nat.reduceLeDiff, reduceIte, Nat.reduceEqDiff, reduceCtorEq, argEnv, eq_self, if_true, if_false, *])
    all_goals exact ⟨_, rfl⟩
  | true =>
    cases hv : validB b with
    | false =>
      simp only [c3, eBase, hcu, htu, h4, h5, h6, hs, hv, evX, Int.reduceEq, Int.reduceLT, Int.reduceLE, Nat.reduceMul, Nat.reduceMod, evW, fn_eq, evR, Nat.reduceAdd, Nat.reduceLT, Nat.reduceLeDiff, reduceIte, Nat.reduceEqDiff, reduceCtorEq, argEnv, eq_self, if_true, if_false]
      repeat' ((first | rw [guardK_cases] | rw [condK_bool] | rw [guardD_cases]); split <;> simp only [c3, eBase, hcu, htu, h4, h5, h6, hs, hv, evX, Int.reduceEq, Int.reduceLT, Int.reduceLE, Nat.reduceMul, Nat.reduceMod, evW, evR, Nat.reduceAdd, Nat.reduceLT, Nat.reduceLeDiff, reduceIte, Nat.reduceEqDiff, reduceCtorEq, argEnv, eq_self, if_true, if_false, *])
      all_goals exact ⟨_, rfl⟩
    | true =>
      by_cases h20 : (20 : Int) < (l.length : Int)
      · simp only [c3, eBase, hcu, htu, h4, h5, h6, hs, hv, hlen, h20, evX, Int.reduceEq, Int.reduceLT, Int.reduceLE, Nat.reduceMul, Nat.reduceMod, evW, fn_eq, evR, Nat.reduceAdd, Nat.reduceLT, Nat.reduceLeDiff, reduceIte, Nat.reduceEqDiff, reduceCtorEq, argEnv, eq_self, if_true, if_false]
        repeat' ((first | rw [guardK_cases] | rw [condK_bool] | rw [guardD_cases]); split <;> simp only [c3, eBase, hcu, htu, h4, h5, h6, hs, hv, hlen, h20, evX, Int.reduceEq, Int.reduceLT, Int.reduceLE, Nat.reduceMul, Nat.reduceMod, evW, evR, Nat.reduceAdd, Nat.reduceLT, Nat.reduceLeDiff, reduceIte, Nat.reduceEqDiff, reduceCtorEq, argEnv, eq_self, if_true, if_false, *])
        all_goals exact ⟨_, rfl⟩
      simp only [c3, eBase, hcu, htu, h4, h5, h6, hs, hv, hlen, h20, evX, Int.reduceEq, Int.reduceLT, Int.reduceLE, Nat.reduceMul, Nat.reduceMod, evW, fn_eq, evR, Nat.reduceAdd, Nat.reduceLT, Nat.reduceLeDiff, reduceIte, Nat.reduceEqDiff, reduceCtorEq, argEnv, eq_self, if_true, if_false]
      repeat' ((first | rw [guardK_cases] | rw [condK_bool] | rw [guardD_cases]); split <;> simp only [c3, eBase, hcu, htu, h4, h5, h6, hs, hv, hlen, h20, evX, Int.reduceEq, Int.reduceLT, Int.reduceLE, Nat.reduceMul, Nat.reduceMod, evW, evR, Nat.reduceAdd, Nat.reduceLT, Nat.reduceLeDiff, reduceIte, Nat.reduceEqDiff, reduceCtorEq, argEnv, eq_self, if_true, if_false, *])
      generalize hz : itLim _ _ = z
      obtain ⟨T, fv, f, rfl, hT, hF, hfl⟩ := l3_0 b hb hv l (by omega) 0 _ (.mk (by rfl)) _ (by rfl) rfl z hz
      clear hz
      cases hF with
      | nil =>
        simp only [hT, evX, Int.reduceEq, Int.reduceLT, Int.reduceLE, Nat.reduceMul, Nat.reduceMod, evW, fn_eq, evR, Nat.reduceAdd, Nat.reduceLT, Nat.reduceLeDiff, reduceIte, Nat.reduceEqDiff, reduceCtorEq, argEnv, eq_self, if_true, if_false]
        repeat' ((first | rw [guardK_cases] | rw [condK_bool] | rw [guardD_cases]); split <;> simp only [hT, evX, Int.reduceEq, Int.reduceLT, Int.reduceLE, Nat.reduceMul, Nat.reduceMod, evW, evR, Nat.reduceAdd, Nat.reduceLT, Nat.reduceLeDiff, reduceIte, Nat.reduceEqDiff, reduceCtorEq, argEnv, eq_self, if_true, if_false, *])
        rw [itLim_eq]
        simp only [c3_l3, Int.lt_irrefl, evX, Int.reduceEq, Int.reduceLT, Int.reduceLE, Nat.reduceMul, Nat.reduceMod, evW, fn_eq, evR, Nat.reduceAdd, Nat.reduceLT, Nat.reduceLeDiff, reduceIte, Nat.reduceEqDiff, reduceCtorEq, argEnv, eq_self, if_true, if_false]
        repeat' ((first | rw [guardK_cases] | rw [condK_bool] | rw [guardD_cases]); split <;> simp only [c3_l3, Int.lt_irrefl, evX, Int.reduceEq, Int.reduceLT, Int.reduceLE, Nat.reduceMul, Nat.reduceMod, evW, evR, Nat.reduceAdd, Nat.reduceLT, Nat.reduceLeDiff, reduceIte, Nat.reduceEqDiff, reduceCtorEq, argEnv, eq_self, if_true, if_false, *])
        rw [itLim_eq]
        simp only [c3_l4, Int.lt_irrefl, h6, evX, Int.reduceEq, Int.reduceLT, Int.reduceLE, Nat.reduceMul, Nat.reduceMod, evW, fn_eq, evR, Nat.reduceAdd, Nat.reduceLT, Nat.reduceLeDiff, reduceIte, Nat.reduceEqDiff, reduceCtorEq, argEnv, eq_self, if_true, if_false]
        repeat' ((first | rw [guardK_cases] | rw [condK_bool] | rw [guardD_cases]); split <;> simp only [c3_l4, Int.lt_irrefl, h6, evX, Int.reduceEq, Int.reduceLT, Int.reduceLE, Nat.reduceMul, Nat.reduceMod, evW, evR, Nat.reduceAdd, Nat.reduceLT, Nat.reduceLeDiff, reduceIte, Nat.reduceEqDiff, reduceCtorEq, argEnv, eq_self, if_true, if_false, *])
        all_goals exact ⟨_, rfl⟩
      | some hr =>
        simp only [hT, evX, Int.reduceEq, Int.reduceLT, Int.reduceLE, Nat.reduceMul, Nat.reduceMod, evW, fn_eq, evR, Nat.reduceAdd, Nat.reduceLT, Nat.reduceLeDiff, reduceIte, Nat.reduceEqDiff, reduceCtorEq, argEnv, eq_self, if_true, if_false]
        repeat' ((first | rw [guardK_cases] | rw [condK_bool] | rw [guardD_cases]); split <;> simp only [hT, evX, Int.reduceEq, Int.reduceLT, Int.reduceLE, Nat.reduceMul, Nat.reduceMod, evW, evR, Nat.reduceAdd, Nat.reduceLT, Nat.reduceLeDiff, reduceIte, Nat.reduceEqDiff, reduceCtorEq, argEnv, eq_self, if_true, if_false, *])
        generalize hz : itLim _ _ = z
        obtain ⟨T, rfl, hT⟩ := l3_3 b f hr 0 _ (.mk (by rfl)) _ (by rfl) rfl z hz
        clear hz
        simp only [hT, evX, Int.reduceEq, Int.reduceLT, Int.reduceLE, Nat.reduceMul, Nat.reduceMod, evW, fn_eq, evR, Nat.reduceAdd, Nat.reduceLT, Nat.reduceLeDiff, reduceIte, Nat.reduceEqDiff, reduceCtorEq, argEnv, eq_self, if_true, if_false]
        repeat' ((first | rw [guardK_cases] | rw [condK_bool] | rw [guardD_cases]); split <;> simp only [hT, evX, Int.reduceEq, Int.reduceLT, Int.reduceLE, Nat.reduceMul, Nat.reduceMod, evW, evR, Nat.reduceAdd, Nat.reduceLT, Nat.reduceLeDiff, reduceIte, Nat.reduceEqDiff, reduceCtorEq, argEnv, eq_self, if_true, if_false, *])
        generalize hz : itLim _ _ = z
        obtain ⟨T, rfl⟩ := l3_4 b f hr 0 _ (.mk (by rfl)) _ hT rfl z hz
        simp only [h6, evX, Int.reduceEq, Int.reduceLT, Int.reduceLE, Nat.reduceMul, Nat.reduceMod, evW, fn_eq, evR, Nat.reduceAdd, Nat.reduceLT, Nat.reduceLeDiff, reduceIte, Nat.reduceEqDiff, reduceCtorEq, argEnv, eq_self, if_true, if_false]
        repeat' ((first | rw [guardK_cases] | rw [condK_bool] | rw [guardD_cases]); split <;> simp only [h6, evX, Int.reduceEq, Int.reduceLT, Int.reduceLE, Nat.reduceMul, Nat.reduceMod, evW, evR, Nat.reduceAdd, Nat.reduceLT, Nat.reduceLeDiff, reduceIte, Nat.reduceEqDiff, reduceCtorEq, argEnv, eq_self, if_true, if_false, *])
        all_goals exact ⟨_, rfl⟩
theorem open_Put {r : List AV} (h : HasL [.int .i64, .int .i64, .str] r) : ∃ x : Put, r = rPut x ∧ True := by
  simp only [HasL.eq_2, HasL.eq_1, Has] at h
  obtain ⟨_, _, rfl, ⟨p, rfl, _⟩, _, _, rfl, ⟨t, rfl, _⟩, _, _, rfl, ⟨d, rfl, _⟩, rfl⟩ := h
  exact ⟨⟨p, t, d⟩, rfl, trivial⟩
theorem open_Puts {a : AV} (h : ArgTy false [.sl [.int .i64, .int .i64, .str]] a) : ∃ l : List Put, a = ePuts l ∧ l.length < 9223372036854775807 := by
  have h : HasL [.sl [.int .i64, .int .i64, .str]] [a] := h
  simp only [HasL.eq_2, HasL.eq_1, Has] at h
  obtain ⟨x, xs, he, ⟨l, rfl, hl, hr⟩, rfl⟩ := h
  cases he
  obtain ⟨us, rfl, _⟩ := typed (P := HasL [.int .i64, .int .i64, .str]) (fun r h => open_Put h) l (fun r h => by simpa only [HasL.eq_2, HasL.eq_1, Has] using hr r h)
  exact ⟨us, rfl, reach_lt (by simpa using hl)⟩
end Go.Proofs.YtondenmkhfignaaDoor.Code
namespace Go.Proofs.YtondenmkhfignaaDoor.Pure
open Go.Proofs.YtondenmkhfignaaDoor.Ev Go.Proofs.YtondenmkhfignaaDoor.Code
theorem TopForest (a0 : AV) (t0 : ArgTy true [.str, .int .i64, .sl [.str, .int .i64, .int .i64, .int .i64, .sl [.str, .int .i64, .int .i64], .int .i64, .bool, .bool], .sl [.str, .int .i64, .int .i64, .str]] a0) (a1 : AV) (t1 : ArgTy false [.sl [.int .i64, .int .i64, .str]] a1) : ∃ H', evC cprog 3 [a0, a1] [] = some (.bool true, H') := by
  obtain ⟨b, rfl, hb⟩ := open_Base t0
  obtain ⟨l, rfl, hl⟩ := open_Puts t1
  exact f3 b hb l hl
end Go.Proofs.YtondenmkhfignaaDoor.Pure

