/- The program's Order. -/
import Derived.Test.YtehcdcnghcbimaaGa
set_option linter.unusedSimpArgs false
set_option linter.unusedVariables false
namespace Go.Proofs.Ytehcdcnghcbimaa.Code
open Go.Proofs.Ytehcdcnghcbimaa.Ev

theorem fz_rBools {n : Nat} {X : Heap} {sv : AV} {bs : List Bool} (h : Out n 1 4 X sv (bs.map rBool)) (H0 : Heap) (hn : n = H0.length) : ∃ ids, fz (H0 ++ X) 8 sv = some (.lst (bs.map rBool), ids) ∧ ∀ b ∈ ids, n ≤ b :=
  fz_out h H0 hn (fun r hr a ha => by
    obtain ⟨b, _, rfl⟩ := List.mem_map.1 hr
    simp [rBool] at ha
    subst ha
    exact ⟨rfl, fun m H => rfl⟩) 6
theorem fz_order {H0 X : Heap} {F e : Int} {rows : List Row} {n : Nat} {tv sv : AV} {bs : List Bool} (ht : ∀ H, fz H 8 tv = some (.lst (rows.map rRow), [])) (h : Out n 1 4 X sv (bs.map rBool)) (hn : n = H0.length) :
    ∃ ids, fzRes (H0 ++ X) (.tup [.agg [.int .i64 F, tv], sv, .int .i64 e]) = some (.tup [eTab (F, rows), .lst (bs.map rBool), .int .i64 e], ids) ∧ ∀ b ∈ ids, n ≤ b := by
  obtain ⟨ids, h1, h2⟩ := fz_rBools h H0 hn
  refine ⟨ids, ?_, h2⟩
  have e1 : fz1 (H0 ++ X) (.agg [.int .i64 F, tv]) = some (eTab (F, rows), []) := by
    show (fzCells (fz (H0 ++ X) 8) [.int .i64 F, tv]).map _ = _
    have e0 : fz (H0 ++ X) 8 (.int .i64 F) = some (.int .i64 F, []) := rfl
    simp only [fzCells, e0, ht, Option.map_some, List.nil_append, List.append_nil]
    rfl
  have e2 : fz1 (H0 ++ X) (.int .i64 e) = some (.int .i64 e, []) := rfl
  have e3 : fz1 (H0 ++ X) sv = some (.lst (bs.map rBool), ids) := by
    have : fz1 (H0 ++ X) sv = fz (H0 ++ X) 8 sv := by
      rcases h with ⟨_, rfl | rfl⟩ | ⟨_, j, v, rfl, _⟩ <;> rfl
    rw [this, h1]
  show (fzCells (fz1 (H0 ++ X)) [.agg [.int .i64 F, tv], sv, .int .i64 e]).map _ = _
  simp only [fzCells, e1, e2, e3, Option.map_some, List.append_nil, List.nil_append]
theorem calF_order {H Y X : Heap} {F e : Int} {rows : List Row} {n : Nat} {tv sv : AV} {bs : List Bool} (ht : ∀ H, fz H 8 tv = some (.lst (rows.map rRow), [])) (h : Out n 1 4 X sv (bs.map rBool)) (hn : n = H.length + Y.length) :
    calK true H (some (.tup [.agg [.int .i64 F, tv], sv, .int .i64 e], H ++ (Y ++ X))) = some (.tup [eTab (F, rows), .lst (bs.map rBool), .int .i64 e], H) := by
  obtain ⟨ids, h1, h2⟩ := fz_order (H0 := H ++ Y) (F := F) (e := e) (rows := rows) ht h (by simp [hn])
  rw [List.append_assoc] at h1
  exact calK_frz h1 rfl (by simp) fun b hb => by have := h2 b hb; omega
/-- what Order answers -/
noncomputable def orders (F : Int) (rows : List Row) (us : List (List Fld)) : Table × List Bool × Int :=
  if asked (F, rows) us = 0 then (if 20 < us.length then ((0, []), [], 2) else ((F, (ordered F rows us).1), (ordered F rows us).2, 0)) else ((0, []), [], asked (F, rows) us)
theorem asked_F {F : Int} {rows : List Row} {us : List (List Fld)} (h : asked (F, rows) us = 0) : 0 < F ∧ F ≤ 4 := by
  have hv : valid (F, rows) = true := by
    cases hv : valid (F, rows) with
    | true => rfl
    | false => simp [asked, hv] at h
  simp only [valid, Bool.and_eq_true, decide_eq_true_eq] at hv
  omega
theorem asked_fine {F : Int} {rows : List Row} {us : List (List Fld)} (h : asked (F, rows) us = 0) : Fine F rows.length rows := ⟨(asked_good h).1, rfl, asked_apart h⟩
theorem f23 (F : Int) (rows : List Row) (hl : rows.length < 9223372036854775807) (hvl : ∀ r ∈ rows, r.2.length < 9223372036854775807) (us : List (List Fld)) (uv : AV) (H : Heap) (hs : SlAt H 1 uv (us.map rUnit)) (hul : us.length < 9223372036854775807) (hu : ∀ l ∈ us, l.length < 9223372036854775807) :
    cal (evC cprog) true 23 [.agg [.int .i64 F, .lst (rows.map rRow)], uv] H = some (.tup [eTab (orders F rows us).1, .lst ((orders F rows us).2.1.map rBool), .int .i64 (orders F rows us).2.2], H) := by
  have h43 := fun Y => f43 F rows hl hvl _ (H ++ Y) (.lst _ rows) us uv (hs.app Y) hul hu
  have hlen := hs.len
  simp only [List.length_map] at hlen
  rw [cal_of at23]
  by_cases ha : asked (F, rows) us = 0
  · obtain ⟨hG, hv, hl'⟩ := asked_good ha
    obtain ⟨hF, hF2⟩ := asked_F ha
    simp only [ha] at h43
    by_cases hq : 20 < us.length
    · have ho : orders F rows us = ((0, []), [], 2) := by simp [orders, ha, hq]
      have hq' : 20 < (us.length : Int) := by omega
      rw [ho]
      simp only [c23, h43, hlen, hq', evW, fn_eq, evR, Nat.reduceAdd, Nat.reduceLT, Nat.reduceLeDiff, reduceIte, Nat.reduceEqDiff, reduceCtorEq, argEnv, eq_self, if_true, if_false]
      repeat' (first | (rw [guardK_cases]; split <;> simp only [c23, h43, hlen, hq', evW, evR, Nat.reduceAdd, Nat.reduceLT, Nat.reduceLeDiff, reduceIte, Nat.reduceEqDiff, reduceCtorEq, argEnv, eq_self, if_true, if_false, *]) | (rw [condK_bool]; split <;> simp only [c23, h43, hlen, hq', evW, evR, Nat.reduceAdd, Nat.reduceLT, Nat.reduceLeDiff, reduceIte, Nat.reduceEqDiff, reduceCtorEq, argEnv, eq_self, if_true, if_false, *]) | (rw [guardD_cases]; split <;> simp only [c23, h43, hlen, hq', evW, evR, Nat.reduceAdd, Nat.reduceLT, Nat.reduceLeDiff, reduceIte, Nat.reduceEqDiff, reduceCtorEq, argEnv, eq_self, if_true, if_false, *]))
      exact calF_order (Y := [_, _]) (X := []) (rows := []) (n := H.length + 2) (sv := .nils) (bs := []) (fun _ => rfl) (.nils ..) rfl
    · have ho : orders F rows us = ((F, (ordered F rows us).1), (ordered F rows us).2, 0) := by simp [orders, ha, hq]
      have hq' : ¬ 20 < (us.length : Int) := by omega
      have h58 := fun H => f58F F rows hl' hv H
      rw [ho]
      simp only [c23, h43, h58, hlen, hq', cells_tab, isTup_tab, evW, fn_eq, evR, Nat.reduceAdd, Nat.reduceLT, Nat.reduceLeDiff, reduceIte, Nat.reduceEqDiff, reduceCtorEq, argEnv, eq_self, if_true, if_false]
      repeat' (first | (rw [guardK_cases]; split <;> simp only [c23, h43, h58, hlen, hq', cells_tab, isTup_tab, evW, evR, Nat.reduceAdd, Nat.reduceLT, Nat.reduceLeDiff, reduceIte, Nat.reduceEqDiff, reduceCtorEq, argEnv, eq_self, if_true, if_false, *]) | (rw [condK_bool]; split <;> simp only [c23, h43, h58, hlen, hq', cells_tab, isTup_tab, evW, evR, Nat.reduceAdd, Nat.reduceLT, Nat.reduceLeDiff, reduceIte, Nat.reduceEqDiff, reduceCtorEq, argEnv, eq_self, if_true, if_false, *]) | (rw [guardD_cases]; split <;> simp only [c23, h43, h58, hlen, hq', cells_tab, isTup_tab, evW, evR, Nat.reduceAdd, Nat.reduceLT, Nat.reduceLeDiff, reduceIte, Nat.reduceEqDiff, reduceCtorEq, argEnv, eq_self, if_true, if_false, *]))
      generalize hz : itLim _ _ = z
      obtain ⟨T, X, sv, rfl, hT, hO⟩ := l23 hF (by omega) hl' uv H us hs hu (by unfold asked at ha; omega) _ _ rows (asked_fine ha) _ (by rfl) (by rfl) z hz
      simp only [hT, out_tup hO, cells_tab, isTup_tab, evW, fn_eq, evR, Nat.reduceAdd, Nat.reduceLT, Nat.reduceLeDiff, reduceIte, Nat.reduceEqDiff, reduceCtorEq, argEnv, eq_self, if_true, if_false]
      repeat' (first | (rw [guardK_cases]; split <;> simp only [hT, out_tup hO, cells_tab, isTup_tab, evW, evR, Nat.reduceAdd, Nat.reduceLT, Nat.reduceLeDiff, reduceIte, Nat.reduceEqDiff, reduceCtorEq, argEnv, eq_self, if_true, if_false, *]) | (rw [condK_bool]; split <;> simp only [hT, out_tup hO, cells_tab, isTup_tab, evW, evR, Nat.reduceAdd, Nat.reduceLT, Nat.reduceLeDiff, reduceIte, Nat.reduceEqDiff, reduceCtorEq, argEnv, eq_self, if_true, if_false, *]) | (rw [guardD_cases]; split <;> simp only [hT, out_tup hO, cells_tab, isTup_tab, evW, evR, Nat.reduceAdd, Nat.reduceLT, Nat.reduceLeDiff, reduceIte, Nat.reduceEqDiff, reduceCtorEq, argEnv, eq_self, if_true, if_false, *]))
      exact calF_order (Y := [_, _, _]) (n := H.length + 3) (fun _ => rfl) hO rfl
  · have ho : orders F rows us = ((0, []), [], asked (F, rows) us) := by simp [orders, ha]
    rw [ho]
    simp only [c23, h43, ha, evW, fn_eq, evR, Nat.reduceAdd, Nat.reduceLT, Nat.reduceLeDiff, reduceIte, Nat.reduceEqDiff, reduceCtorEq, argEnv, eq_self, if_true, if_false]
    repeat' (first | (rw [guardK_cases]; split <;> simp only [c23, h43, ha, evW, evR, Nat.reduceAdd, Nat.reduceLT, Nat.reduceLeDiff, reduceIte, Nat.reduceEqDiff, reduceCtorEq, argEnv, eq_self, if_true, if_false, *]) | (rw [condK_bool]; split <;> simp only [c23, h43, ha, evW, evR, Nat.reduceAdd, Nat.reduceLT, Nat.reduceLeDiff, reduceIte, Nat.reduceEqDiff, reduceCtorEq, argEnv, eq_self, if_true, if_false, *]) | (rw [guardD_cases]; split <;> simp only [c23, h43, ha, evW, evR, Nat.reduceAdd, Nat.reduceLT, Nat.reduceLeDiff, reduceIte, Nat.reduceEqDiff, reduceCtorEq, argEnv, eq_self, if_true, if_false, *]))
    exact calF_order (Y := [_, _]) (X := []) (rows := []) (n := H.length + 2) (sv := .nils) (bs := []) (fun _ => rfl) (.nils ..) rfl
end Go.Proofs.Ytehcdcnghcbimaa.Code
