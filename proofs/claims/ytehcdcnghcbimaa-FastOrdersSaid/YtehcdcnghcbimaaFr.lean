/- fast: Sync of both, with a frozen table. -/
import Derived.Test.YtehcdcnghcbimaaFq
set_option linter.unusedSimpArgs false
set_option linter.unusedVariables false
namespace Go.Proofs.Ytehcdcnghcbimaa.Code
open Go.Proofs.Ytehcdcnghcbimaa.Ev

theorem calF_tab {H H1 : Heap} {N : Nat} {rv : AV} {rows : List Row} (F e : Int) (h : Own H N rv rows H1) (hv : ∀ r ∈ rows, r.2 ≠ []) :
    calK true H (some (.tup [.agg [.int .i64 F, rv], .int .i64 e], H1)) = some (.tup [eTab (F, rows), .int .i64 e], H) := by
  obtain ⟨ids, hf, hi⟩ := fz_tab h hv
  have h1 : fzRes H1 (.tup [.agg [.int .i64 F, rv], .int .i64 e]) = some (.tup [eTab (F, rows), .int .i64 e], ids) := by
    have e1 : fz1 H1 (.agg [.int .i64 F, rv]) = some (eTab (F, rows), ids) := by
      show (fzCells (fz H1 8) [.int .i64 F, rv]).map _ = _
      have e0 : fz H1 8 (.int .i64 F) = some (.int .i64 F, []) := rfl
      simp only [fzCells, e0, hf, Option.map_some, List.nil_append, List.append_nil]
      rfl
    have e2 : fz1 H1 (.int .i64 e) = some (.int .i64 e, []) := rfl
    show (fzCells (fz1 H1) [.agg [.int .i64 F, rv], .int .i64 e]).map _ = _
    simp only [fzCells, e1, e2, Option.map_some, List.append_nil]
  unfold calK
  simp only [if_true, h1]
  have h2 := kill_take H.length ids H1 hi
  rw [h.pre] at h2
  unfold gc
  rw [if_pos ⟨rfl, by rw [h2]; exact heq_refl H⟩]
theorem calF_nil (H G : Heap) (e : Int) : calK true H (some (.tup [.agg [.int .i64 0, .nils], .int .i64 e], H ++ G)) = some (.tup [eTab (0, []), .int .i64 e], H) :=
  calF_tab (N := H.length) 0 e ⟨by simp, ⟨by simp, by simp⟩, .inl ⟨rfl, .inr rfl⟩⟩ (by simp)
/-- what Sync answers -/
noncomputable def syncs (F : Int) (rows : List Row) (l : List Fld) : Table × Int :=
  if asked (F, rows) [l] = 0 then (if 0 ≤ (runUnit F rows l).1 then ((0, []), 212) else ((F, (runUnit F rows l).2), 0)) else ((0, []), asked (F, rows) [l])
theorem good_ne {F : Int} {rows rows' : List Row} {us : List (List Fld)} (ha : asked (F, rows) us = 0) (hG : GoodRows F rows') : ∀ r ∈ rows', r.2 ≠ [] := by
  have hv : valid (F, rows) = true := by
    cases hv : valid (F, rows) with
    | true => rfl
    | false => simp [asked, hv] at ha
  simp only [valid, Bool.and_eq_true, decide_eq_true_eq] at hv
  intro r hr e
  have := (hG r hr).1
  rw [e] at this
  simp at this
  omega
theorem f15 (F : Int) (rows : List Row) (hl : rows.length < 9223372036854775807) (hvl : ∀ r ∈ rows, r.2.length < 9223372036854775807) (l : List Fld) (hu : l.length < 9223372036854775807) (H : Heap) :
    cal (evC cprog) true 15 [.agg [.int .i64 F, .lst (rows.map rRow)], eUnit l] H = some (.tup [eTab (syncs F rows l).1, .int .i64 (syncs F rows l).2], H) := by
  have h45 := fun X => f45 F rows hl hvl _ (H ++ X) (.lst _ rows) l hu
  rw [cal_of at15]
  by_cases ha : asked (F, rows) [l] = 0
  · obtain ⟨hG, hv, hl'⟩ := asked_good ha
    obtain ⟨rv, N, H', h46, hO, hG'⟩ := f46 F rows hl' hv hG (asked_apart ha) l hu (H ++ [⟨0, true, 24, 2, [[.int .i64 F, .lst (rows.map rRow)]]⟩, ⟨0, true, 24, 2, [[.int .i64 0, .nils]]⟩])
    obtain ⟨G, rfl⟩ := hO.split
    simp only [ha] at h45
    simp only [List.append_assoc, List.cons_append, List.nil_append] at h46
    by_cases hq : 0 ≤ (runUnit F rows l).1
    · have hs : syncs F rows l = ((0, []), 212) := by simp [syncs, ha, hq]
      rw [hs]
      simp only [c15, h45, h46, hq, fn_eq, evR, Nat.reduceAdd, Nat.reduceLT, Nat.reduceLeDiff, reduceIte, Nat.reduceEqDiff, reduceCtorEq, argEnv, eq_self, if_true, if_false]
      repeat' (first | (rw [guardK_cases]; split <;> simp only [c15, h45, h46, hq, evR, Nat.reduceAdd, Nat.reduceLT, Nat.reduceLeDiff, reduceIte, Nat.reduceEqDiff, reduceCtorEq, argEnv, eq_self, if_true, if_false, *]) | (rw [condK_bool]; split <;> simp only [c15, h45, h46, hq, evR, Nat.reduceAdd, Nat.reduceLT, Nat.reduceLeDiff, reduceIte, Nat.reduceEqDiff, reduceCtorEq, argEnv, eq_self, if_true, if_false, *]))
      exact calF_nil H _ 212
    · have hs : syncs F rows l = ((F, (runUnit F rows l).2), 0) := by simp [syncs, ha, hq]
      rw [hs]
      simp only [c15, h45, h46, hq, fn_eq, evR, Nat.reduceAdd, Nat.reduceLT, Nat.reduceLeDiff, reduceIte, Nat.reduceEqDiff, reduceCtorEq, argEnv, eq_self, if_true, if_false]
      repeat' (first | (rw [guardK_cases]; split <;> simp only [c15, h45, h46, hq, evR, Nat.reduceAdd, Nat.reduceLT, Nat.reduceLeDiff, reduceIte, Nat.reduceEqDiff, reduceCtorEq, argEnv, eq_self, if_true, if_false, *]) | (rw [condK_bool]; split <;> simp only [c15, h45, h46, hq, evR, Nat.reduceAdd, Nat.reduceLT, Nat.reduceLeDiff, reduceIte, Nat.reduceEqDiff, reduceCtorEq, argEnv, eq_self, if_true, if_false, *]))
      have h := ((hO.swap (H1' := H ++ [⟨0, true, 24, 2, [[.int .i64 F, .lst (rows.map rRow)]]⟩, ⟨0, true, 24, 2, [[.int .i64 F, rv]]⟩]) (by simp)).weaken).app [⟨0, true, 24, 2, [[.int .i64 F, rv]]⟩]
      simp only [List.append_assoc, List.cons_append, List.nil_append] at h
      exact calF_tab F 0 h (good_ne ha hG')
  · have hs : syncs F rows l = ((0, []), asked (F, rows) [l]) := by simp [syncs, ha]
    rw [hs]
    simp only [c15, h45, ha, fn_eq, evR, Nat.reduceAdd, Nat.reduceLT, Nat.reduceLeDiff, reduceIte, Nat.reduceEqDiff, reduceCtorEq, argEnv, eq_self, if_true, if_false]
    repeat' (first | (rw [guardK_cases]; split <;> simp only [c15, h45, ha, evR, Nat.reduceAdd, Nat.reduceLT, Nat.reduceLeDiff, reduceIte, Nat.reduceEqDiff, reduceCtorEq, argEnv, eq_self, if_true, if_false, *]) | (rw [condK_bool]; split <;> simp only [c15, h45, ha, evR, Nat.reduceAdd, Nat.reduceLT, Nat.reduceLeDiff, reduceIte, Nat.reduceEqDiff, reduceCtorEq, argEnv, eq_self, if_true, if_false, *]))
    exact calF_nil H _ _
theorem f14 (F : Int) (rows : List Row) (hl : rows.length < 9223372036854775807) (hvl : ∀ r ∈ rows, r.2.length < 9223372036854775807) (l : List Fld) (hu : l.length < 9223372036854775807) (H : Heap) :
    cal (evC cprog) true 14 [.agg [.int .i64 F, .lst (rows.map rRow)], eUnit l] H = some (.tup [eTab (syncs F rows l).1, .int .i64 (syncs F rows l).2], H) := by
  have h43 := fun B B' => f43' F rows hl hvl l hu H [B, B']
  simp only [List.length_cons, List.length_nil, List.cons_append, List.nil_append, Nat.zero_add, Nat.reduceAdd] at h43
  rw [cal_of at14]
  by_cases ha : asked (F, rows) [l] = 0
  · obtain ⟨hG, hv, hl'⟩ := asked_good ha
    obtain ⟨rv, N, H', h44, hO, hG'⟩ := f44 F rows hl' hv hG l hu (H ++ [⟨0, true, 24, 2, [[.int .i64 F, .lst (rows.map rRow)]]⟩, ⟨0, true, 24, 2, [[.int .i64 0, .nils]]⟩, ⟨0, true, 25, 1, [[eUnit l]]⟩])
    obtain ⟨G, rfl⟩ := hO.split
    simp only [ha] at h43
    simp only [List.append_assoc, List.cons_append, List.nil_append] at h44
    by_cases hq : 0 ≤ (runUnit F rows l).1
    · have hs : syncs F rows l = ((0, []), 212) := by simp [syncs, ha, hq]
      rw [hs]
      simp only [c14, cells_unit, isTup_unit, h43, h44, hq, fn_eq, evR, Nat.reduceAdd, Nat.reduceLT, Nat.reduceLeDiff, reduceIte, Nat.reduceEqDiff, reduceCtorEq, argEnv, eq_self, if_true, if_false]
      repeat' (first | (rw [guardK_cases]; split <;> simp only [c14, cells_unit, isTup_unit, h43, h44, hq, evR, Nat.reduceAdd, Nat.reduceLT, Nat.reduceLeDiff, reduceIte, Nat.reduceEqDiff, reduceCtorEq, argEnv, eq_self, if_true, if_false, *]) | (rw [condK_bool]; split <;> simp only [c14, cells_unit, isTup_unit, h43, h44, hq, evR, Nat.reduceAdd, Nat.reduceLT, Nat.reduceLeDiff, reduceIte, Nat.reduceEqDiff, reduceCtorEq, argEnv, eq_self, if_true, if_false, *]))
      exact calF_nil H _ 212
    · have hs : syncs F rows l = ((F, (runUnit F rows l).2), 0) := by simp [syncs, ha, hq]
      rw [hs]
      simp only [c14, cells_unit, isTup_unit, h43, h44, hq, fn_eq, evR, Nat.reduceAdd, Nat.reduceLT, Nat.reduceLeDiff, reduceIte, Nat.reduceEqDiff, reduceCtorEq, argEnv, eq_self, if_true, if_false]
      repeat' (first | (rw [guardK_cases]; split <;> simp only [c14, cells_unit, isTup_unit, h43, h44, hq, evR, Nat.reduceAdd, Nat.reduceLT, Nat.reduceLeDiff, reduceIte, Nat.reduceEqDiff, reduceCtorEq, argEnv, eq_self, if_true, if_false, *]) | (rw [condK_bool]; split <;> simp only [c14, cells_unit, isTup_unit, h43, h44, hq, evR, Nat.reduceAdd, Nat.reduceLT, Nat.reduceLeDiff, reduceIte, Nat.reduceEqDiff, reduceCtorEq, argEnv, eq_self, if_true, if_false, *]))
      have h := ((hO.swap (H1' := H ++ [⟨0, true, 24, 2, [[.int .i64 F, .lst (rows.map rRow)]]⟩, ⟨0, true, 24, 2, [[.int .i64 F, rv]]⟩, ⟨0, true, 25, 1, [[eUnit l]]⟩]) (by simp)).weaken).app [⟨0, true, 24, 2, [[.int .i64 F, rv]]⟩]
      simp only [List.append_assoc, List.cons_append, List.nil_append] at h
      exact calF_tab F 0 h (good_ne ha hG')
  · have hs : syncs F rows l = ((0, []), asked (F, rows) [l]) := by simp [syncs, ha]
    rw [hs]
    simp only [c14, cells_unit, isTup_unit, h43, ha, fn_eq, evR, Nat.reduceAdd, Nat.reduceLT, Nat.reduceLeDiff, reduceIte, Nat.reduceEqDiff, reduceCtorEq, argEnv, eq_self, if_true, if_false]
    repeat' (first | (rw [guardK_cases]; split <;> simp only [c14, cells_unit, isTup_unit, h43, ha, evR, Nat.reduceAdd, Nat.reduceLT, Nat.reduceLeDiff, reduceIte, Nat.reduceEqDiff, reduceCtorEq, argEnv, eq_self, if_true, if_false, *]) | (rw [condK_bool]; split <;> simp only [c14, cells_unit, isTup_unit, h43, ha, evR, Nat.reduceAdd, Nat.reduceLT, Nat.reduceLeDiff, reduceIte, Nat.reduceEqDiff, reduceCtorEq, argEnv, eq_self, if_true, if_false, *]))
    exact calF_nil H _ _
end Go.Proofs.Ytehcdcnghcbimaa.Code
