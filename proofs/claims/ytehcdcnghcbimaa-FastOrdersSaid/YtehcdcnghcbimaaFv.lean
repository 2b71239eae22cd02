/- The status of a call behind a unit: the program's and the document's, and the law FastCalls. -/
import Derived.Test.YtehcdcnghcbimaaFu
set_option linter.unusedSimpArgs false
set_option linter.unusedVariables false
namespace Go.Proofs.Ytehcdcnghcbimaa.Code
open Go.Proofs.Ytehcdcnghcbimaa.Ev

def sFE : ByteArray := ⟨#[70, 69]⟩
/-- what Call answers -/
noncomputable def calls (F : Int) (rows : List Row) (l : List Fld) (c : Fld) : ByteArray × Int :=
  if asked (F, rows) [l] = 0 then (if 0 ≤ (runUnit F rows l).1 then (sFE, 0) else ((doOne F (runUnit F rows l).2 c).1, 0)) else (⟨#[]⟩, asked (F, rows) [l])
theorem run_apart (F : Int) {rows : List Row} (h : Apart rows) (l : List Fld) : Apart (runUnit F rows l).2 := runIdx_inv (F := F) Apart (fun r c h => h.doOne c) l rows 0 h
theorem run_len (F : Int) (rows : List Row) (l : List Fld) : (runUnit F rows l).2.length = rows.length := runIdx_inv (F := F) (fun r => r.length = rows.length) (fun r c h => by rw [after, length_doOne]; exact h) l rows 0 rfl
theorem f22 (F : Int) (rows : List Row) (hl : rows.length < 9223372036854775807) (hvl : ∀ r ∈ rows, r.2.length < 9223372036854775807) (l : List Fld) (hu : l.length < 9223372036854775807) (c : Fld) (H : Heap) :
    cal (evC cprog) false 22 [.agg [.int .i64 F, .lst (rows.map rRow)], eUnit l, .agg (rFld c)] H = some (.tup [.str (calls F rows l c).1, .int .i64 (calls F rows l c).2], H) := by
  have h45 := fun X => f45 F rows hl hvl _ (H ++ X) (.lst _ rows) l hu
  rw [cal_of at22]
  by_cases ha : asked (F, rows) [l] = 0
  · obtain ⟨hG, hv, hl'⟩ := asked_good ha
    obtain ⟨rv, N, H', h46, hO, hG'⟩ := f46 F rows hl' hv hG (asked_apart ha) l hu (H ++ [⟨0, true, 24, 2, [[.int .i64 F, .lst (rows.map rRow)]]⟩, ⟨0, true, 37, 4, [rFld c]⟩])
    obtain ⟨G, rfl⟩ := hO.split
    simp only [ha] at h45
    simp only [List.append_assoc, List.cons_append, List.nil_append] at h46
    by_cases hq : 0 ≤ (runUnit F rows l).1
    · have hs : calls F rows l c = (sFE, 0) := by simp [calls, ha, hq]
      rw [hs]
      simp only [rFld] at h46
      simp only [c22, rFld, h45, h46, hq, fn_eq, evR, Nat.reduceAdd, Nat.reduceLT, Nat.reduceLeDiff, reduceIte, Nat.reduceEqDiff, reduceCtorEq, argEnv, eq_self, if_true, if_false]
      repeat' (first | (rw [guardK_cases]; split <;> simp only [c22, rFld, h45, h46, hq, evR, Nat.reduceAdd, Nat.reduceLT, Nat.reduceLeDiff, reduceIte, Nat.reduceEqDiff, reduceCtorEq, argEnv, eq_self, if_true, if_false, *]) | (rw [condK_bool]; split <;> simp only [c22, rFld, h45, h46, hq, evR, Nat.reduceAdd, Nat.reduceLT, Nat.reduceLeDiff, reduceIte, Nat.reduceEqDiff, reduceCtorEq, argEnv, eq_self, if_true, if_false, *]))
      rfl
    · have hs : calls F rows l c = ((doOne F (runUnit F rows l).2 c).1, 0) := by simp [calls, ha, hq]
      rw [hs]
      obtain ⟨H1, h57, hO1, _⟩ := f57 (hO.app [⟨0, true, 24, 2, [[.int .i64 F, rv]]⟩]) (F := F) (by rw [run_len]; exact hl) (fun r hr => (hG' r hr).1) (fun r hr => (hG' r hr).2) (run_apart F (asked_apart ha) l) c
      obtain ⟨G1, rfl⟩ := hO1.split
      simp only [rFld] at h46
      simp only [rFld, List.append_assoc, List.cons_append, List.nil_append] at h57
      simp only [c22, rFld, h45, h46, hq, h57, fn_eq, evR, Nat.reduceAdd, Nat.reduceLT, Nat.reduceLeDiff, reduceIte, Nat.reduceEqDiff, reduceCtorEq, argEnv, eq_self, if_true, if_false]
      repeat' (first | (rw [guardK_cases]; split <;> simp only [c22, rFld, h45, h46, hq, h57, evR, Nat.reduceAdd, Nat.reduceLT, Nat.reduceLeDiff, reduceIte, Nat.reduceEqDiff, reduceCtorEq, argEnv, eq_self, if_true, if_false, *]) | (rw [condK_bool]; split <;> simp only [c22, rFld, h45, h46, hq, h57, evR, Nat.reduceAdd, Nat.reduceLT, Nat.reduceLeDiff, reduceIte, Nat.reduceEqDiff, reduceCtorEq, argEnv, eq_self, if_true, if_false, *]))
  · have hs : calls F rows l c = (⟨#[]⟩, asked (F, rows) [l]) := by simp [calls, ha]
    rw [hs]
    simp only [c22, rFld, h45, ha, fn_eq, evR, Nat.reduceAdd, Nat.reduceLT, Nat.reduceLeDiff, reduceIte, Nat.reduceEqDiff, reduceCtorEq, argEnv, eq_self, if_true, if_false]
    repeat' (first | (rw [guardK_cases]; split <;> simp only [c22, rFld, h45, ha, evR, Nat.reduceAdd, Nat.reduceLT, Nat.reduceLeDiff, reduceIte, Nat.reduceEqDiff, reduceCtorEq, argEnv, eq_self, if_true, if_false, *]) | (rw [condK_bool]; split <;> simp only [c22, rFld, h45, ha, evR, Nat.reduceAdd, Nat.reduceLT, Nat.reduceLeDiff, reduceIte, Nat.reduceEqDiff, reduceCtorEq, argEnv, eq_self, if_true, if_false, *]))
theorem f21 (F : Int) (rows : List Row) (hl : rows.length < 9223372036854775807) (hvl : ∀ r ∈ rows, r.2.length < 9223372036854775807) (l : List Fld) (hu : l.length < 9223372036854775807) (c : Fld) (H : Heap) :
    cal (evC cprog) false 21 [.agg [.int .i64 F, .lst (rows.map rRow)], eUnit l, .agg (rFld c)] H = some (.tup [.str (calls F rows l c).1, .int .i64 (calls F rows l c).2], H) := by
  have h43 := fun B B' => f43' F rows hl hvl l hu H [B, B']
  simp only [List.length_cons, List.length_nil, List.cons_append, List.nil_append, Nat.zero_add, Nat.reduceAdd] at h43
  rw [cal_of at21]
  by_cases ha : asked (F, rows) [l] = 0
  · obtain ⟨hG, hv, hl'⟩ := asked_good ha
    obtain ⟨rv, N, H', h44, hO, hG'⟩ := f44 F rows hl' hv hG l hu (H ++ [⟨0, true, 24, 2, [[.int .i64 F, .lst (rows.map rRow)]]⟩, ⟨0, true, 37, 4, [rFld c]⟩, ⟨0, true, 25, 1, [[eUnit l]]⟩])
    obtain ⟨G, rfl⟩ := hO.split
    simp only [ha] at h43
    simp only [List.append_assoc, List.cons_append, List.nil_append] at h44
    by_cases hq : 0 ≤ (runUnit F rows l).1
    · have hs : calls F rows l c = (sFE, 0) := by simp [calls, ha, hq]
      rw [hs]
      simp only [rFld] at h44
      simp only [c21, rFld, cells_unit, isTup_unit, h43, h44, hq, fn_eq, evR, Nat.reduceAdd, Nat.reduceLT, Nat.reduceLeDiff, reduceIte, Nat.reduceEqDiff, reduceCtorEq, argEnv, eq_self, if_true, if_false]
      repeat' (first | (rw [guardK_cases]; split <;> simp only [c21, rFld, cells_unit, isTup_unit, h43, h44, hq, evR, Nat.reduceAdd, Nat.reduceLT, Nat.reduceLeDiff, reduceIte, Nat.reduceEqDiff, reduceCtorEq, argEnv, eq_self, if_true, if_false, *]) | (rw [condK_bool]; split <;> simp only [c21, rFld, cells_unit, isTup_unit, h43, h44, hq, evR, Nat.reduceAdd, Nat.reduceLT, Nat.reduceLeDiff, reduceIte, Nat.reduceEqDiff, reduceCtorEq, argEnv, eq_self, if_true, if_false, *]))
      rfl
    · have hs : calls F rows l c = ((doOne F (runUnit F rows l).2 c).1, 0) := by simp [calls, ha, hq]
      rw [hs]
      obtain ⟨H1, h56, hO1, _⟩ := f56 (hO.app [⟨0, true, 24, 2, [[.int .i64 F, rv]]⟩]) (F := F) (by rw [run_len]; exact hl) (fun r hr => (hG' r hr).1) (fun r hr => (hG' r hr).2) c
      obtain ⟨G1, rfl⟩ := hO1.split
      simp only [rFld] at h44
      simp only [rFld, List.append_assoc, List.cons_append, List.nil_append] at h56
      simp only [c21, rFld, cells_unit, isTup_unit, h43, h44, hq, h56, fn_eq, evR, Nat.reduceAdd, Nat.reduceLT, Nat.reduceLeDiff, reduceIte, Nat.reduceEqDiff, reduceCtorEq, argEnv, eq_self, if_true, if_false]
      repeat' (first | (rw [guardK_cases]; split <;> simp only [c21, rFld, cells_unit, isTup_unit, h43, h44, hq, h56, evR, Nat.reduceAdd, Nat.reduceLT, Nat.reduceLeDiff, reduceIte, Nat.reduceEqDiff, reduceCtorEq, argEnv, eq_self, if_true, if_false, *]) | (rw [condK_bool]; split <;> simp only [c21, rFld, cells_unit, isTup_unit, h43, h44, hq, h56, evR, Nat.reduceAdd, Nat.reduceLT, Nat.reduceLeDiff, reduceIte, Nat.reduceEqDiff, reduceCtorEq, argEnv, eq_self, if_true, if_false, *]))
  · have hs : calls F rows l c = (⟨#[]⟩, asked (F, rows) [l]) := by simp [calls, ha]
    rw [hs]
    simp only [c21, rFld, cells_unit, isTup_unit, h43, ha, fn_eq, evR, Nat.reduceAdd, Nat.reduceLT, Nat.reduceLeDiff, reduceIte, Nat.reduceEqDiff, reduceCtorEq, argEnv, eq_self, if_true, if_false]
    repeat' (first | (rw [guardK_cases]; split <;> simp only [c21, rFld, cells_unit, isTup_unit, h43, ha, evR, Nat.reduceAdd, Nat.reduceLT, Nat.reduceLeDiff, reduceIte, Nat.reduceEqDiff, reduceCtorEq, argEnv, eq_self, if_true, if_false, *]) | (rw [condK_bool]; split <;> simp only [c21, rFld, cells_unit, isTup_unit, h43, ha, evR, Nat.reduceAdd, Nat.reduceLT, Nat.reduceLeDiff, reduceIte, Nat.reduceEqDiff, reduceCtorEq, argEnv, eq_self, if_true, if_false, *]))
theorem f4 (F : Int) (rows : List Row) (hl : rows.length < 9223372036854775807) (hvl : ∀ r ∈ rows, r.2.length < 9223372036854775807) (l : List Fld) (hu : l.length < 9223372036854775807) (c : Fld) :
    ∃ H', evC cprog 4 [.agg [.int .i64 F, .lst (rows.map rRow)], eUnit l, .agg (rFld c)] [] = some (.bool true, H') := by
  have h10 := fun H => f10 F rows hl _ H (.lst H rows)
  have h21 := fun H => f21 F rows hl hvl l hu c H
  have h22 := fun H => f22 F rows hl hvl l hu c H
  have h11 := f11
  have hlen := (sUnit [] l).len
  simp only [List.length_map] at hlen
  simp only [rFld] at h21 h22
  rw [evC_fn at4]
  simp only [c4, rFld, h10, h11, h21, h22, hlen, beq_self_eq_true, evW, fn_eq, evR, Nat.reduceAdd, Nat.reduceLT, Nat.reduceLeDiff, reduceIte, Nat.reduceEqDiff, reduceCtorEq, argEnv, eq_self, if_true, if_false]
  repeat' (first | (rw [guardK_cases]; split <;> simp only [c4, rFld, h10, h11, h21, h22, hlen, beq_self_eq_true, evW, evR, Nat.reduceAdd, Nat.reduceLT, Nat.reduceLeDiff, reduceIte, Nat.reduceEqDiff, reduceCtorEq, argEnv, eq_self, if_true, if_false, *]) | (rw [condK_bool]; split <;> simp only [c4, rFld, h10, h11, h21, h22, hlen, beq_self_eq_true, evW, evR, Nat.reduceAdd, Nat.reduceLT, Nat.reduceLeDiff, reduceIte, Nat.reduceEqDiff, reduceCtorEq, argEnv, eq_self, if_true, if_false, *]) | (rw [guardD_cases]; split <;> simp only [c4, rFld, h10, h11, h21, h22, hlen, beq_self_eq_true, evW, evR, Nat.reduceAdd, Nat.reduceLT, Nat.reduceLeDiff, reduceIte, Nat.reduceEqDiff, reduceCtorEq, argEnv, eq_self, if_true, if_false, *]))
  all_goals exact ⟨_, rfl⟩
end Go.Proofs.Ytehcdcnghcbimaa.Code
namespace Go.Proofs.Ytehcdcnghcbimaa.Pure
open Go.Proofs.Ytehcdcnghcbimaa.Ev Go.Proofs.Ytehcdcnghcbimaa.Code
theorem FastCalls (a0 : AV) (t0 : ArgTy true [.int .i64, .sl [.str, .sl [.int .i64]]] a0) (a1 : AV) (t1 : ArgTy false [.sl [.str, .int .i64, .str, .int .i64]] a1) (a2 : AV) (t2 : ArgTy true [.str, .int .i64, .str, .int .i64] a2) : ∃ H', evC cprog 4 [a0, a1, a2] [] = some (.bool true, H') := by
  obtain ⟨F, rows, rfl, h1, h2⟩ := open_table t0
  obtain ⟨l, rfl, h3⟩ := open_unit t1
  obtain ⟨bs, rfl, h⟩ := t2
  obtain ⟨c, rfl, _⟩ := open_fld h
  unfold reachBytes at h1 h2 h3
  exact f4 F rows (by omega) (fun r hr => by have := h2 r hr; omega) l (by omega) c
end Go.Proofs.Ytehcdcnghcbimaa.Pure
