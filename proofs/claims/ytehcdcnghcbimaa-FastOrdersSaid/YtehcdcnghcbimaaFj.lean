/- fast: Stands, Sync and Call of the program. -/
import Derived.Test.YtehcdcnghcbimaaFi
set_option linter.unusedSimpArgs false
set_option linter.unusedVariables false
namespace Go.Proofs.Ytehcdcnghcbimaa.Code
open Go.Proofs.Ytehcdcnghcbimaa.Ev

theorem cells_unit (l : List Fld) : (eUnit l).cells = [eUnit l] := rfl
theorem isTup_unit (l : List Fld) : (eUnit l).isTup = false := rfl
theorem f43' (F : Int) (rows : List Row) (hl : rows.length < 9223372036854775807) (hvl : ∀ r ∈ rows, r.2.length < 9223372036854775807) (l : List Fld) (hu : l.length < 9223372036854775807) (H K : Heap) :
    cal (evC cprog) false 43 [.agg [.int .i64 F, .lst (rows.map rRow)], .ref (H.length + K.length) 0 1 0 1] (H ++ (K ++ [⟨0, true, 25, 1, [[eUnit l]]⟩])) = some (.int .i64 (asked (F, rows) [l]), H ++ (K ++ [⟨0, true, 25, 1, [[eUnit l]]⟩])) :=
  f43 F rows hl hvl _ _ (.lst _ rows) [l] _ (SlAt.ref (b := H.length + K.length) (v := 0) (off := 0) (rows := [[eUnit l]]) (k := ⟨0, true, 25, 1, [[eUnit l]]⟩) (by simp only [curBlk_eq, at_app, at_app0]; rfl) fun i row hi => by
    cases i with
    | zero => simp at hi; subst hi; exact ⟨rfl, rfl⟩
    | succ i => simp at hi) (by simp) (by simpa using hu)
theorem asked_good {F : Int} {rows : List Row} {us : List (List Fld)} (h : asked (F, rows) us = 0) : GoodRows F rows ∧ (∀ r ∈ rows, r.2 ≠ [] ∧ r.2.length ≤ 1000000) ∧ rows.length ≤ 1000000 := by
  have hv : valid (F, rows) = true := by
    cases hv : valid (F, rows) with
    | true => rfl
    | false => simp [asked, hv] at h
  simp only [valid, Bool.and_eq_true, decide_eq_true_eq] at hv
  obtain ⟨⟨⟨h1, h2⟩, h3⟩, h4⟩ := hv
  have hr : ∀ r ∈ rows, (r.2.length : Int) = F ∧ r.2.all isAmount = true := fun r hr => by
    obtain ⟨i, hi⟩ := List.getElem?_of_mem hr
    have := tell_true.1 h4 i r hi
    simp only [rowOk, Bool.and_eq_true, decide_eq_true_eq] at this
    exact ⟨this.1.2, this.2⟩
  exact ⟨fun r h => ⟨(hr r h).1, List.all_eq_true.1 (hr r h).2⟩, fun r h => ⟨fun e => by have := (hr r h).1; rw [e] at this; simp at this; omega, by have := (hr r h).1; omega⟩, by omega⟩
/-- what Stands answers -/
noncomputable def stands (F : Int) (rows : List Row) (l : List Fld) : Int × Int := if asked (F, rows) [l] = 0 then ((runUnit F rows l).1, 0) else (0, asked (F, rows) [l])
theorem f12 (F : Int) (rows : List Row) (hl : rows.length < 9223372036854775807) (hvl : ∀ r ∈ rows, r.2.length < 9223372036854775807) (l : List Fld) (hu : l.length < 9223372036854775807) (H : Heap) (frz : Bool) :
    cal (evC cprog) false 12 [.agg [.int .i64 F, .lst (rows.map rRow)], eUnit l] H = some (.tup [.int .i64 (stands F rows l).1, .int .i64 (stands F rows l).2], H) := by
  have h43 := fun B => f43' F rows hl hvl l hu H [B]
  simp only [List.length_cons, List.length_nil, List.cons_append, List.nil_append, Nat.zero_add] at h43
  rw [cal_of at12]
  by_cases ha : asked (F, rows) [l] = 0
  · obtain ⟨hG, hv, hl'⟩ := asked_good ha
    obtain ⟨rv, N, H', h44, hO, _⟩ := f44 F rows hl' hv hG l hu (H ++ [⟨0, true, 24, 2, [[.int .i64 F, .lst (rows.map rRow)]]⟩, ⟨0, true, 25, 1, [[eUnit l]]⟩])
    obtain ⟨G, rfl⟩ := hO.split
    simp only [ha] at h43
    simp only [List.append_assoc, List.cons_append, List.nil_append] at h44
    have hs : stands F rows l = ((runUnit F rows l).1, 0) := by simp [stands, ha]
    rw [hs]
    simp only [c12, cells_unit, isTup_unit, h43, h44, fn_eq, evR, Nat.reduceAdd, Nat.reduceLT, Nat.reduceLeDiff, reduceIte, Nat.reduceEqDiff, reduceCtorEq, argEnv, eq_self, if_true, if_false]
    repeat' (first | (rw [guardK_cases]; split <;> simp only [c12, cells_unit, isTup_unit, h43, h44, evR, Nat.reduceAdd, Nat.reduceLT, Nat.reduceLeDiff, reduceIte, Nat.reduceEqDiff, reduceCtorEq, argEnv, eq_self, if_true, if_false, *]) | (rw [condK_bool]; split <;> simp only [c12, cells_unit, isTup_unit, h43, h44, evR, Nat.reduceAdd, Nat.reduceLT, Nat.reduceLeDiff, reduceIte, Nat.reduceEqDiff, reduceCtorEq, argEnv, eq_self, if_true, if_false, *]))
  · have hs : stands F rows l = (0, asked (F, rows) [l]) := by simp [stands, ha]
    rw [hs]
    simp only [c12, cells_unit, isTup_unit, h43, ha, fn_eq, evR, Nat.reduceAdd, Nat.reduceLT, Nat.reduceLeDiff, reduceIte, Nat.reduceEqDiff, reduceCtorEq, argEnv, eq_self, if_true, if_false]
    repeat' (first | (rw [guardK_cases]; split <;> simp only [c12, cells_unit, isTup_unit, h43, ha, evR, Nat.reduceAdd, Nat.reduceLT, Nat.reduceLeDiff, reduceIte, Nat.reduceEqDiff, reduceCtorEq, argEnv, eq_self, if_true, if_false, *]) | (rw [condK_bool]; split <;> simp only [c12, cells_unit, isTup_unit, h43, ha, evR, Nat.reduceAdd, Nat.reduceLT, Nat.reduceLeDiff, reduceIte, Nat.reduceEqDiff, reduceCtorEq, argEnv, eq_self, if_true, if_false, *]))
end Go.Proofs.Ytehcdcnghcbimaa.Code
