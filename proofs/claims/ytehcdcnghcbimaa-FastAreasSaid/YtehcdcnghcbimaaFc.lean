/- fast: which tables are valid, as the program tells it; what is asked of both. -/
import Derived.Test.YtehcdcnghcbimaaFb
set_option linter.unusedSimpArgs false
set_option linter.unusedVariables false
namespace Go.Proofs.Ytehcdcnghcbimaa.Code
open Go.Proofs.Ytehcdcnghcbimaa.Ev

theorem f16 (F : Int) (rows : List Row) (hl : rows.length < 9223372036854775807) (hvl : ∀ r ∈ rows, r.2.length < 9223372036854775807) (rv : AV) (H : Heap) (hr : RowsAt H rv rows) :
    cal (evC cprog) false 16 [.agg [.int .i64 F, rv]] H = some (.bool (valid (F, rows)), H) := by
  rw [cal_of at16]
  have h3 := hr.len
  simp only [c16, h3, fn_eq, evR, Nat.reduceAdd, Nat.reduceLT, Nat.reduceLeDiff, reduceIte, Nat.reduceEqDiff, reduceCtorEq, argEnv, eq_self, if_true, if_false]
  repeat' (first | (rw [guardK_cases]; split <;> simp only [c16, h3, evR, Nat.reduceAdd, Nat.reduceLT, Nat.reduceLeDiff, reduceIte, Nat.reduceEqDiff, reduceCtorEq, argEnv, eq_self, if_true, if_false, *]) | (rw [condK_bool]; split <;> simp only [c16, h3, evR, Nat.reduceAdd, Nat.reduceLT, Nat.reduceLeDiff, reduceIte, Nat.reduceEqDiff, reduceCtorEq, argEnv, eq_self, if_true, if_false, *]))
  all_goals first | (simp only [Option.some.injEq, Prod.mk.injEq, and_true, AV.bool.injEq]; simp_all [valid]; intros; omega) | skip
  generalize hz : itLim _ _ = z
  have L := scan_rule rows (rowOk F rows) [1, 20, 21, 22] (fun i => [(1, .ptr H.length 0 2 0 0), (20, rv), (21, .int .i64 (rows.length : Int)), (22, .int .i64 (i : Int))]) H [⟨0, true, 24, 2, [[.int .i64 F, rv]]⟩] (evCode (evC cprog) itLim c16_l0) (fun c T => c = .exit 0) (fun _ _ c T => c = .ret ∧ get T 2 = some (.bool false))
    (fun i r hx E G hE => by
      have hlt : i < rows.length := (List.getElem?_eq_some_iff.1 hx).1
      have hi : (i : Int) < (rows.length : Int) := by omega
      obtain ⟨v, p, hv, hp, hat⟩ := hr.get hx
      have h4 := hv.len
      simp only [List.length_map] at h4
      have h48 := fun G' => f48 r.2 (H ++ G') v (hv.app G') (hvl r (List.mem_of_getElem? hx))
      by_cases hi0 : 0 < i
      · obtain ⟨r', hr'⟩ : ∃ r', rows[i - 1]? = some r' := ⟨_, List.getElem?_eq_getElem (by omega)⟩
        obtain ⟨v', p', hv', hp', hat'⟩ := hr.get hr'
        have hi1 : (0 : Int) < (i : Int) := by omega
        have hk : keyAt rows (i - 1) = r'.1 := by simp [keyAt, hr']
        simp only [c16_l0, hE, h3, h4, h48, f47, bLt_tri, hi, hi1, hp, hp', hat'.faddr, hat'.fldx, hat.aggx (n := 2) rfl, hat.faddr, hat.fldx, wrapS hlt hl, wrapP hlt hi0 hl, fn_eq, evR, Nat.reduceAdd, Nat.reduceLT, Nat.reduceLeDiff, reduceIte, Nat.reduceEqDiff, reduceCtorEq, argEnv, eq_self, if_true, if_false]
        repeat' (first | (rw [guardK_cases]; split <;> simp only [c16_l0, hE, h3, h4, h48, f47, bLt_tri, hi, hi1, hp, hp', hat'.faddr, hat'.fldx, hat.aggx (n := 2) rfl, hat.faddr, hat.fldx, wrapS hlt hl, wrapP hlt hi0 hl, evR, Nat.reduceAdd, Nat.reduceLT, Nat.reduceLeDiff, reduceIte, Nat.reduceEqDiff, reduceCtorEq, argEnv, eq_self, if_true, if_false, *]) | (rw [condK_bool]; split <;> simp only [c16_l0, hE, h3, h4, h48, f47, bLt_tri, hi, hi1, hp, hp', hat'.faddr, hat'.fldx, hat.aggx (n := 2) rfl, hat.faddr, hat.fldx, wrapS hlt hl, wrapP hlt hi0 hl, evR, Nat.reduceAdd, Nat.reduceLT, Nat.reduceLeDiff, reduceIte, Nat.reduceEqDiff, reduceCtorEq, argEnv, eq_self, if_true, if_false, *]))
        all_goals first | exact Sc.next (by first | (simp_all [rowOk, isKey]; done) | (simp_all [rowOk, isKey]; intros; omega)) (by rfl) | exact Sc.ret (by first | (simp_all [rowOk, isKey]; done) | (simp_all [rowOk, isKey]; intros; omega)) ⟨rfl, by first | rfl | exact ⟨rfl, rfl, rfl⟩⟩ | exact Sc.exit (by first | (simp_all [rowOk, isKey]; done) | (simp_all [rowOk, isKey]; intros; omega)) ⟨rfl, rfl⟩
      · have hi1 : ¬ (0 : Int) < (i : Int) := by omega
        simp only [c16_l0, hE, h3, h4, h48, f47, hi, hi1, hp, hat.aggx (n := 2) rfl, hat.faddr, hat.fldx, wrapS hlt hl, fn_eq, evR, Nat.reduceAdd, Nat.reduceLT, Nat.reduceLeDiff, reduceIte, Nat.reduceEqDiff, reduceCtorEq, argEnv, eq_self, if_true, if_false]
        repeat' (first | (rw [guardK_cases]; split <;> simp only [c16_l0, hE, h3, h4, h48, f47, hi, hi1, hp, hat.aggx (n := 2) rfl, hat.faddr, hat.fldx, wrapS hlt hl, evR, Nat.reduceAdd, Nat.reduceLT, Nat.reduceLeDiff, reduceIte, Nat.reduceEqDiff, reduceCtorEq, argEnv, eq_self, if_true, if_false, *]) | (rw [condK_bool]; split <;> simp only [c16_l0, hE, h3, h4, h48, f47, hi, hi1, hp, hat.aggx (n := 2) rfl, hat.faddr, hat.fldx, wrapS hlt hl, evR, Nat.reduceAdd, Nat.reduceLT, Nat.reduceLeDiff, reduceIte, Nat.reduceEqDiff, reduceCtorEq, argEnv, eq_self, if_true, if_false, *]))
        all_goals first | exact Sc.next (by first | (simp_all [rowOk, isKey]; done) | (simp_all [rowOk, isKey]; intros; omega)) (by rfl) | exact Sc.ret (by first | (simp_all [rowOk, isKey]; done) | (simp_all [rowOk, isKey]; intros; omega)) ⟨rfl, by first | rfl | exact ⟨rfl, rfl, rfl⟩⟩ | exact Sc.exit (by first | (simp_all [rowOk, isKey]; done) | (simp_all [rowOk, isKey]; intros; omega)) ⟨rfl, rfl⟩)
    (fun E G hE => by
      simp only [c16_l0, hE, h3, Int.lt_irrefl, fn_eq, evR, Nat.reduceAdd, Nat.reduceLT, Nat.reduceLeDiff, reduceIte, Nat.reduceEqDiff, reduceCtorEq, argEnv, eq_self, if_true, if_false]
      repeat' (first | (rw [guardK_cases]; split <;> simp only [c16_l0, hE, h3, Int.lt_irrefl, evR, Nat.reduceAdd, Nat.reduceLT, Nat.reduceLeDiff, reduceIte, Nat.reduceEqDiff, reduceCtorEq, argEnv, eq_self, if_true, if_false, *]) | (rw [condK_bool]; split <;> simp only [c16_l0, hE, h3, Int.lt_irrefl, evR, Nat.reduceAdd, Nat.reduceLT, Nat.reduceLeDiff, reduceIte, Nat.reduceEqDiff, reduceCtorEq, argEnv, eq_self, if_true, if_false, *]))
      exact .exit (K := [_]) rfl) _ [] (by rfl) (by simp) z hz
  rcases L with ⟨ha, c, T, G, rfl, _, rfl⟩ | ⟨i, r, hx, ha, _, c, T, G, rfl, _, rfl, hT⟩
  · have hrows : rowsOk F rows = true := tell_pos ha
    simp only [h3, fn_eq, evR, Nat.reduceAdd, Nat.reduceLT, Nat.reduceLeDiff, reduceIte, Nat.reduceEqDiff, reduceCtorEq, argEnv, eq_self, if_true, if_false]
    repeat' (first | (rw [guardK_cases]; split <;> simp only [h3, evR, Nat.reduceAdd, Nat.reduceLT, Nat.reduceLeDiff, reduceIte, Nat.reduceEqDiff, reduceCtorEq, argEnv, eq_self, if_true, if_false, *]) | (rw [condK_bool]; split <;> simp only [h3, evR, Nat.reduceAdd, Nat.reduceLT, Nat.reduceLeDiff, reduceIte, Nat.reduceEqDiff, reduceCtorEq, argEnv, eq_self, if_true, if_false, *]))
    all_goals (simp_all [valid]; try omega)
  · have hrows : rowsOk F rows = false := tell_neg fun h => by rw [h i r hx] at ha; cases ha
    simp only [hT, fn_eq, evR, Nat.reduceAdd, Nat.reduceLT, Nat.reduceLeDiff, reduceIte, Nat.reduceEqDiff, reduceCtorEq, argEnv, eq_self, if_true, if_false]
    repeat' (first | (rw [guardK_cases]; split <;> simp only [hT, evR, Nat.reduceAdd, Nat.reduceLT, Nat.reduceLeDiff, reduceIte, Nat.reduceEqDiff, reduceCtorEq, argEnv, eq_self, if_true, if_false, *]) | (rw [condK_bool]; split <;> simp only [hT, evR, Nat.reduceAdd, Nat.reduceLT, Nat.reduceLeDiff, reduceIte, Nat.reduceEqDiff, reduceCtorEq, argEnv, eq_self, if_true, if_false, *]))
    simp_all [valid]
theorem f68 (l : List Fld) (hl : l.length < 9223372036854775807) (H : Heap) : cal (evC cprog) false 68 [eUnit l] H = some (.bool (!isUnit l), H) := by
  rw [cal_of at68]
  have h := f18 l hl
  simp only [c68, h, fn_eq, evR, Nat.reduceAdd, Nat.reduceLT, Nat.reduceLeDiff, reduceIte, Nat.reduceEqDiff, reduceCtorEq, argEnv, eq_self, if_true, if_false]
  repeat' (first | (rw [guardK_cases]; split <;> simp only [c68, h, evR, Nat.reduceAdd, Nat.reduceLT, Nat.reduceLeDiff, reduceIte, Nat.reduceEqDiff, reduceCtorEq, argEnv, eq_self, if_true, if_false, *]) | (rw [condK_bool]; split <;> simp only [c68, h, evR, Nat.reduceAdd, Nat.reduceLT, Nat.reduceLeDiff, reduceIte, Nat.reduceEqDiff, reduceCtorEq, argEnv, eq_self, if_true, if_false, *]))
theorem lUnit (l : List Fld) : Loads false 1 [eUnit l] (eUnit l) := ⟨rfl, rfl, rfl⟩
theorem f67 (us : List (List Fld)) (H : Heap) (a : AV) (ha : SlAt H 1 a (us.map fun l => [eUnit l])) (hl : us.length < 9223372036854775807) (hu : ∀ l ∈ us, l.length < 9223372036854775807) :
    cal (evC cprog) false 67 [a, .fn 68 []] H = some (.bool (us.any fun l => !isUnit l), H) :=
  containsFunc_ok (g := 79) at67 (indexFunc_ok (sz := 1) (ag := false) at79 _ _ lUnit 68 [] _ H _ us ha hl fun l h => f68 l (hu l h) H)
/-- the error of a table and units -/
noncomputable def asked (t : Table) (us : List (List Fld)) : Int := if valid t = false then 210 else if us.all isUnit = false then 211 else 0
theorem f43 (F : Int) (rows : List Row) (hl : rows.length < 9223372036854775807) (hvl : ∀ r ∈ rows, r.2.length < 9223372036854775807) (rv : AV) (H : Heap) (hr : RowsAt H rv rows)
    (us : List (List Fld)) (a : AV) (ha : SlAt H 1 a (us.map fun l => [eUnit l])) (hul : us.length < 9223372036854775807) (hu : ∀ l ∈ us, l.length < 9223372036854775807) :
    cal (evC cprog) false 43 [.agg [.int .i64 F, rv], a] H = some (.int .i64 (asked (F, rows) us), H) := by
  rw [cal_of at43]
  have h16 := fun X => f16 F rows hl hvl rv (H ++ X) (hr.app X)
  have h67 := fun X => f67 us (H ++ X) a (ha.app X) hul hu
  have e : (us.any fun l => !isUnit l) = !us.all isUnit := by rw [List.any_eq_not_all_not]; simp
  rw [e] at h67
  simp only [c43, h16, h67, fn_eq, evR, Nat.reduceAdd, Nat.reduceLT, Nat.reduceLeDiff, reduceIte, Nat.reduceEqDiff, reduceCtorEq, argEnv, eq_self, if_true, if_false]
  repeat' (first | (rw [guardK_cases]; split <;> simp only [c43, h16, h67, evR, Nat.reduceAdd, Nat.reduceLT, Nat.reduceLeDiff, reduceIte, Nat.reduceEqDiff, reduceCtorEq, argEnv, eq_self, if_true, if_false, *]) | (rw [condK_bool]; split <;> simp only [c43, h16, h67, evR, Nat.reduceAdd, Nat.reduceLT, Nat.reduceLeDiff, reduceIte, Nat.reduceEqDiff, reduceCtorEq, argEnv, eq_self, if_true, if_false, *]))
  all_goals (simp_all [asked])
theorem f45 (F : Int) (rows : List Row) (hl : rows.length < 9223372036854775807) (hvl : ∀ r ∈ rows, r.2.length < 9223372036854775807) (rv : AV) (H : Heap) (hr : RowsAt H rv rows)
    (l : List Fld) (hu : l.length < 9223372036854775807) :
    cal (evC cprog) false 45 [.agg [.int .i64 F, rv], eUnit l] H = some (.int .i64 (asked (F, rows) [l]), H) := by
  rw [cal_of at45]
  have h17 := fun X => f17 F rows hl hvl rv (H ++ X) (hr.app X)
  have h19 := f19 l hu
  simp only [c45, h17, h19, fn_eq, evR, Nat.reduceAdd, Nat.reduceLT, Nat.reduceLeDiff, reduceIte, Nat.reduceEqDiff, reduceCtorEq, argEnv, eq_self, if_true, if_false]
  repeat' (first | (rw [guardK_cases]; split <;> simp only [c45, h17, h19, evR, Nat.reduceAdd, Nat.reduceLT, Nat.reduceLeDiff, reduceIte, Nat.reduceEqDiff, reduceCtorEq, argEnv, eq_self, if_true, if_false, *]) | (rw [condK_bool]; split <;> simp only [c45, h17, h19, evR, Nat.reduceAdd, Nat.reduceLT, Nat.reduceLeDiff, reduceIte, Nat.reduceEqDiff, reduceCtorEq, argEnv, eq_self, if_true, if_false, *]))
  all_goals (simp_all [asked])
end Go.Proofs.Ytehcdcnghcbimaa.Code
