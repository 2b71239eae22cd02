/- The document's totals; lists of bools; the law FastOrders. -/
import Derived.Test.YtehcdcnghcbimaaGg
set_option linter.unusedSimpArgs false
set_option linter.unusedVariables false
namespace Go.Proofs.Ytehcdcnghcbimaa.Code
open Go.Proofs.Ytehcdcnghcbimaa.Ev

theorem l26 {F : Int} {rows : List Row} (hv : valid (F, rows) = true) (f : Nat) (hf : (f : Int) < F) (H G : Heap) (st : St)
    (hE : keepEnv st.1 [1, 2, 6, 7] = [(1, .int .i64 (f : Int)), (2, .ptr H.length 0 2 0 0), (6, .int .i64 0), (7, .int .i64 0)]) (hH : st.2 = H ++ ([⟨0, true, 24, 2, [[.int .i64 F, .lst (rows.map rRow)]]⟩] ++ G)) (z : Option (CX × St)) (hz : itLim (evCode (evC cprog) itLim c26_l0) st = z) :
    Lv H [⟨0, true, 24, 2, [[.int .i64 F, .lst (rows.map rRow)]]⟩] (fun x T => x = .exit 1 ∧ get T 6 = some (.int .i64 (tot f rows))) z := by
  have hb := valid_bounds hv
  rcases all_rule rows (fun _ => true) [1, 2, 6, 7] (fun i => [(1, .int .i64 (f : Int)), (2, .ptr H.length 0 2 0 0), (6, .int .i64 (tot f (rows.take i))), (7, .int .i64 (i : Int))]) H _ (evCode (evC cprog) itLim c26_l0) (fun x T => x = .exit 1 ∧ get T 6 = some (.int .i64 (tot f rows))) (fun _ _ => False)
    (fun i r hx E G hE => by
      have hlt : i < rows.length := (List.getElem?_eq_some_iff.1 hx).1
      have hi : (i : Int) < (rows.length : Int) := by omega
      obtain ⟨v, p, hv', hp, hat⟩ := (RowsAt.lst H rows).get hx
      have hfl : f < r.2.length := by have := (valid_good hv r (List.mem_of_getElem? hx)).1; omega
      obtain ⟨n, hn⟩ : ∃ n, r.2[f]? = some n := ⟨_, List.getElem?_eq_getElem hfl⟩
      obtain ⟨_, q, hq, hqt⟩ := hv'.get f [.int .i64 n] (by rw [List.getElem?_map, hn]; rfl)
      have hs := tot_take f rows hx
      rw [hn] at hs
      simp only [Option.getD_some] at hs
      simp only [c26_l0, hE, hi, hp, hat.aggx (n := 2) rfl, hat.fldx, hat.faddr, hq, hqt.onex, ← hs, List.length_map, wrapS hlt hb.1, evW, fn_eq, evR, Nat.reduceAdd, Nat.reduceLT, Nat.reduceLeDiff, reduceIte, Nat.reduceEqDiff, reduceCtorEq, argEnv, eq_self, if_true, if_false]
      repeat' (first | (rw [guardK_cases]; split <;> simp only [c26_l0, hE, hi, hp, hat.aggx (n := 2) rfl, hat.fldx, hat.faddr, hq, hqt.onex, ← hs, List.length_map, wrapS hlt hb.1, evW, evR, Nat.reduceAdd, Nat.reduceLT, Nat.reduceLeDiff, reduceIte, Nat.reduceEqDiff, reduceCtorEq, argEnv, eq_self, if_true, if_false, *]) | (rw [condK_bool]; split <;> simp only [c26_l0, hE, hi, hp, hat.aggx (n := 2) rfl, hat.fldx, hat.faddr, hq, hqt.onex, ← hs, List.length_map, wrapS hlt hb.1, evW, evR, Nat.reduceAdd, Nat.reduceLT, Nat.reduceLeDiff, reduceIte, Nat.reduceEqDiff, reduceCtorEq, argEnv, eq_self, if_true, if_false, *]) | (rw [guardD_cases]; split <;> simp only [c26_l0, hE, hi, hp, hat.aggx (n := 2) rfl, hat.fldx, hat.faddr, hq, hqt.onex, ← hs, List.length_map, wrapS hlt hb.1, evW, evR, Nat.reduceAdd, Nat.reduceLT, Nat.reduceLeDiff, reduceIte, Nat.reduceEqDiff, reduceCtorEq, argEnv, eq_self, if_true, if_false, *]))
      exact Sc.next rfl (by rfl))
    (fun E G hE => by
      simp only [c26_l0, hE, Int.lt_irrefl, List.length_map, List.take_length, evW, fn_eq, evR, Nat.reduceAdd, Nat.reduceLT, Nat.reduceLeDiff, reduceIte, Nat.reduceEqDiff, reduceCtorEq, argEnv, eq_self, if_true, if_false]
      repeat' (first | (rw [guardK_cases]; split <;> simp only [c26_l0, hE, Int.lt_irrefl, List.length_map, List.take_length, evW, evR, Nat.reduceAdd, Nat.reduceLT, Nat.reduceLeDiff, reduceIte, Nat.reduceEqDiff, reduceCtorEq, argEnv, eq_self, if_true, if_false, *]) | (rw [condK_bool]; split <;> simp only [c26_l0, hE, Int.lt_irrefl, List.length_map, List.take_length, evW, evR, Nat.reduceAdd, Nat.reduceLT, Nat.reduceLeDiff, reduceIte, Nat.reduceEqDiff, reduceCtorEq, argEnv, eq_self, if_true, if_false, *]) | (rw [guardD_cases]; split <;> simp only [c26_l0, hE, Int.lt_irrefl, List.length_map, List.take_length, evW, evR, Nat.reduceAdd, Nat.reduceLT, Nat.reduceLeDiff, reduceIte, Nat.reduceEqDiff, reduceCtorEq, argEnv, eq_self, if_true, if_false, *]))
      exact .exit (K := [_]) ⟨rfl, by rfl⟩) st G hE hH z hz with ⟨_, h⟩ | ⟨h, _⟩
  · exact h
  · rw [List.all_eq_false] at h
    obtain ⟨_, _, h⟩ := h
    exact absurd rfl h
theorem f26 (F : Int) (rows : List Row) (hl : rows.length < 9223372036854775807) (hvl : ∀ r ∈ rows, r.2.length < 9223372036854775807) (x : Int) (H : Heap) :
    cal (evC cprog) false 26 [.agg [.int .i64 F, .lst (rows.map rRow)], .int .i64 x] H = some (.tup [.int .i64 (totals F rows x).1, .int .i64 (totals F rows x).2], H) := by
  have h17 := fun X => f17 F rows hl hvl _ (H ++ X) (.lst _ rows)
  rw [cal_of at26]
  by_cases hv : valid (F, rows) = true
  · simp only [hv] at h17
    by_cases h1 : x < 0
    · have ht : totals F rows x = (0, 2) := by simp [totals, hv, h1]
      rw [ht]
      simp only [c26, h17, h1, evW, fn_eq, evR, Nat.reduceAdd, Nat.reduceLT, Nat.reduceLeDiff, reduceIte, Nat.reduceEqDiff, reduceCtorEq, argEnv, eq_self, if_true, if_false]
      repeat' (first | (rw [guardK_cases]; split <;> simp only [c26, h17, h1, evW, evR, Nat.reduceAdd, Nat.reduceLT, Nat.reduceLeDiff, reduceIte, Nat.reduceEqDiff, reduceCtorEq, argEnv, eq_self, if_true, if_false, *]) | (rw [condK_bool]; split <;> simp only [c26, h17, h1, evW, evR, Nat.reduceAdd, Nat.reduceLT, Nat.reduceLeDiff, reduceIte, Nat.reduceEqDiff, reduceCtorEq, argEnv, eq_self, if_true, if_false, *]) | (rw [guardD_cases]; split <;> simp only [c26, h17, h1, evW, evR, Nat.reduceAdd, Nat.reduceLT, Nat.reduceLeDiff, reduceIte, Nat.reduceEqDiff, reduceCtorEq, argEnv, eq_self, if_true, if_false, *]))
    by_cases h2 : F ≤ x
    · have ht : totals F rows x = (0, 2) := by simp [totals, hv, h2]
      rw [ht]
      simp only [c26, h17, h1, h2, evW, fn_eq, evR, Nat.reduceAdd, Nat.reduceLT, Nat.reduceLeDiff, reduceIte, Nat.reduceEqDiff, reduceCtorEq, argEnv, eq_self, if_true, if_false]
      repeat' (first | (rw [guardK_cases]; split <;> simp only [c26, h17, h1, h2, evW, evR, Nat.reduceAdd, Nat.reduceLT, Nat.reduceLeDiff, reduceIte, Nat.reduceEqDiff, reduceCtorEq, argEnv, eq_self, if_true, if_false, *]) | (rw [condK_bool]; split <;> simp only [c26, h17, h1, h2, evW, evR, Nat.reduceAdd, Nat.reduceLT, Nat.reduceLeDiff, reduceIte, Nat.reduceEqDiff, reduceCtorEq, argEnv, eq_self, if_true, if_false, *]) | (rw [guardD_cases]; split <;> simp only [c26, h17, h1, h2, evW, evR, Nat.reduceAdd, Nat.reduceLT, Nat.reduceLeDiff, reduceIte, Nat.reduceEqDiff, reduceCtorEq, argEnv, eq_self, if_true, if_false, *]))
    · have ht : totals F rows x = (tot x.toNat rows, 0) := by simp [totals, hv, h1, h2]
      obtain ⟨f, rfl⟩ : ∃ f : Nat, x = f := ⟨x.toNat, by omega⟩
      have hlp := l26 hv f (by omega) H []
      rw [ht]
      simp only [c26, h17, h1, h2, List.length_map, evW, fn_eq, evR, Nat.reduceAdd, Nat.reduceLT, Nat.reduceLeDiff, reduceIte, Nat.reduceEqDiff, reduceCtorEq, argEnv, eq_self, if_true, if_false]
      repeat' (first | (rw [guardK_cases]; split <;> simp only [c26, h17, h1, h2, List.length_map, evW, evR, Nat.reduceAdd, Nat.reduceLT, Nat.reduceLeDiff, reduceIte, Nat.reduceEqDiff, reduceCtorEq, argEnv, eq_self, if_true, if_false, *]) | (rw [condK_bool]; split <;> simp only [c26, h17, h1, h2, List.length_map, evW, evR, Nat.reduceAdd, Nat.reduceLT, Nat.reduceLeDiff, reduceIte, Nat.reduceEqDiff, reduceCtorEq, argEnv, eq_self, if_true, if_false, *]) | (rw [guardD_cases]; split <;> simp only [c26, h17, h1, h2, List.length_map, evW, evR, Nat.reduceAdd, Nat.reduceLT, Nat.reduceLeDiff, reduceIte, Nat.reduceEqDiff, reduceCtorEq, argEnv, eq_self, if_true, if_false, *]))
      generalize hz : itLim _ _ = z
      obtain ⟨x, T, G, rfl, _, rfl, hT⟩ := hlp _ (by rfl) (by simp) z hz
      simp only [hT, Int.toNat_natCast, evW, fn_eq, evR, Nat.reduceAdd, Nat.reduceLT, Nat.reduceLeDiff, reduceIte, Nat.reduceEqDiff, reduceCtorEq, argEnv, eq_self, if_true, if_false]
      repeat' (first | (rw [guardK_cases]; split <;> simp only [hT, Int.toNat_natCast, evW, evR, Nat.reduceAdd, Nat.reduceLT, Nat.reduceLeDiff, reduceIte, Nat.reduceEqDiff, reduceCtorEq, argEnv, eq_self, if_true, if_false, *]) | (rw [condK_bool]; split <;> simp only [hT, Int.toNat_natCast, evW, evR, Nat.reduceAdd, Nat.reduceLT, Nat.reduceLeDiff, reduceIte, Nat.reduceEqDiff, reduceCtorEq, argEnv, eq_self, if_true, if_false, *]) | (rw [guardD_cases]; split <;> simp only [hT, Int.toNat_natCast, evW, evR, Nat.reduceAdd, Nat.reduceLT, Nat.reduceLeDiff, reduceIte, Nat.reduceEqDiff, reduceCtorEq, argEnv, eq_self, if_true, if_false, *]))
  · have hv' : valid (F, rows) = false := by simpa using hv
    have ht : totals F rows x = (0, 210) := by simp [totals, hv']
    simp only [hv'] at h17
    rw [ht]
    simp only [c26, h17, evW, fn_eq, evR, Nat.reduceAdd, Nat.reduceLT, Nat.reduceLeDiff, reduceIte, Nat.reduceEqDiff, reduceCtorEq, argEnv, eq_self, if_true, if_false]
    repeat' (first | (rw [guardK_cases]; split <;> simp only [c26, h17, evW, evR, Nat.reduceAdd, Nat.reduceLT, Nat.reduceLeDiff, reduceIte, Nat.reduceEqDiff, reduceCtorEq, argEnv, eq_self, if_true, if_false, *]) | (rw [condK_bool]; split <;> simp only [c26, h17, evW, evR, Nat.reduceAdd, Nat.reduceLT, Nat.reduceLeDiff, reduceIte, Nat.reduceEqDiff, reduceCtorEq, argEnv, eq_self, if_true, if_false, *]) | (rw [guardD_cases]; split <;> simp only [c26, h17, evW, evR, Nat.reduceAdd, Nat.reduceLT, Nat.reduceLeDiff, reduceIte, Nat.reduceEqDiff, reduceCtorEq, argEnv, eq_self, if_true, if_false, *]))
theorem lBools (H : Heap) (bs : List Bool) : SlAt H 1 (.lst (bs.map rBool)) (bs.map rBool) := .lst fun r hr => by obtain ⟨b, _, rfl⟩ := List.mem_map.1 hr; rfl
theorem f27 (bs : List Bool) (hb : bs.length < 9223372036854775807) (H : Heap) : cal (evC cprog) false 27 [.lst (bs.map rBool), .lst (bs.map rBool)] H = some (.bool true, H) := by
  rw [cal_of at27]
  have h1 := (lBools H bs).len
  simp only [List.length_map] at h1
  simp only [c27, List.length_map, evW, fn_eq, evR, Nat.reduceAdd, Nat.reduceLT, Nat.reduceLeDiff, reduceIte, Nat.reduceEqDiff, reduceCtorEq, argEnv, eq_self, if_true, if_false]
  repeat' (first | (rw [guardK_cases]; split <;> simp only [c27, List.length_map, evW, evR, Nat.reduceAdd, Nat.reduceLT, Nat.reduceLeDiff, reduceIte, Nat.reduceEqDiff, reduceCtorEq, argEnv, eq_self, if_true, if_false, *]) | (rw [condK_bool]; split <;> simp only [c27, List.length_map, evW, evR, Nat.reduceAdd, Nat.reduceLT, Nat.reduceLeDiff, reduceIte, Nat.reduceEqDiff, reduceCtorEq, argEnv, eq_self, if_true, if_false, *]) | (rw [guardD_cases]; split <;> simp only [c27, List.length_map, evW, evR, Nat.reduceAdd, Nat.reduceLT, Nat.reduceLeDiff, reduceIte, Nat.reduceEqDiff, reduceCtorEq, argEnv, eq_self, if_true, if_false, *]))
  generalize hz : itLim _ _ = z
  rcases all_rule bs (fun _ => true) [0, 1, 5] (fun i => [(0, .lst (bs.map rBool)), (1, .lst (bs.map rBool)), (5, .int .i64 (i : Int))]) H [] (evCode (evC cprog) itLim c27_l0) (fun x T => x = .exit 0) (fun _ _ => False)
    (fun i b hx E G hE => by
      have hlt : i < bs.length := (List.getElem?_eq_some_iff.1 hx).1
      have hi : (i : Int) < (bs.length : Int) := by omega
      obtain ⟨_, p, hp, hat⟩ := (lBools H bs).get i (rBool b) (by rw [List.getElem?_map, hx]; rfl)
      have hbb : (b == b) = true := by cases b <;> rfl
      simp only [c27_l0, hE, hi, hp, hat.onex, List.length_map, hbb, wrapS hlt hb, evW, fn_eq, evR, Nat.reduceAdd, Nat.reduceLT, Nat.reduceLeDiff, reduceIte, Nat.reduceEqDiff, reduceCtorEq, argEnv, eq_self, if_true, if_false]
      repeat' (first | (rw [guardK_cases]; split <;> simp only [c27_l0, hE, hi, hp, hat.onex, List.length_map, hbb, wrapS hlt hb, evW, evR, Nat.reduceAdd, Nat.reduceLT, Nat.reduceLeDiff, reduceIte, Nat.reduceEqDiff, reduceCtorEq, argEnv, eq_self, if_true, if_false, *]) | (rw [condK_bool]; split <;> simp only [c27_l0, hE, hi, hp, hat.onex, List.length_map, hbb, wrapS hlt hb, evW, evR, Nat.reduceAdd, Nat.reduceLT, Nat.reduceLeDiff, reduceIte, Nat.reduceEqDiff, reduceCtorEq, argEnv, eq_self, if_true, if_false, *]) | (rw [guardD_cases]; split <;> simp only [c27_l0, hE, hi, hp, hat.onex, List.length_map, hbb, wrapS hlt hb, evW, evR, Nat.reduceAdd, Nat.reduceLT, Nat.reduceLeDiff, reduceIte, Nat.reduceEqDiff, reduceCtorEq, argEnv, eq_self, if_true, if_false, *]))
      exact Sc.next (K := []) rfl (by rfl))
    (fun E G hE => by
      simp only [c27_l0, hE, Int.lt_irrefl, List.length_map, evW, fn_eq, evR, Nat.reduceAdd, Nat.reduceLT, Nat.reduceLeDiff, reduceIte, Nat.reduceEqDiff, reduceCtorEq, argEnv, eq_self, if_true, if_false]
      repeat' (first | (rw [guardK_cases]; split <;> simp only [c27_l0, hE, Int.lt_irrefl, List.length_map, evW, evR, Nat.reduceAdd, Nat.reduceLT, Nat.reduceLeDiff, reduceIte, Nat.reduceEqDiff, reduceCtorEq, argEnv, eq_self, if_true, if_false, *]) | (rw [condK_bool]; split <;> simp only [c27_l0, hE, Int.lt_irrefl, List.length_map, evW, evR, Nat.reduceAdd, Nat.reduceLT, Nat.reduceLeDiff, reduceIte, Nat.reduceEqDiff, reduceCtorEq, argEnv, eq_self, if_true, if_false, *]) | (rw [guardD_cases]; split <;> simp only [c27_l0, hE, Int.lt_irrefl, List.length_map, evW, evR, Nat.reduceAdd, Nat.reduceLT, Nat.reduceLeDiff, reduceIte, Nat.reduceEqDiff, reduceCtorEq, argEnv, eq_self, if_true, if_false, *]))
      exact .exit (K := []) rfl) _ [] (by rfl) (by simp) z hz with ⟨_, x, T, G, rfl, _, rfl⟩ | ⟨h, _⟩
  · simp only [evW, fn_eq, evR, Nat.reduceAdd, Nat.reduceLT, Nat.reduceLeDiff, reduceIte, Nat.reduceEqDiff, reduceCtorEq, argEnv, eq_self, if_true, if_false]
    repeat' (first | (rw [guardK_cases]; split <;> simp only [evW, evR, Nat.reduceAdd, Nat.reduceLT, Nat.reduceLeDiff, reduceIte, Nat.reduceEqDiff, reduceCtorEq, argEnv, eq_self, if_true, if_false, *]) | (rw [condK_bool]; split <;> simp only [evW, evR, Nat.reduceAdd, Nat.reduceLT, Nat.reduceLeDiff, reduceIte, Nat.reduceEqDiff, reduceCtorEq, argEnv, eq_self, if_true, if_false, *]) | (rw [guardD_cases]; split <;> simp only [evW, evR, Nat.reduceAdd, Nat.reduceLT, Nat.reduceLeDiff, reduceIte, Nat.reduceEqDiff, reduceCtorEq, argEnv, eq_self, if_true, if_false, *]))
  · rw [List.all_eq_false] at h
    obtain ⟨_, _, h⟩ := h
    exact absurd rfl h
end Go.Proofs.Ytehcdcnghcbimaa.Code
