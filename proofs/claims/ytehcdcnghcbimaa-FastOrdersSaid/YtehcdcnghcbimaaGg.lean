/- Totals; lists of bools. -/
import Derived.Test.YtehcdcnghcbimaaGf
set_option linter.unusedSimpArgs false
set_option linter.unusedVariables false
namespace Go.Proofs.Ytehcdcnghcbimaa.Code
open Go.Proofs.Ytehcdcnghcbimaa.Ev

/-- the sum of a field over rows, as it is reckoned -/
def tot (f : Nat) (rows : List Row) : Int := rows.foldl (fun s r => IntKind.i64.wrap (s + (r.2[f]?).getD 0)) 0
theorem tot_take (f : Nat) (rows : List Row) {i : Nat} {r : Row} (hr : rows[i]? = some r) : tot f (rows.take (i + 1)) = IntKind.i64.wrap (tot f (rows.take i) + (r.2[f]?).getD 0) := by
  unfold tot
  rw [List.take_add_one, hr, List.foldl_append]
  rfl
/-- what Total answers -/
noncomputable def totals (F : Int) (rows : List Row) (x : Int) : Int × Int := if valid (F, rows) = true then (if x < 0 ∨ F ≤ x then (0, 2) else (tot x.toNat rows, 0)) else (0, 210)
theorem l25 {F : Int} {rows : List Row} (hv : valid (F, rows) = true) (f : Nat) (hf : (f : Int) < F) (P2 : AV) (H K G : Heap) (st : St)
    (hE : keepEnv st.1 [1, 6, 23, 24, 25] = [(1, .int .i64 (f : Int)), (6, .int .i64 0), (23, .lst (rows.map rRow)), (24, .int .i64 (rows.length : Int)), (25, .int .i64 0)]) (hH : st.2 = H ++ (K ++ G)) (z : Option (CX × St)) (hz : itLim (evCode (evC cprog) itLim c25_l0) st = z) :
    Lv H K (fun x T => x = .exit 1 ∧ get T 6 = some (.int .i64 (tot f rows))) z := by
  have hb := valid_bounds hv
  have hr := RowsAt.lst [] rows
  rcases all_rule rows (fun _ => true) [1, 6, 23, 24, 25] (fun i => [(1, .int .i64 (f : Int)), (6, .int .i64 (tot f (rows.take i))), (23, .lst (rows.map rRow)), (24, .int .i64 (rows.length : Int)), (25, .int .i64 (i : Int))]) H K (evCode (evC cprog) itLim c25_l0) (fun x T => x = .exit 1 ∧ get T 6 = some (.int .i64 (tot f rows))) (fun _ _ => False)
    (fun i r hx E G hE => by
      have hlt : i < rows.length := (List.getElem?_eq_some_iff.1 hx).1
      have hi : (i : Int) < (rows.length : Int) := by omega
      obtain ⟨v, p, hv', hp, hat⟩ := (RowsAt.lst H rows).get hx
      have hfl : f < r.2.length := by have := (valid_good hv r (List.mem_of_getElem? hx)).1; omega
      obtain ⟨n, hn⟩ : ∃ n, r.2[f]? = some n := ⟨_, List.getElem?_eq_getElem hfl⟩
      obtain ⟨_, q, hq, hqt⟩ := hv'.get f [.int .i64 n] (by rw [List.getElem?_map, hn]; rfl)
      have hs := tot_take f rows hx
      rw [hn] at hs
      simp only [Option.getD_some] at hs
      simp only [c25_l0, hE, hi, hp, hat.aggx (n := 2) rfl, hat.fldx, hat.faddr, hq, hqt.onex, ← hs, wrapS hlt hb.1, evW, fn_eq, evR, Nat.reduceAdd, Nat.reduceLT, Nat.reduceLeDiff, reduceIte, Nat.reduceEqDiff, reduceCtorEq, argEnv, eq_self, if_true, if_false]
      repeat' (first | (rw [guardK_cases]; split <;> simp only [c25_l0, hE, hi, hp, hat.aggx (n := 2) rfl, hat.fldx, hat.faddr, hq, hqt.onex, ← hs, wrapS hlt hb.1, evW, evR, Nat.reduceAdd, Nat.reduceLT, Nat.reduceLeDiff, reduceIte, Nat.reduceEqDiff, reduceCtorEq, argEnv, eq_self, if_true, if_false, *]) | (rw [condK_bool]; split <;> simp only [c25_l0, hE, hi, hp, hat.aggx (n := 2) rfl, hat.fldx, hat.faddr, hq, hqt.onex, ← hs, wrapS hlt hb.1, evW, evR, Nat.reduceAdd, Nat.reduceLT, Nat.reduceLeDiff, reduceIte, Nat.reduceEqDiff, reduceCtorEq, argEnv, eq_self, if_true, if_false, *]) | (rw [guardD_cases]; split <;> simp only [c25_l0, hE, hi, hp, hat.aggx (n := 2) rfl, hat.fldx, hat.faddr, hq, hqt.onex, ← hs, wrapS hlt hb.1, evW, evR, Nat.reduceAdd, Nat.reduceLT, Nat.reduceLeDiff, reduceIte, Nat.reduceEqDiff, reduceCtorEq, argEnv, eq_self, if_true, if_false, *]))
      exact Sc.next rfl (by rfl))
    (fun E G hE => by
      simp only [c25_l0, hE, Int.lt_irrefl, List.take_length, evW, fn_eq, evR, Nat.reduceAdd, Nat.reduceLT, Nat.reduceLeDiff, reduceIte, Nat.reduceEqDiff, reduceCtorEq, argEnv, eq_self, if_true, if_false]
      repeat' (first | (rw [guardK_cases]; split <;> simp only [c25_l0, hE, Int.lt_irrefl, List.take_length, evW, evR, Nat.reduceAdd, Nat.reduceLT, Nat.reduceLeDiff, reduceIte, Nat.reduceEqDiff, reduceCtorEq, argEnv, eq_self, if_true, if_false, *]) | (rw [condK_bool]; split <;> simp only [c25_l0, hE, Int.lt_irrefl, List.take_length, evW, evR, Nat.reduceAdd, Nat.reduceLT, Nat.reduceLeDiff, reduceIte, Nat.reduceEqDiff, reduceCtorEq, argEnv, eq_self, if_true, if_false, *]) | (rw [guardD_cases]; split <;> simp only [c25_l0, hE, Int.lt_irrefl, List.take_length, evW, evR, Nat.reduceAdd, Nat.reduceLT, Nat.reduceLeDiff, reduceIte, Nat.reduceEqDiff, reduceCtorEq, argEnv, eq_self, if_true, if_false, *]))
      exact .exit ⟨rfl, by rfl⟩) st G hE hH z hz with ⟨_, h⟩ | ⟨h, _⟩
  · exact h
  · rw [List.all_eq_false] at h
    obtain ⟨_, _, h⟩ := h
    exact absurd rfl h
theorem f25 (F : Int) (rows : List Row) (hl : rows.length < 9223372036854775807) (hvl : ∀ r ∈ rows, r.2.length < 9223372036854775807) (x : Int) (H : Heap) :
    cal (evC cprog) false 25 [.agg [.int .i64 F, .lst (rows.map rRow)], .int .i64 x] H = some (.tup [.int .i64 (totals F rows x).1, .int .i64 (totals F rows x).2], H) := by
  have h16 := fun X => f16 F rows hl hvl _ (H ++ X) (.lst _ rows)
  rw [cal_of at25]
  by_cases hv : valid (F, rows) = true
  · simp only [hv] at h16
    by_cases h1 : x < 0
    · have ht : totals F rows x = (0, 2) := by simp [totals, hv, h1]
      rw [ht]
      simp only [c25, h16, h1, evW, fn_eq, evR, Nat.reduceAdd, Nat.reduceLT, Nat.reduceLeDiff, reduceIte, Nat.reduceEqDiff, reduceCtorEq, argEnv, eq_self, if_true, if_false]
      repeat' (first | (rw [guardK_cases]; split <;> simp only [c25, h16, h1, evW, evR, Nat.reduceAdd, Nat.reduceLT, Nat.reduceLeDiff, reduceIte, Nat.reduceEqDiff, reduceCtorEq, argEnv, eq_self, if_true, if_false, *]) | (rw [condK_bool]; split <;> simp only [c25, h16, h1, evW, evR, Nat.reduceAdd, Nat.reduceLT, Nat.reduceLeDiff, reduceIte, Nat.reduceEqDiff, reduceCtorEq, argEnv, eq_self, if_true, if_false, *]) | (rw [guardD_cases]; split <;> simp only [c25, h16, h1, evW, evR, Nat.reduceAdd, Nat.reduceLT, Nat.reduceLeDiff, reduceIte, Nat.reduceEqDiff, reduceCtorEq, argEnv, eq_self, if_true, if_false, *]))
    by_cases h2 : F ≤ x
    · have ht : totals F rows x = (0, 2) := by simp [totals, hv, h2]
      rw [ht]
      simp only [c25, h16, h1, h2, evW, fn_eq, evR, Nat.reduceAdd, Nat.reduceLT, Nat.reduceLeDiff, reduceIte, Nat.reduceEqDiff, reduceCtorEq, argEnv, eq_self, if_true, if_false]
      repeat' (first | (rw [guardK_cases]; split <;> simp only [c25, h16, h1, h2, evW, evR, Nat.reduceAdd, Nat.reduceLT, Nat.reduceLeDiff, reduceIte, Nat.reduceEqDiff, reduceCtorEq, argEnv, eq_self, if_true, if_false, *]) | (rw [condK_bool]; split <;> simp only [c25, h16, h1, h2, evW, evR, Nat.reduceAdd, Nat.reduceLT, Nat.reduceLeDiff, reduceIte, Nat.reduceEqDiff, reduceCtorEq, argEnv, eq_self, if_true, if_false, *]) | (rw [guardD_cases]; split <;> simp only [c25, h16, h1, h2, evW, evR, Nat.reduceAdd, Nat.reduceLT, Nat.reduceLeDiff, reduceIte, Nat.reduceEqDiff, reduceCtorEq, argEnv, eq_self, if_true, if_false, *]))
    · have ht : totals F rows x = (tot x.toNat rows, 0) := by simp [totals, hv, h1, h2]
      obtain ⟨f, rfl⟩ : ∃ f : Nat, x = f := ⟨x.toNat, by omega⟩
      have hlp := l25 hv f (by omega) (.ptr H.length 0 2 0 0) H [⟨0, true, 24, 2, [[.int .i64 F, .lst (rows.map rRow)]]⟩] []
      rw [ht]
      simp only [c25, h16, h1, h2, List.length_map, evW, fn_eq, evR, Nat.reduceAdd, Nat.reduceLT, Nat.reduceLeDiff, reduceIte, Nat.reduceEqDiff, reduceCtorEq, argEnv, eq_self, if_true, if_false]
      repeat' (first | (rw [guardK_cases]; split <;> simp only [c25, h16, h1, h2, List.length_map, evW, evR, Nat.reduceAdd, Nat.reduceLT, Nat.reduceLeDiff, reduceIte, Nat.reduceEqDiff, reduceCtorEq, argEnv, eq_self, if_true, if_false, *]) | (rw [condK_bool]; split <;> simp only [c25, h16, h1, h2, List.length_map, evW, evR, Nat.reduceAdd, Nat.reduceLT, Nat.reduceLeDiff, reduceIte, Nat.reduceEqDiff, reduceCtorEq, argEnv, eq_self, if_true, if_false, *]) | (rw [guardD_cases]; split <;> simp only [c25, h16, h1, h2, List.length_map, evW, evR, Nat.reduceAdd, Nat.reduceLT, Nat.reduceLeDiff, reduceIte, Nat.reduceEqDiff, reduceCtorEq, argEnv, eq_self, if_true, if_false, *]))
      generalize hz : itLim _ _ = z
      obtain ⟨x, T, G, rfl, _, rfl, hT⟩ := hlp _ (by rfl) (by simp) z hz
      simp only [hT, Int.toNat_natCast, evW, fn_eq, evR, Nat.reduceAdd, Nat.reduceLT, Nat.reduceLeDiff, reduceIte, Nat.reduceEqDiff, reduceCtorEq, argEnv, eq_self, if_true, if_false]
      repeat' (first | (rw [guardK_cases]; split <;> simp only [hT, Int.toNat_natCast, evW, evR, Nat.reduceAdd, Nat.reduceLT, Nat.reduceLeDiff, reduceIte, Nat.reduceEqDiff, reduceCtorEq, argEnv, eq_self, if_true, if_false, *]) | (rw [condK_bool]; split <;> simp only [hT, Int.toNat_natCast, evW, evR, Nat.reduceAdd, Nat.reduceLT, Nat.reduceLeDiff, reduceIte, Nat.reduceEqDiff, reduceCtorEq, argEnv, eq_self, if_true, if_false, *]) | (rw [guardD_cases]; split <;> simp only [hT, Int.toNat_natCast, evW, evR, Nat.reduceAdd, Nat.reduceLT, Nat.reduceLeDiff, reduceIte, Nat.reduceEqDiff, reduceCtorEq, argEnv, eq_self, if_true, if_false, *]))
  · have hv' : valid (F, rows) = false := by simpa using hv
    have ht : totals F rows x = (0, 210) := by simp [totals, hv']
    simp only [hv'] at h16
    rw [ht]
    simp only [c25, h16, evW, fn_eq, evR, Nat.reduceAdd, Nat.reduceLT, Nat.reduceLeDiff, reduceIte, Nat.reduceEqDiff, reduceCtorEq, argEnv, eq_self, if_true, if_false]
    repeat' (first | (rw [guardK_cases]; split <;> simp only [c25, h16, evW, evR, Nat.reduceAdd, Nat.reduceLT, Nat.reduceLeDiff, reduceIte, Nat.reduceEqDiff, reduceCtorEq, argEnv, eq_self, if_true, if_false, *]) | (rw [condK_bool]; split <;> simp only [c25, h16, evW, evR, Nat.reduceAdd, Nat.reduceLT, Nat.reduceLeDiff, reduceIte, Nat.reduceEqDiff, reduceCtorEq, argEnv, eq_self, if_true, if_false, *]) | (rw [guardD_cases]; split <;> simp only [c25, h16, evW, evR, Nat.reduceAdd, Nat.reduceLT, Nat.reduceLeDiff, reduceIte, Nat.reduceEqDiff, reduceCtorEq, argEnv, eq_self, if_true, if_false, *]))
end Go.Proofs.Ytehcdcnghcbimaa.Code
