/- Texts of ours, joined into one file; each begins with its own remark. -/
import Derived.Test.YtehcdcnghcbimaaU1
/- The document's Order, whole; totals. -/
set_option linter.unusedSimpArgs false
set_option linter.unusedVariables false
namespace Go.Proofs.Ytehcdcnghcbimaa.Code
open Go.Proofs.Ytehcdcnghcbimaa.Ev

theorem valid_bounds {F : Int} {rows : List Row} (h : valid (F, rows) = true) : rows.length < 9223372036854775807 ∧ ∀ r ∈ rows, r.2.length < 9223372036854775807 := by
  have h1 := (valid_iff.1 h).1
  exact ⟨by omega, fun r hr => by have := (valid_good h r hr).1; omega⟩
theorem l24 {F : Int} (uv : AV) (H : Heap) (n : Nat) (hn : n = H.length) (us : List (List Fld)) (hs : SlAt H 1 uv (us.map rUnit)) (hu : ∀ l ∈ us, l.length < 9223372036854775807 ∧ isUnit l = true) (hul : us.length ≤ 1000000) (P4 : AV) (rows : List Row) (hR : valid (F, rows) = true)
    (st : St) (hE : keepEnv st.1 [1, 4, 8, 9, 10] = [(1, uv), (4, P4), (8, .ptr n 0 2 0 0), (9, .nils), (10, .int .i64 0)])
    (hH : st.2 = H ++ [⟨0, true, 24, 2, [[.int .i64 F, .lst (rows.map rRow)]]⟩]) (z : Option (CX × St)) (hz : itLim (evCode (evC cprog) itLim c24_l1) st = z) :
    ∃ T X sv, z = some (.exit 2, T, H ++ (⟨0, true, 24, 2, [[.int .i64 F, .lst ((ordered F rows us).1.map rRow)]]⟩ :: X)) ∧ keepEnv T [4, 8, 9] = [(4, P4), (8, .ptr n 0 2 0 0), (9, sv)] ∧
      Out (n + 1) 1 4 X sv ((ordered F rows us).2.map rBool) := by
  subst hn
  have hlen := hs.len
  simp only [List.length_map] at hlen
  have L := loop_rule (σ := Nat × List Row × List Bool × Heap × AV) (m := [1, 4, 8, 9, 10]) (env := fun i => [(1, uv), (4, P4), (8, .ptr H.length 0 2 0 0), (9, i.2.2.2.2), (10, .int .i64 (i.1 : Int))])
    (hp := fun i => H ++ (⟨0, true, 24, 2, [[.int .i64 F, .lst (i.2.1.map rRow)]]⟩ :: i.2.2.2.1))
    (P := fun i r => ∃ T X sv, r = (.exit 2, T, H ++ (⟨0, true, 24, 2, [[.int .i64 F, .lst ((ordered F i.2.1 (us.drop i.1)).1.map rRow)]]⟩ :: X)) ∧ keepEnv T [4, 8, 9] = [(4, P4), (8, .ptr H.length 0 2 0 0), (9, sv)] ∧
      Out (H.length + 1) 1 4 X sv ((i.2.2.1 ++ (ordered F i.2.1 (us.drop i.1)).2).map rBool))
    (mu := fun i => us.length - i.1) (I := fun i => i.1 ≤ us.length ∧ valid (F, i.2.1) = true ∧ i.2.2.1.length = i.1 ∧ Out (H.length + 1) 1 4 i.2.2.2.1 i.2.2.2.2 (i.2.2.1.map rBool)) (evCode (evC cprog) itLim c24_l1) ?_ (0, rows, [], [], .nils) st ⟨Nat.zero_le _, hR, rfl, .nils ..⟩ hE hH z hz
  · obtain ⟨r, rfl, T, X, sv, rfl, h2, h3⟩ := L
    exact ⟨T, X, sv, rfl, h2, h3⟩
  · intro ⟨i, rows, bs, X, sv⟩ ⟨hi, hI, hbl, hO⟩ E hE
    simp only at hi hI hbl hO hE ⊢
    by_cases hlt : i < us.length
    · obtain ⟨l, hx⟩ : ∃ l, us[i]? = some l := ⟨_, List.getElem?_eq_getElem hlt⟩
      have hd : us.drop i = l :: us.drop (i + 1) := by
        rw [List.drop_eq_getElem_cons hlt]
        rw [List.getElem?_eq_getElem hlt] at hx
        cases hx; rfl
      have hi1 : (i : Int) < (us.length : Int) := by omega
      obtain ⟨hu1, hu2⟩ := hu l (List.mem_of_getElem? hx)
      obtain ⟨_, p, hp, hat⟩ := hs.get i (rUnit l) (by rw [List.getElem?_map, hx]; rfl)
      have h15 := fun H => f15 F rows (valid_bounds hI).1 (valid_bounds hI).2 l hu1 H
      have hap := fun B8 Y a => out_app (hO.more Y) 1 (H ++ [B8]) (by simp) a
      simp only [List.append_assoc, List.cons_append, List.nil_append] at hap
      have hbnd : (bs.map rBool).length + 1 ≤ reach := by simp only [List.length_map, reach]; omega
      have e : ordered F rows (us.drop i) = ((ordered F (if (runUnit F rows l).1 < 0 then (runUnit F rows l).2 else rows) (us.drop (i + 1))).1, decide ((runUnit F rows l).1 < 0) :: (ordered F (if (runUnit F rows l).1 < 0 then (runUnit F rows l).2 else rows) (us.drop (i + 1))).2) := by
        rw [hd]; rfl
      rw [syncs_of hI hu2] at h15
      by_cases hq : (runUnit F rows l).1 < 0
      · simp only [hq, if_true, decide_true] at e h15
        simp only [c24_l1, hE, hlen, hi1, hp, hat.onex, h15, cells_tab, isTup_tab, hap, src_ref, apO_cons, Nat.mul_one, hbnd, wrapS hlt (by omega : us.length < 9223372036854775807), evW, fn_eq, evR, Nat.reduceAdd, Nat.reduceLT, Nat.reduceLeDiff, reduceIte, Nat.reduceEqDiff, reduceCtorEq, argEnv, eq_self, if_true, if_false]
        repeat' (first | (rw [guardK_cases]; split <;> simp only [c24_l1, hE, hlen, hi1, hp, hat.onex, h15, cells_tab, isTup_tab, hap, src_ref, apO_cons, Nat.mul_one, hbnd, wrapS hlt (by omega : us.length < 9223372036854775807), evW, evR, Nat.reduceAdd, Nat.reduceLT, Nat.reduceLeDiff, reduceIte, Nat.reduceEqDiff, reduceCtorEq, argEnv, eq_self, if_true, if_false, *]) | (rw [condK_bool]; split <;> simp only [c24_l1, hE, hlen, hi1, hp, hat.onex, h15, cells_tab, isTup_tab, hap, src_ref, apO_cons, Nat.mul_one, hbnd, wrapS hlt (by omega : us.length < 9223372036854775807), evW, evR, Nat.reduceAdd, Nat.reduceLT, Nat.reduceLeDiff, reduceIte, Nat.reduceEqDiff, reduceCtorEq, argEnv, eq_self, if_true, if_false, *]) | (rw [guardD_cases]; split <;> simp only [c24_l1, hE, hlen, hi1, hp, hat.onex, h15, cells_tab, isTup_tab, hap, src_ref, apO_cons, Nat.mul_one, hbnd, wrapS hlt (by omega : us.length < 9223372036854775807), evW, evR, Nat.reduceAdd, Nat.reduceLT, Nat.reduceLeDiff, reduceIte, Nat.reduceEqDiff, reduceCtorEq, argEnv, eq_self, if_true, if_false, *]))
        exact q_next (i + 1, (runUnit F rows l).2, bs ++ [true], _, _) (by rfl) rfl ⟨by omega, valid_run hI l, by simp [hbl], by rw [List.map_append]; exact (hO.more _).step (by simp)⟩ (by simp only; omega) (fun r h => by simp only [e]; simpa using h)
      · simp only [hq, if_false, decide_false] at e h15
        have h212 : decide ((212 : Int) = 0) = false := by decide
        simp only [c24_l1, hE, hlen, hi1, hp, hat.onex, h15, h212, cells_tab, isTup_tab, hap, src_ref, apO_cons, Nat.mul_one, hbnd, wrapS hlt (by omega : us.length < 9223372036854775807), evW, fn_eq, evR, Nat.reduceAdd, Nat.reduceLT, Nat.reduceLeDiff, reduceIte, Nat.reduceEqDiff, reduceCtorEq, argEnv, eq_self, if_true, if_false]
        repeat' (first | (rw [guardK_cases]; split <;> simp only [c24_l1, hE, hlen, hi1, hp, hat.onex, h15, h212, cells_tab, isTup_tab, hap, src_ref, apO_cons, Nat.mul_one, hbnd, wrapS hlt (by omega : us.length < 9223372036854775807), evW, evR, Nat.reduceAdd, Nat.reduceLT, Nat.reduceLeDiff, reduceIte, Nat.reduceEqDiff, reduceCtorEq, argEnv, eq_self, if_true, if_false, *]) | (rw [condK_bool]; split <;> simp only [c24_l1, hE, hlen, hi1, hp, hat.onex, h15, h212, cells_tab, isTup_tab, hap, src_ref, apO_cons, Nat.mul_one, hbnd, wrapS hlt (by omega : us.length < 9223372036854775807), evW, evR, Nat.reduceAdd, Nat.reduceLT, Nat.reduceLeDiff, reduceIte, Nat.reduceEqDiff, reduceCtorEq, argEnv, eq_self, if_true, if_false, *]) | (rw [guardD_cases]; split <;> simp only [c24_l1, hE, hlen, hi1, hp, hat.onex, h15, h212, cells_tab, isTup_tab, hap, src_ref, apO_cons, Nat.mul_one, hbnd, wrapS hlt (by omega : us.length < 9223372036854775807), evW, evR, Nat.reduceAdd, Nat.reduceLT, Nat.reduceLeDiff, reduceIte, Nat.reduceEqDiff, reduceCtorEq, argEnv, eq_self, if_true, if_false, *]))
        exact q_next (i + 1, rows, bs ++ [false], _, _) (by rfl) rfl ⟨by omega, hI, by simp [hbl], by rw [List.map_append]; exact (hO.more _).step (by simp)⟩ (by simp only; omega) (fun r h => by simp only [e]; simpa using h)
    · have : i = us.length := by omega
      subst this
      simp only [c24_l1, hE, hlen, Int.lt_irrefl, evW, fn_eq, evR, Nat.reduceAdd, Nat.reduceLT, Nat.reduceLeDiff, reduceIte, Nat.reduceEqDiff, reduceCtorEq, argEnv, eq_self, if_true, if_false]
      repeat' (first | (rw [guardK_cases]; split <;> simp only [c24_l1, hE, hlen, Int.lt_irrefl, evW, evR, Nat.reduceAdd, Nat.reduceLT, Nat.reduceLeDiff, reduceIte, Nat.reduceEqDiff, reduceCtorEq, argEnv, eq_self, if_true, if_false, *]) | (rw [condK_bool]; split <;> simp only [c24_l1, hE, hlen, Int.lt_irrefl, evW, evR, Nat.reduceAdd, Nat.reduceLT, Nat.reduceLeDiff, reduceIte, Nat.reduceEqDiff, reduceCtorEq, argEnv, eq_self, if_true, if_false, *]) | (rw [guardD_cases]; split <;> simp only [c24_l1, hE, hlen, Int.lt_irrefl, evW, evR, Nat.reduceAdd, Nat.reduceLT, Nat.reduceLeDiff, reduceIte, Nat.reduceEqDiff, reduceCtorEq, argEnv, eq_self, if_true, if_false, *]))
      refine q_exit ?_
      simp only [List.drop_length, ordered, List.append_nil]
      exact ⟨_, X, sv, rfl, by rfl, hO⟩
theorem f24 (F : Int) (rows : List Row) (hl : rows.length < 9223372036854775807) (hvl : ∀ r ∈ rows, r.2.length < 9223372036854775807) (us : List (List Fld)) (uv : AV) (H : Heap) (hs : SlAt H 1 uv (us.map rUnit)) (hul : us.length < 9223372036854775807) (hu : ∀ l ∈ us, l.length < 9223372036854775807) :
    cal (evC cprog) true 24 [.agg [.int .i64 F, .lst (rows.map rRow)], uv] H = some (.tup [eTab (orders F rows us).1, .lst ((orders F rows us).2.1.map rBool), .int .i64 (orders F rows us).2.2], H) := by
  have h17 := fun H => f17 F rows hl hvl _ H (.lst H rows)
  have hlen := hs.len
  simp only [List.length_map] at hlen
  have hcalE : ∀ e Y, calK true H (some (.tup [.agg [.int .i64 0, .nils], .nils, .int .i64 e], H ++ (⟨0, true, 24, 2, [[.int .i64 F, .lst (rows.map rRow)]]⟩ :: ⟨0, true, 24, 2, [[.int .i64 0, .nils]]⟩ :: Y))) = some (.tup [eTab (0, []), .lst (([] : List Bool).map rBool), .int .i64 e], H) := fun e Y =>
    calF_order (Y := [_, _]) (X := Y) (rows := []) (n := H.length + 2) (sv := .nils) (bs := []) (fun _ => rfl) (.nils ..) rfl
  rw [cal_of at24]
  by_cases hv : valid (F, rows) = true
  · simp only [hv] at h17
    have hlp := l24_0 (.ptr H.length 0 2 0 0) (.ptr (H.length + 1) 0 2 0 0) us uv H [⟨0, true, 24, 2, [[.int .i64 F, .lst (rows.map rRow)]]⟩, ⟨0, true, 24, 2, [[.int .i64 0, .nils]]⟩] [] hs hul hu 1 rfl _ rfl rfl
    simp only [c24, h17, evW, fn_eq, evR, Nat.reduceAdd, Nat.reduceLT, Nat.reduceLeDiff, reduceIte, Nat.reduceEqDiff, reduceCtorEq, argEnv, eq_self, if_true, if_false]
    repeat' (first | (rw [guardK_cases]; split <;> simp only [c24, h17, evW, evR, Nat.reduceAdd, Nat.reduceLT, Nat.reduceLeDiff, reduceIte, Nat.reduceEqDiff, reduceCtorEq, argEnv, eq_self, if_true, if_false, *]) | (rw [condK_bool]; split <;> simp only [c24, h17, evW, evR, Nat.reduceAdd, Nat.reduceLT, Nat.reduceLeDiff, reduceIte, Nat.reduceEqDiff, reduceCtorEq, argEnv, eq_self, if_true, if_false, *]) | (rw [guardD_cases]; split <;> simp only [c24, h17, evW, evR, Nat.reduceAdd, Nat.reduceLT, Nat.reduceLeDiff, reduceIte, Nat.reduceEqDiff, reduceCtorEq, argEnv, eq_self, if_true, if_false, *]))
    generalize hz : itLim _ _ = z
    rcases hlp _ (by rfl) (by simp) z hz with ⟨ha, x, T, G, rfl, _, rfl, hT⟩ | ⟨ha, x, T, G, rfl, _, rfl, hT⟩
    · have hask : asked (F, rows) us = 0 := by simp [asked, hv]; exact fun x hx => List.all_eq_true.1 ha x hx
      by_cases hq : 20 < us.length
      · have ho : orders F rows us = ((0, []), [], 2) := by simp [orders, hask, hq]
        have hq' : 20 < (us.length : Int) := by omega
        rw [ho]
        simp only [hT, hlen, hq', evW, fn_eq, evR, Nat.reduceAdd, Nat.reduceLT, Nat.reduceLeDiff, reduceIte, Nat.reduceEqDiff, reduceCtorEq, argEnv, eq_self, if_true, if_false]
        repeat' (first | (rw [guardK_cases]; split <;> simp only [hT, hlen, hq', evW, evR, Nat.reduceAdd, Nat.reduceLT, Nat.reduceLeDiff, reduceIte, Nat.reduceEqDiff, reduceCtorEq, argEnv, eq_self, if_true, if_false, *]) | (rw [condK_bool]; split <;> simp only [hT, hlen, hq', evW, evR, Nat.reduceAdd, Nat.reduceLT, Nat.reduceLeDiff, reduceIte, Nat.reduceEqDiff, reduceCtorEq, argEnv, eq_self, if_true, if_false, *]) | (rw [guardD_cases]; split <;> simp only [hT, hlen, hq', evW, evR, Nat.reduceAdd, Nat.reduceLT, Nat.reduceLeDiff, reduceIte, Nat.reduceEqDiff, reduceCtorEq, argEnv, eq_self, if_true, if_false, *]))
        exact hcalE 2 G
      · have ho : orders F rows us = ((F, (ordered F rows us).1), (ordered F rows us).2, 0) := by simp [orders, hask, hq]
        have hq' : ¬ 20 < (us.length : Int) := by omega
        obtain ⟨hG, hv2, hl'⟩ := asked_good hask
        have h59 := fun H => f59F F rows hl' hv2 H
        rw [ho]
        simp only [hT, hlen, hq', h59, cells_tab, isTup_tab, evW, fn_eq, evR, Nat.reduceAdd, Nat.reduceLT, Nat.reduceLeDiff, reduceIte, Nat.reduceEqDiff, reduceCtorEq, argEnv, eq_self, if_true, if_false]
        repeat' (first | (rw [guardK_cases]; split <;> simp only [hT, hlen, hq', h59, cells_tab, isTup_tab, evW, evR, Nat.reduceAdd, Nat.reduceLT, Nat.reduceLeDiff, reduceIte, Nat.reduceEqDiff, reduceCtorEq, argEnv, eq_self, if_true, if_false, *]) | (rw [condK_bool]; split <;> simp only [hT, hlen, hq', h59, cells_tab, isTup_tab, evW, evR, Nat.reduceAdd, Nat.reduceLT, Nat.reduceLeDiff, reduceIte, Nat.reduceEqDiff, reduceCtorEq, argEnv, eq_self, if_true, if_false, *]) | (rw [guardD_cases]; split <;> simp only [hT, hlen, hq', h59, cells_tab, isTup_tab, evW, evR, Nat.reduceAdd, Nat.reduceLT, Nat.reduceLeDiff, reduceIte, Nat.reduceEqDiff, reduceCtorEq, argEnv, eq_self, if_true, if_false, *]))
        generalize hz : itLim _ _ = z
        obtain ⟨T', X, sv, rfl, hT', hO⟩ := l24 uv (H ++ ([⟨0, true, 24, 2, [[.int .i64 F, .lst (rows.map rRow)]]⟩, ⟨0, true, 24, 2, [[.int .i64 0, .nils]]⟩] ++ G)) (H.length + (G.length + 2)) (by simp) us (hs.app _) (fun l hl => ⟨hu l hl, List.all_eq_true.1 ha l hl⟩) (by omega) (.ptr (H.length + 1) 0 2 0 0) rows hv _ (by rfl) (by simp) z hz
        simp only [hT', out_tup hO, cells_tab, isTup_tab, evW, fn_eq, evR, Nat.reduceAdd, Nat.reduceLT, Nat.reduceLeDiff, reduceIte, Nat.reduceEqDiff, reduceCtorEq, argEnv, eq_self, if_true, if_false]
        repeat' (first | (rw [guardK_cases]; split <;> simp only [hT', out_tup hO, cells_tab, isTup_tab, evW, evR, Nat.reduceAdd, Nat.reduceLT, Nat.reduceLeDiff, reduceIte, Nat.reduceEqDiff, reduceCtorEq, argEnv, eq_self, if_true, if_false, *]) | (rw [condK_bool]; split <;> simp only [hT', out_tup hO, cells_tab, isTup_tab, evW, evR, Nat.reduceAdd, Nat.reduceLT, Nat.reduceLeDiff, reduceIte, Nat.reduceEqDiff, reduceCtorEq, argEnv, eq_self, if_true, if_false, *]) | (rw [guardD_cases]; split <;> simp only [hT', out_tup hO, cells_tab, isTup_tab, evW, evR, Nat.reduceAdd, Nat.reduceLT, Nat.reduceLeDiff, reduceIte, Nat.reduceEqDiff, reduceCtorEq, argEnv, eq_self, if_true, if_false, *]))
        have hc := calF_order (H := H) (Y := [⟨0, true, 24, 2, [[.int .i64 F, .lst (rows.map rRow)]]⟩, ⟨0, true, 24, 2, [[.int .i64 F, .lst ((ordered F rows us).1.map rRow)]]⟩] ++ G ++ [⟨0, true, 24, 2, [[.int .i64 F, .lst ((ordered F rows us).1.map rRow)]]⟩]) (X := X) (F := F) (e := 0) (rows := (ordered F rows us).1) (tv := .lst ((ordered F rows us).1.map rRow)) (fun _ => rfl) hO (by simp; omega)
        simp only [evR, Nat.reduceAdd, Nat.reduceLT, Nat.reduceLeDiff, reduceIte, Nat.reduceEqDiff, reduceCtorEq, argEnv, eq_self, if_true, if_false] at hc
        exact hc
    · have hask : asked (F, rows) us = 211 := by simp [asked, hv, ha]
      have ho : orders F rows us = ((0, []), [], 211) := by simp [orders, hask]
      rw [ho]
      simp only [hT.1, hT.2.1, hT.2.2, evW, fn_eq, evR, Nat.reduceAdd, Nat.reduceLT, Nat.reduceLeDiff, reduceIte, Nat.reduceEqDiff, reduceCtorEq, argEnv, eq_self, if_true, if_false]
      repeat' (first | (rw [guardK_cases]; split <;> simp only [hT.1, hT.2.1, hT.2.2, evW, evR, Nat.reduceAdd, Nat.reduceLT, Nat.reduceLeDiff, reduceIte, Nat.reduceEqDiff, reduceCtorEq, argEnv, eq_self, if_true, if_false, *]) | (rw [condK_bool]; split <;> simp only [hT.1, hT.2.1, hT.2.2, evW, evR, Nat.reduceAdd, Nat.reduceLT, Nat.reduceLeDiff, reduceIte, Nat.reduceEqDiff, reduceCtorEq, argEnv, eq_self, if_true, if_false, *]) | (rw [guardD_cases]; split <;> simp only [hT.1, hT.2.1, hT.2.2, evW, evR, Nat.reduceAdd, Nat.reduceLT, Nat.reduceLeDiff, reduceIte, Nat.reduceEqDiff, reduceCtorEq, argEnv, eq_self, if_true, if_false, *]))
      exact hcalE 211 G
  · have hv' : valid (F, rows) = false := by simpa using hv
    have ho : orders F rows us = ((0, []), [], 210) := by simp [orders, asked, hv']
    simp only [hv'] at h17
    rw [ho]
    simp only [c24, h17, evW, fn_eq, evR, Nat.reduceAdd, Nat.reduceLT, Nat.reduceLeDiff, reduceIte, Nat.reduceEqDiff, reduceCtorEq, argEnv, eq_self, if_true, if_false]
    repeat' (first | (rw [guardK_cases]; split <;> simp only [c24, h17, evW, evR, Nat.reduceAdd, Nat.reduceLT, Nat.reduceLeDiff, reduceIte, Nat.reduceEqDiff, reduceCtorEq, argEnv, eq_self, if_true, if_false, *]) | (rw [condK_bool]; split <;> simp only [c24, h17, evW, evR, Nat.reduceAdd, Nat.reduceLT, Nat.reduceLeDiff, reduceIte, Nat.reduceEqDiff, reduceCtorEq, argEnv, eq_self, if_true, if_false, *]) | (rw [guardD_cases]; split <;> simp only [c24, h17, evW, evR, Nat.reduceAdd, Nat.reduceLT, Nat.reduceLeDiff, reduceIte, Nat.reduceEqDiff, reduceCtorEq, argEnv, eq_self, if_true, if_false, *]))
    exact hcalE 210 []
end Go.Proofs.Ytehcdcnghcbimaa.Code

/- Totals; lists of bools. -/
set_option linter.unusedSimpArgs false
set_option linter.unusedVariables false
namespace Go.Proofs.Ytehcdcnghcbimaa.Code
open Go.Proofs.Ytehcdcnghcbimaa.Ev

/-- the sum of a field over rows, as it is reckoned -/
def tot (f : Nat) (rows : List Row) : Int := rows.foldl (fun s r => IntKind.i64.wrap (s + (r.2[f]?).getD 0)) 0
theorem tot_take (f : Nat) (rows : List Row) {i : Nat} {r : Row} (hr : rows[i]? = some r) : tot f (rows.take (i + 1)) = IntKind.i64.wrap (tot f (rows.take i) + (r.2[f]?).getD 0) := by
  unfold tot
  rw [List.take_add_one, hr, List.foldl_append]
  rfl
/-- what Total answers -/
noncomputable def totals (F : Int) (rows : List Row) (x : Int) : Int × Int := if valid (F, rows) = true then (if x < 0 ∨ F ≤ x then (0, 2) else (tot x.toNat rows, 0)) else (0, 210)
theorem l25 {F : Int} {rows : List Row} (hv : valid (F, rows) = true) (f : Nat) (hf : (f : Int) < F) (P2 : AV) (H K G : Heap) (st : St)
    (hE : keepEnv st.1 [1, 6, 23, 24, 25] = [(1, .int .i64 (f : Int)), (6, .int .i64 0), (23, .lst (rows.map rRow)), (24, .int .i64 (rows.length : Int)), (25, .int .i64 0)]) (hH : st.2 = H ++ (K ++ G)) (z : Option (CX × St)) (hz : itLim (evCode (evC cprog) itLim c25_l0) st = z) :
    Lv H K (fun x T => x = .exit 1 ∧ get T 6 = some (.int .i64 (tot f rows))) z := by
  have hb := valid_bounds hv
  have hr := RowsAt.lst [] rows
  rcases all_rule rows (fun _ => true) [1, 6, 23, 24, 25] (fun i => [(1, .int .i64 (f : Int)), (6, .int .i64 (tot f (rows.take i))), (23, .lst (rows.map rRow)), (24, .int .i64 (rows.length : Int)), (25, .int .i64 (i : Int))]) H K (evCode (evC cprog) itLim c25_l0) (fun x T => x = .exit 1 ∧ get T 6 = some (.int .i64 (tot f rows))) (fun _ _ => False)
    (fun i r hx E G hE => by
      have hlt : i < rows.length := (List.getElem?_eq_some_iff.1 hx).1
      have hi : (i : Int) < (rows.length : Int) := by omega
      obtain ⟨v, p, hv', hp, hat⟩ := (RowsAt.lst H rows).get hx
      have hfl : f < r.2.length := by have := (valid_good hv r (List.mem_of_getElem? hx)).1; omega
      obtain ⟨n, hn⟩ : ∃ n, r.2[f]? = some n := ⟨_, List.getElem?_eq_getElem hfl⟩
      obtain ⟨_, q, hq, hqt⟩ := hv'.get f [.int .i64 n] (by rw [List.getElem?_map, hn]; rfl)
      have hs := tot_take f rows hx
      rw [hn] at hs
      simp only [Option.getD_some] at hs
      simp only [c25_l0, hE, hi, hp, hat.aggx (n := 2) rfl, hat.fldx, hat.faddr, hq, hqt.onex, ← hs, wrapS hlt hb.1, evW, fn_eq, evR, Nat.reduceAdd, Nat.reduceLT, Nat.reduceLeDiff, reduceIte, Nat.reduceEqDiff, reduceCtorEq, argEnv, eq_self, if_true, if_false]
      repeat' (first | (rw [guardK_cases]; split <;> simp only [c25_l0, hE, hi, hp, hat.aggx (n := 2) rfl, hat.fldx, hat.faddr, hq, hqt.onex, ← hs, wrapS hlt hb.1, evW, evR, Nat.reduceAdd, Nat.reduceLT, Nat.reduceLeDiff, reduceIte, Nat.reduceEqDiff, reduceCtorEq, argEnv, eq_self, if_true, if_false, *]) | (rw [condK_bool]; split <;> simp only [c25_l0, hE, hi, hp, hat.aggx (n := 2) rfl, hat.fldx, hat.faddr, hq, hqt.onex, ← hs, wrapS hlt hb.1, evW, evR, Nat.reduceAdd, Nat.reduceLT, Nat.reduceLeDiff, reduceIte, Nat.reduceEqDiff, reduceCtorEq, argEnv, eq_self, if_true, if_false, *]) | (rw [guardD_cases]; split <;> simp only [c25_l0, hE, hi, hp, hat.aggx (n := 2) rfl, hat.fldx, hat.faddr, hq, hqt.onex, ← hs, wrapS hlt hb.1, evW, evR, Nat.reduceAdd, Nat.reduceLT, Nat.reduceLeDiff, reduceIte, Nat.reduceEqDiff, reduceCtorEq, argEnv, eq_self, if_true, if_false, *]))
      exact Sc.next rfl (by rfl))
    (fun E G hE => by
      simp only [c25_l0, hE, Int.lt_irrefl, List.take_length, evW, fn_eq, evR, Nat.reduceAdd, Nat.reduceLT, Nat.reduceLeDiff, reduceIte, Nat.reduceEqDiff, reduceCtorEq, argEnv, eq_self, if_true, if_false]
      repeat' (first | (rw [guardK_cases]; split <;> simp only [c25_l0, hE, Int.lt_irrefl, List.take_length, evW, evR, Nat.reduceAdd, Nat.reduceLT, Nat.reduceLeDiff, reduceIte, Nat.reduceEqDiff, reduceCtorEq, argEnv, eq_self, if_true, if_false, *]) | (rw [condK_bool]; split <;> simp only [c25_l0, hE, Int.lt_irrefl, List.take_length, evW, evR, Nat.reduceAdd, Nat.reduceLT, Nat.reduceLeDiff, reduceIte, Nat.reduceEqDiff, reduceCtorEq, argEnv, eq_self, if_true, if_false, *]) | (rw [guardD_cases]; split <;> simp only [c25_l0, hE, Int.lt_irrefl, List.take_length, evW, evR, Nat.reduceAdd, Nat.reduceLT, Nat.reduceLeDiff, reduceIte, Nat.reduceEqDiff, reduceCtorEq, argEnv, eq_self, if_true, if_false, *]))
      exact .exit ⟨rfl, by rfl⟩) st G hE hH z hz with ⟨_, h⟩ | ⟨h, _⟩
  · exact h
  · rw [List.all_eq_false] at h
    obtain ⟨_, _, h⟩ := h
    exact absurd rfl h
theorem f25 (F : Int) (rows : List Row) (hl : rows.length < 9223372036854775807) (hvl : ∀ r ∈ rows, r.2.length < 9223372036854775807) (x : Int) (H : Heap) :
    cal (evC cprog) false 25 [.agg [.int .i64 F, .lst (rows.map rRow)], .int .i64 x] H = some (.tup [.int .i64 (totals F rows x).1, .int .i64 (totals F rows x).2], H) := by
  have h16 := fun X => f16 F rows hl hvl _ (H ++ X) (.lst _ rows)
  rw [cal_of at25]
  by_cases hv : valid (F, rows) = true
  · simp only [hv] at h16
    by_cases h1 : x < 0
    · have ht : totals F rows x = (0, 2) := by simp [totals, hv, h1]
      rw [ht]
      simp only [c25, h16, h1, evW, fn_eq, evR, Nat.reduceAdd, Nat.reduceLT, Nat.reduceLeDiff, reduceIte, Nat.reduceEqDiff, reduceCtorEq, argEnv, eq_self, if_true, if_false]
      repeat' (first | (rw [guardK_cases]; split <;> simp only [c25, h16, h1, evW, evR, Nat.reduceAdd, Nat.reduceLT, Nat.reduceLeDiff, reduceIte, Nat.reduceEqDiff, reduceCtorEq, argEnv, eq_self, if_true, if_false, *]) | (rw [condK_bool]; split <;> simp only [c25, h16, h1, evW, evR, Nat.reduceAdd, Nat.reduceLT, Nat.reduceLeDiff, reduceIte, Nat.reduceEqDiff, reduceCtorEq, argEnv, eq_self, if_true, if_false, *]) | (rw [guardD_cases]; split <;> simp only [c25, h16, h1, evW, evR, Nat.reduceAdd, Nat.reduceLT, Nat.reduceLeDiff, reduceIte, Nat.reduceEqDiff, reduceCtorEq, argEnv, eq_self, if_true, if_false, *]))
    by_cases h2 : F ≤ x
    · have ht : totals F rows x = (0, 2) := by simp [totals, hv, h2]
      rw [ht]
      simp only [c25, h16, h1, h2, evW, fn_eq, evR, Nat.reduceAdd, Nat.reduceLT, Nat.reduceLeDiff, reduceIte, Nat.reduceEqDiff, reduceCtorEq, argEnv, eq_self, if_true, if_false]
      repeat' (first | (rw [guardK_cases]; split <;> simp only [c25, h16, h1, h2, evW, evR, Nat.reduceAdd, Nat.reduceLT, Nat.reduceLeDiff, reduceIte, Nat.reduceEqDiff, reduceCtorEq, argEnv, eq_self, if_true, if_false, *]) | (rw [condK_bool]; split <;> simp only [c25, h16, h1, h2, evW, evR, Nat.reduceAdd, Nat.reduceLT, Nat.reduceLeDiff, reduceIte, Nat.reduceEqDiff, reduceCtorEq, argEnv, eq_self, if_true, if_false, *]) | (rw [guardD_cases]; split <;> simp only [c25, h16, h1, h2, evW, evR, Nat.reduceAdd, Nat.reduceLT, Nat.reduceLeDiff, reduceIte, Nat.reduceEqDiff, reduceCtorEq, argEnv, eq_self, if_true, if_false, *]))
    · have ht : totals F rows x = (tot x.toNat rows, 0) := by simp [totals, hv, h1, h2]
      obtain ⟨f, rfl⟩ : ∃ f : Nat, x = f := ⟨x.toNat, by omega⟩
      have hlp := l25 hv f (by omega) (.ptr H.length 0 2 0 0) H [⟨0, true, 24, 2, [[.int .i64 F, .lst (rows.map rRow)]]⟩] []
      rw [ht]
      simp only [c25, h16, h1, h2, List.length_map, evW, fn_eq, evR, Nat.reduceAdd, Nat.reduceLT, Nat.reduceLeDiff, reduceIte, Nat.reduceEqDiff, reduceCtorEq, argEnv, eq_self, if_true, if_false]
      repeat' (first | (rw [guardK_cases]; split <;> simp only [c25, h16, h1, h2, List.length_map, evW, evR, Nat.reduceAdd, Nat.reduceLT, Nat.reduceLeDiff, reduceIte, Nat.reduceEqDiff, reduceCtorEq, argEnv, eq_self, if_true, if_false, *]) | (rw [condK_bool]; split <;> simp only [c25, h16, h1, h2, List.length_map, evW, evR, Nat.reduceAdd, Nat.reduceLT, Nat.reduceLeDiff, reduceIte, Nat.reduceEqDiff, reduceCtorEq, argEnv, eq_self, if_true, if_false, *]) | (rw [guardD_cases]; split <;> simp only [c25, h16, h1, h2, List.length_map, evW, evR, Nat.reduceAdd, Nat.reduceLT, Nat.reduceLeDiff, reduceIte, Nat.reduceEqDiff, reduceCtorEq, argEnv, eq_self, if_true, if_false, *]))
      generalize hz : itLim _ _ = z
      obtain ⟨x, T, G, rfl, _, rfl, hT⟩ := hlp _ (by rfl) (by simp) z hz
      simp only [hT, Int.toNat_natCast, evW, fn_eq, evR, Nat.reduceAdd, Nat.reduceLT, Nat.reduceLeDiff, reduceIte, Nat.reduceEqDiff, reduceCtorEq, argEnv, eq_self, if_true, if_false]
      repeat' (first | (rw [guardK_cases]; split <;> simp only [hT, Int.toNat_natCast, evW, evR, Nat.reduceAdd, Nat.reduceLT, Nat.reduceLeDiff, reduceIte, Nat.reduceEqDiff, reduceCtorEq, argEnv, eq_self, if_true, if_false, *]) | (rw [condK_bool]; split <;> simp only [hT, Int.toNat_natCast, evW, evR, Nat.reduceAdd, Nat.reduceLT, Nat.reduceLeDiff, reduceIte, Nat.reduceEqDiff, reduceCtorEq, argEnv, eq_self, if_true, if_false, *]) | (rw [guardD_cases]; split <;> simp only [hT, Int.toNat_natCast, evW, evR, Nat.reduceAdd, Nat.reduceLT, Nat.reduceLeDiff, reduceIte, Nat.reduceEqDiff, reduceCtorEq, argEnv, eq_self, if_true, if_false, *]))
  · have hv' : valid (F, rows) = false := by simpa using hv
    have ht : totals F rows x = (0, 210) := by simp [totals, hv']
    simp only [hv'] at h16
    rw [ht]
    simp only [c25, h16, evW, fn_eq, evR, Nat.reduceAdd, Nat.reduceLT, Nat.reduceLeDiff, reduceIte, Nat.reduceEqDiff, reduceCtorEq, argEnv, eq_self, if_true, if_false]
    repeat' (first | (rw [guardK_cases]; split <;> simp only [c25, h16, evW, evR, Nat.reduceAdd, Nat.reduceLT, Nat.reduceLeDiff, reduceIte, Nat.reduceEqDiff, reduceCtorEq, argEnv, eq_self, if_true, if_false, *]) | (rw [condK_bool]; split <;> simp only [c25, h16, evW, evR, Nat.reduceAdd, Nat.reduceLT, Nat.reduceLeDiff, reduceIte, Nat.reduceEqDiff, reduceCtorEq, argEnv, eq_self, if_true, if_false, *]) | (rw [guardD_cases]; split <;> simp only [c25, h16, evW, evR, Nat.reduceAdd, Nat.reduceLT, Nat.reduceLeDiff, reduceIte, Nat.reduceEqDiff, reduceCtorEq, argEnv, eq_self, if_true, if_false, *]))
end Go.Proofs.Ytehcdcnghcbimaa.Code

/- The document's totals; lists of bools; the law FastOrders. -/
set_option linter.unusedSimpArgs false
set_option linter.unusedVariables false
namespace Go.Proofs.Ytehcdcnghcbimaa.Code
open Go.Proofs.Ytehcdcnghcbimaa.Ev

theorem l26 {F : Int} {rows : List Row} (hv : valid (F, rows) = true) (f : Nat) (hf : (f : Int) < F) (H G : Heap) (st : St)
    (hE : keepEnv st.1 [1, 2, 6, 7] = [(1, .int .i64 (f : Int)), (2, .ptr H.length 0 2 0 0), (6, .int .i64 0), (7, .int .i64 0)]) (hH : st.2 = H ++ ([⟨0, true, 24, 2, [[.int .i64 F, .lst (rows.map rRow)]]⟩] ++ G)) (z : Option (CX × St)) (hz : itLim (evCode (evC cprog) itLim c26_l0) st = z) :
    Lv H [⟨0, true, 24, 2, [[.int .i64 F, .lst (rows.map rRow)]]⟩] (fun x T => x = .exit 1 ∧ get T 6 = some (.int .i64 (tot f rows))) z := by
  have hb := valid_bounds hv
  rcases all_rule rows (fun _ => true) [1, 2, 6, 7] (fun i => [(1, .int .i64 (f : Int)), (2, .ptr H.length 0 2 0 0), (6, .int .i64 (tot f (rows.take i))), (7, .int .i64 (i : Int))]) H _ (evCode (evC cprog) itLim c26_l0) (fun x T => x = .exit 1 ∧ get T 6 = some (.int .i64 (tot f rows))) (fun _ _ => False)
    (fun i r hx E G hE => by
      have hlt : i < rows.length := (List.getElem?_eq_some_iff.1 hx).1
      have hi : (i : Int) < (rows.length : Int) := by omega
      obtain ⟨v, p, hv', hp, hat⟩ := (RowsAt.lst H rows).get hx
      have hfl : f < r.2.length := by have := (valid_good hv r (List.mem_of_getElem? hx)).1; omega
      obtain ⟨n, hn⟩ : ∃ n, r.2[f]? = some n := ⟨_, List.getElem?_eq_getElem hfl⟩
      obtain ⟨_, q, hq, hqt⟩ := hv'.get f [.int .i64 n] (by rw [List.getElem?_map, hn]; rfl)
      have hs := tot_take f rows hx
      rw [hn] at hs
      simp only [Option.getD_some] at hs
      simp only [c26_l0, hE, hi, hp, hat.aggx (n := 2) rfl, hat.fldx, hat.faddr, hq, hqt.onex, ← hs, List.length_map, wrapS hlt hb.1, evW, fn_eq, evR, Nat.reduceAdd, Nat.reduceLT, Nat.reduceLeDiff, reduceIte, Nat.reduceEqDiff, reduceCtorEq, argEnv, eq_self, if_true, if_false]
      repeat' (first | (rw [guardK_cases]; split <;> simp only [c26_l0, hE, hi, hp, hat.aggx (n := 2) rfl, hat.fldx, hat.faddr, hq, hqt.onex, ← hs, List.length_map, wrapS hlt hb.1, evW, evR, Nat.reduceAdd, Nat.reduceLT, Nat.reduceLeDiff, reduceIte, Nat.reduceEqDiff, reduceCtorEq, argEnv, eq_self, if_true, if_false, *]) | (rw [condK_bool]; split <;> simp only [c26_l0, hE, hi, hp, hat.aggx (n := 2) rfl, hat.fldx, hat.faddr, hq, hqt.onex, ← hs, List.length_map, wrapS hlt hb.1, evW, evR, Nat.reduceAdd, Nat.reduceLT, Nat.reduceLeDiff, reduceIte, Nat.reduceEqDiff, reduceCtorEq, argEnv, eq_self, if_true, if_false, *]) | (rw [guardD_cases]; split <;> simp only [c26_l0, hE, hi, hp, hat.aggx (n := 2) rfl, hat.fldx, hat.faddr, hq, hqt.onex, ← hs, List.length_map, wrapS hlt hb.1, evW, evR, Nat.reduceAdd, Nat.reduceLT, Nat.reduceLeDiff, reduceIte, Nat.reduceEqDiff, reduceCtorEq, argEnv, eq_self, if_true, if_false, *]))
      exact Sc.next rfl (by rfl))
    (fun E G hE => by
      simp only [c26_l0, hE, Int.lt_irrefl, List.length_map, List.take_length, evW, fn_eq, evR, Nat.reduceAdd, Nat.reduceLT, Nat.reduceLeDiff, reduceIte, Nat.reduceEqDiff, reduceCtorEq, argEnv, eq_self, if_true, if_false]
      repeat' (first | (rw [guardK_cases]; split <;> simp only [c26_l0, hE, Int.lt_irrefl, List.length_map, List.take_length, evW, evR, Nat.reduceAdd, Nat.reduceLT, Nat.reduceLeDiff, reduceIte, Nat.reduceEqDiff, reduceCtorEq, argEnv, eq_self, if_true, if_false, *]) | (rw [condK_bool]; split <;> simp only [c26_l0, hE, Int.lt_irrefl, List.length_map, List.take_length, evW, evR, Nat.reduceAdd, Nat.reduceLT, Nat.reduceLeDiff, reduceIte, Nat.reduceEqDiff, reduceCtorEq, argEnv, eq_self, if_true, if_false, *]) | (rw [guardD_cases]; split <;> simp only [c26_l0, hE, Int.lt_irrefl, List.length_map, List.take_length, evW, evR, Nat.reduceAdd, Nat.reduceLT, Nat.reduceLeDiff, reduceIte, Nat.reduceEqDiff, reduceCtorEq, argEnv, eq_self, if_true, if_false, *]))
      exact .exit (K := [_]) ⟨rfl, by rfl⟩) st G hE hH z hz with ⟨_, h⟩ | ⟨h, _⟩
  · exact h
  · rw [List.all_eq_false] at h
    obtain ⟨_, _, h⟩ := h
    exact absurd rfl h
theorem f26 (F : Int) (rows : List Row) (hl : rows.length < 9223372036854775807) (hvl : ∀ r ∈ rows, r.2.length < 9223372036854775807) (x : Int) (H : Heap) :
    cal (evC cprog) false 26 [.agg [.int .i64 F, .lst (rows.map rRow)], .int .i64 x] H = some (.tup [.int .i64 (totals F rows x).1, .int .i64 (totals F rows x).2], H) := by
  have h17 := fun X => f17 F rows hl hvl _ (H ++ X) (.lst _ rows)
  rw [cal_of at26]
  by_cases hv : valid (F, rows) = true
  · simp only [hv] at h17
    by_cases h1 : x < 0
    · have ht : totals F rows x = (0, 2) := by simp [totals, hv, h1]
      rw [ht]
      simp only [c26, h17, h1, evW, fn_eq, evR, Nat.reduceAdd, Nat.reduceLT, Nat.reduceLeDiff, reduceIte, Nat.reduceEqDiff, reduceCtorEq, argEnv, eq_self, if_true, if_false]
      repeat' (first | (rw [guardK_cases]; split <;> simp only [c26, h17, h1, evW, evR, Nat.reduceAdd, Nat.reduceLT, Nat.reduceLeDiff, reduceIte, Nat.reduceEqDiff, reduceCtorEq, argEnv, eq_self, if_true, if_false, *]) | (rw [condK_bool]; split <;> simp only [c26, h17, h1, evW, evR, Nat.reduceAdd, Nat.reduceLT, Nat.reduceLeDiff, reduceIte, Nat.reduceEqDiff, reduceCtorEq, argEnv, eq_self, if_true, if_false, *]) | (rw [guardD_cases]; split <;> simp only [c26, h17, h1, evW, evR, Nat.reduceAdd, Nat.reduceLT, Nat.reduceLeDiff, reduceIte, Nat.reduceEqDiff, reduceCtorEq, argEnv, eq_self, if_true, if_false, *]))
    by_cases h2 : F ≤ x
    · have ht : totals F rows x = (0, 2) := by simp [totals, hv, h2]
      rw [ht]
      simp only [c26, h17, h1, h2, evW, fn_eq, evR, Nat.reduceAdd, Nat.reduceLT, Nat.reduceLeDiff, reduceIte, Nat.reduceEqDiff, reduceCtorEq, argEnv, eq_self, if_true, if_false]
      repeat' (first | (rw [guardK_cases]; split <;> simp only [c26, h17, h1, h2, evW, evR, Nat.reduceAdd, Nat.reduceLT, Nat.reduceLeDiff, reduceIte, Nat.reduceEqDiff, reduceCtorEq, argEnv, eq_self, if_true, if_false, *]) | (rw [condK_bool]; split <;> simp only [c26, h17, h1, h2, evW, evR, Nat.reduceAdd, Nat.reduceLT, Nat.reduceLeDiff, reduceIte, Nat.reduceEqDiff, reduceCtorEq, argEnv, eq_self, if_true, if_false, *]) | (rw [guardD_cases]; split <;> simp only [c26, h17, h1, h2, evW, evR, Nat.reduceAdd, Nat.reduceLT, Nat.reduceLeDiff, reduceIte, Nat.reduceEqDiff, reduceCtorEq, argEnv, eq_self, if_true, if_false, *]))
    · have ht : totals F rows x = (tot x.toNat rows, 0) := by simp [totals, hv, h1, h2]
      obtain ⟨f, rfl⟩ : ∃ f : Nat, x = f := ⟨x.toNat, by omega⟩
      have hlp := l26 hv f (by omega) H []
      rw [ht]
      simp only [c26, h17, h1, h2, List.length_map, evW, fn_eq, evR, Nat.reduceAdd, Nat.reduceLT, Nat.reduceLeDiff, reduceIte, Nat.reduceEqDiff, reduceCtorEq, argEnv, eq_self, if_true, if_false]
      repeat' (first | (rw [guardK_cases]; split <;> simp only [c26, h17, h1, h2, List.length_map, evW, evR, Nat.reduceAdd, Nat.reduceLT, Nat.reduceLeDiff, reduceIte, Nat.reduceEqDiff, reduceCtorEq, argEnv, eq_self, if_true, if_false, *]) | (rw [condK_bool]; split <;> simp only [c26, h17, h1, h2, List.length_map, evW, evR, Nat.reduceAdd, Nat.reduceLT, Nat.reduceLeDiff, reduceIte, Nat.reduceEqDiff, reduceCtorEq, argEnv, eq_self, if_true, if_false, *]) | (rw [guardD_cases]; split <;> simp only [c26, h17, h1, h2, List.length_map, evW, evR, Nat.reduceAdd, Nat.reduceLT, Nat.reduceLeDiff, reduceIte, Nat.reduceEqDiff, reduceCtorEq, argEnv, eq_self, if_true, if_false, *]))
      generalize hz : itLim _ _ = z
      obtain ⟨x, T, G, rfl, _, rfl, hT⟩ := hlp _ (by rfl) (by simp) z hz
      simp only [hT, Int.toNat_natCast, evW, fn_eq, evR, Nat.reduceAdd, Nat.reduceLT, Nat.reduceLeDiff, reduceIte, Nat.reduceEqDiff, reduceCtorEq, argEnv, eq_self, if_true, if_false]
      repeat' (first | (rw [guardK_cases]; split <;> simp only [hT, Int.toNat_natCast, evW, evR, Nat.reduceAdd, Nat.reduceLT, Nat.reduceLeDiff, reduceIte, Nat.reduceEqDiff, reduceCtorEq, argEnv, eq_self, if_true, if_false, *]) | (rw [condK_bool]; split <;> simp only [hT, Int.toNat_natCast, evW, evR, Nat.reduceAdd, Nat.reduceLT, Nat.reduceLeDiff, reduceIte, Nat.reduceEqDiff, reduceCtorEq, argEnv, eq_self, if_true, if_false, *]) | (rw [guardD_cases]; split <;> simp only [hT, Int.toNat_natCast, evW, evR, Nat.reduceAdd, Nat.reduceLT, Nat.reduceLeDiff, reduceIte, Nat.reduceEqDiff, reduceCtorEq, argEnv, eq_self, if_true, if_false, *]))
  · have hv' : valid (F, rows) = false := by simpa using hv
    have ht : totals F rows x = (0, 210) := by simp [totals, hv']
    simp only [hv'] at h17
    rw [ht]
    simp only [c26, h17, evW, fn_eq, evR, Nat.reduceAdd, Nat.reduceLT, Nat.reduceLeDiff, reduceIte, Nat.reduceEqDiff, reduceCtorEq, argEnv, eq_self, if_true, if_false]
    repeat' (first | (rw [guardK_cases]; split <;> simp only [c26, h17, evW, evR, Nat.reduceAdd, Nat.reduceLT, Nat.reduceLeDiff, reduceIte, Nat.reduceEqDiff, reduceCtorEq, argEnv, eq_self, if_true, if_false, *]) | (rw [condK_bool]; split <;> simp only [c26, h17, evW, evR, Nat.reduceAdd, Nat.reduceLT, Nat.reduceLeDiff, reduceIte, Nat.reduceEqDiff, reduceCtorEq, argEnv, eq_self, if_true, if_false, *]) | (rw [guardD_cases]; split <;> simp only [c26, h17, evW, evR, Nat.reduceAdd, Nat.reduceLT, Nat.reduceLeDiff, reduceIte, Nat.reduceEqDiff, reduceCtorEq, argEnv, eq_self, if_true, if_false, *]))
theorem lBools (H : Heap) (bs : List Bool) : SlAt H 1 (.lst (bs.map rBool)) (bs.map rBool) := .lst fun r hr => by obtain ⟨b, _, rfl⟩ := List.mem_map.1 hr; rfl
theorem f27 (bs : List Bool) (hb : bs.length < 9223372036854775807) (H : Heap) : cal (evC cprog) false 27 [.lst (bs.map rBool), .lst (bs.map rBool)] H = some (.bool true, H) := by
  rw [cal_of at27]
  have h1 := (lBools H bs).len
  simp only [List.length_map] at h1
  simp only [c27, List.length_map, evW, fn_eq, evR, Nat.reduceAdd, Nat.reduceLT, Nat.reduceLeDiff, reduceIte, Nat.reduceEqDiff, reduceCtorEq, argEnv, eq_self, if_true, if_false]
  repeat' (first | (rw [guardK_cases]; split <;> simp only [c27, List.length_map, evW, evR, Nat.reduceAdd, Nat.reduceLT, Nat.reduceLeDiff, reduceIte, Nat.reduceEqDiff, reduceCtorEq, argEnv, eq_self, if_true, if_false, *]) | (rw [condK_bool]; split <;> simp only [c27, List.length_map, evW, evR, Nat.reduceAdd, Nat.reduceLT, Nat.reduceLeDiff, reduceIte, Nat.reduceEqDiff, reduceCtorEq, argEnv, eq_self, if_true, if_false, *]) | (rw [guardD_cases]; split <;> simp only [c27, List.length_map, evW, evR, Nat.reduceAdd, Nat.reduceLT, Nat.reduceLeDiff, reduceIte, Nat.reduceEqDiff, reduceCtorEq, argEnv, eq_self, if_true, if_false, *]))
  generalize hz : itLim _ _ = z
  rcases all_rule bs (fun _ => true) [0, 1, 5] (fun i => [(0, .lst (bs.map rBool)), (1, .lst (bs.map rBool)), (5, .int .i64 (i : Int))]) H [] (evCode (evC cprog) itLim c27_l0) (fun x T => x = .exit 0) (fun _ _ => False)
    (fun i b hx E G hE => by
      have hlt : i < bs.length := (List.getElem?_eq_some_iff.1 hx).1
      have hi : (i : Int) < (bs.length : Int) := by omega
      obtain ⟨_, p, hp, hat⟩ := (lBools H bs).get i (rBool b) (by rw [List.getElem?_map, hx]; rfl)
      have hbb : (b == b) = true := by cases b <;> rfl
      simp only [c27_l0, hE, hi, hp, hat.onex, List.length_map, hbb, wrapS hlt hb, evW, fn_eq, evR, Nat.reduceAdd, Nat.reduceLT, Nat.reduceLeDiff, reduceIte, Nat.reduceEqDiff, reduceCtorEq, argEnv, eq_self, if_true, if_false]
      repeat' (first | (rw [guardK_cases]; split <;> simp only [c27_l0, hE, hi, hp, hat.onex, List.length_map, hbb, wrapS hlt hb, evW, evR, Nat.reduceAdd, Nat.reduceLT, Nat.reduceLeDiff, reduceIte, Nat.reduceEqDiff, reduceCtorEq, argEnv, eq_self, if_true, if_false, *]) | (rw [condK_bool]; split <;> simp only [c27_l0, hE, hi, hp, hat.onex, List.length_map, hbb, wrapS hlt hb, evW, evR, Nat.reduceAdd, Nat.reduceLT, Nat.reduceLeDiff, reduceIte, Nat.reduceEqDiff, reduceCtorEq, argEnv, eq_self, if_true, if_false, *]) | (rw [guardD_cases]; split <;> simp only [c27_l0, hE, hi, hp, hat.onex, List.length_map, hbb, wrapS hlt hb, evW, evR, Nat.reduceAdd, Nat.reduceLT, Nat.reduceLeDiff, reduceIte, Nat.reduceEqDiff, reduceCtorEq, argEnv, eq_self, if_true, if_false, *]))
      exact Sc.next (K := []) rfl (by rfl))
    (fun E G hE => by
      simp only [c27_l0, hE, Int.lt_irrefl, List.length_map, evW, fn_eq, evR, Nat.reduceAdd, Nat.reduceLT, Nat.reduceLeDiff, reduceIte, Nat.reduceEqDiff, reduceCtorEq, argEnv, eq_self, if_true, if_false]
      repeat' (first | (rw [guardK_cases]; split <;> simp only [c27_l0, hE, Int.lt_irrefl, List.length_map, evW, evR, Nat.reduceAdd, Nat.reduceLT, Nat.reduceLeDiff, reduceIte, Nat.reduceEqDiff, reduceCtorEq, argEnv, eq_self, if_true, if_false, *]) | (rw [condK_bool]; split <;> simp only [c27_l0, hE, Int.lt_irrefl, List.length_map, evW, evR, Nat.reduceAdd, Nat.reduceLT, Nat.reduceLeDiff, reduceIte, Nat.reduceEqDiff, reduceCtorEq, argEnv, eq_self, if_true, if_false, *]) | (rw [guardD_cases]; split <;> simp only [c27_l0, hE, Int.lt_irrefl, List.length_map, evW, evR, Nat.reduceAdd, Nat.reduceLT, Nat.reduceLeDiff, reduceIte, Nat.reduceEqDiff, reduceCtorEq, argEnv, eq_self, if_true, if_false, *]))
      exact .exit (K := []) rfl) _ [] (by rfl) (by simp) z hz with ⟨_, x, T, G, rfl, _, rfl⟩ | ⟨h, _⟩
  · simp only [evW, fn_eq, evR, Nat.reduceAdd, Nat.reduceLT, Nat.reduceLeDiff, reduceIte, Nat.reduceEqDiff, reduceCtorEq, argEnv, eq_self, if_true, if_false]
    repeat' (first | (rw [guardK_cases]; split <;> simp only [evW, evR, Nat.reduceAdd, Nat.reduceLT, Nat.reduceLeDiff, reduceIte, Nat.reduceEqDiff, reduceCtorEq, argEnv, eq_self, if_true, if_false, *]) | (rw [condK_bool]; split <;> simp only [evW, evR, Nat.reduceAdd, Nat.reduceLT, Nat.reduceLeDiff, reduceIte, Nat.reduceEqDiff, reduceCtorEq, argEnv, eq_self, if_true, if_false, *]) | (rw [guardD_cases]; split <;> simp only [evW, evR, Nat.reduceAdd, Nat.reduceLT, Nat.reduceLeDiff, reduceIte, Nat.reduceEqDiff, reduceCtorEq, argEnv, eq_self, if_true, if_false, *]))
  · rw [List.all_eq_false] at h
    obtain ⟨_, _, h⟩ := h
    exact absurd rfl h
end Go.Proofs.Ytehcdcnghcbimaa.Code

/- The law FastOrders. -/
set_option linter.unusedSimpArgs false
set_option linter.unusedVariables false
namespace Go.Proofs.Ytehcdcnghcbimaa.Code
open Go.Proofs.Ytehcdcnghcbimaa.Ev Go.RowKit

theorem ordered_len (F : Int) : ∀ (us : List (List Fld)) (rows : List Row), (ordered F rows us).2.length = us.length
  | [], _ => rfl
  | l :: us, rows => by simp [ordered, ordered_len F us]
theorem orders_small (F : Int) (rows : List Row) (us : List (List Fld)) : ((orders F rows us).1.2.length < 9223372036854775807 ∧ ∀ r ∈ (orders F rows us).1.2, r.2.length < 9223372036854775807) ∧ (orders F rows us).2.1.length < 9223372036854775807 := by
  unfold orders
  split
  · rename_i ha
    split
    · simp
    · rename_i hq
      have hf := (asked_fine ha).ordered us
      have hF := asked_F ha
      have hl := (asked_good ha).2.2
      exact ⟨⟨by simp only [hf.len]; omega, fun r hr => by have := (hf.good r hr).1; omega⟩, by simp only [ordered_len]; omega⟩
  · simp
theorem lUnits (H : Heap) (us : List (List Fld)) : SlAt H 1 (.lst (us.map rUnit)) (us.map rUnit) := .lst fun r hr => by obtain ⟨b, _, rfl⟩ := List.mem_map.1 hr; rfl
theorem l6 (us : List (List Fld)) (hul : us.length < 9223372036854775807) (hu : ∀ l ∈ us, l.length < 9223372036854775807) (P2 P3 : AV) (H K G : Heap) (st : St)
    (hE : keepEnv st.1 [1, 2, 3, 7] = [(1, .lst (us.map rUnit)), (2, P2), (3, P3), (7, .int .i64 0)]) (hH : st.2 = H ++ (K ++ G)) (z : Option (CX × St)) (hz : itLim (evCode (evC cprog) itLim c6_l0) st = z) :
    Lv H K (fun x T => (x = .exit 0 ∧ keepEnv T [1, 2, 3] = [(1, .lst (us.map rUnit)), (2, P2), (3, P3)]) ∨ (x = .ret ∧ get T 6 = some (.bool true))) z := by
  rcases all_rule us (fun l => decide (l.length ≤ 40)) [1, 2, 3, 7] (fun k => [(1, .lst (us.map rUnit)), (2, P2), (3, P3), (7, .int .i64 (k : Int))]) H K (evCode (evC cprog) itLim c6_l0) (fun x T => x = .exit 0 ∧ keepEnv T [1, 2, 3] = [(1, .lst (us.map rUnit)), (2, P2), (3, P3)]) (fun x T => x = .ret ∧ get T 6 = some (.bool true))
    (fun k l hk E G hE => by
      have hlt : k < us.length := (List.getElem?_eq_some_iff.1 hk).1
      have hi : (k : Int) < (us.length : Int) := by omega
      have h4 := (sUnit H l).len
      simp only [List.length_map] at h4
      obtain ⟨_, p, hp, hat⟩ := (lUnits H us).get k (rUnit l) (by rw [List.getElem?_map, hk]; rfl)
      simp only [c6_l0, hE, hi, hp, hat.onex, h4, List.length_map, f11, wrapS hlt hul, evW, fn_eq, evR, Nat.reduceAdd, Nat.reduceLT, Nat.reduceLeDiff, reduceIte, Nat.reduceEqDiff, reduceCtorEq, argEnv, eq_self, if_true, if_false]
      repeat' (first | (rw [guardK_cases]; split <;> simp only [c6_l0, hE, hi, hp, hat.onex, h4, List.length_map, f11, wrapS hlt hul, evW, evR, Nat.reduceAdd, Nat.reduceLT, Nat.reduceLeDiff, reduceIte, Nat.reduceEqDiff, reduceCtorEq, argEnv, eq_self, if_true, if_false, *]) | (rw [condK_bool]; split <;> simp only [c6_l0, hE, hi, hp, hat.onex, h4, List.length_map, f11, wrapS hlt hul, evW, evR, Nat.reduceAdd, Nat.reduceLT, Nat.reduceLeDiff, reduceIte, Nat.reduceEqDiff, reduceCtorEq, argEnv, eq_self, if_true, if_false, *]) | (rw [guardD_cases]; split <;> simp only [c6_l0, hE, hi, hp, hat.onex, h4, List.length_map, f11, wrapS hlt hul, evW, evR, Nat.reduceAdd, Nat.reduceLT, Nat.reduceLeDiff, reduceIte, Nat.reduceEqDiff, reduceCtorEq, argEnv, eq_self, if_true, if_false, *]))
      all_goals first | exact Sc.next (by first | (simp_all [rUnit]; done) | (simp_all [rUnit]; intros; omega)) (by rfl) | exact Sc.ret (by first | (simp_all [rUnit]; done) | (simp_all [rUnit]; intros; omega)) ⟨rfl, by first | rfl | exact ⟨rfl, rfl, rfl⟩⟩ | exact Sc.exit (by first | (simp_all [rUnit]; done) | (simp_all [rUnit]; intros; omega)) ⟨rfl, rfl⟩)
    (fun E G hE => by
      simp only [c6_l0, hE, Int.lt_irrefl, List.length_map, evW, fn_eq, evR, Nat.reduceAdd, Nat.reduceLT, Nat.reduceLeDiff, reduceIte, Nat.reduceEqDiff, reduceCtorEq, argEnv, eq_self, if_true, if_false]
      repeat' (first | (rw [guardK_cases]; split <;> simp only [c6_l0, hE, Int.lt_irrefl, List.length_map, evW, evR, Nat.reduceAdd, Nat.reduceLT, Nat.reduceLeDiff, reduceIte, Nat.reduceEqDiff, reduceCtorEq, argEnv, eq_self, if_true, if_false, *]) | (rw [condK_bool]; split <;> simp only [c6_l0, hE, Int.lt_irrefl, List.length_map, evW, evR, Nat.reduceAdd, Nat.reduceLT, Nat.reduceLeDiff, reduceIte, Nat.reduceEqDiff, reduceCtorEq, argEnv, eq_self, if_true, if_false, *]) | (rw [guardD_cases]; split <;> simp only [c6_l0, hE, Int.lt_irrefl, List.length_map, evW, evR, Nat.reduceAdd, Nat.reduceLT, Nat.reduceLeDiff, reduceIte, Nat.reduceEqDiff, reduceCtorEq, argEnv, eq_self, if_true, if_false, *]))
      exact .exit ⟨rfl, by rfl⟩) st G hE hH z hz with ⟨_, c, T, G', rfl, h1, h2⟩ | ⟨_, c, T, G', rfl, h1, h2⟩
  · exact ⟨c, T, G', rfl, h1, .inl h2⟩
  · exact ⟨c, T, G', rfl, h1, .inr h2⟩
theorem f6 (F : Int) (rows : List Row) (hl : rows.length < 9223372036854775807) (hvl : ∀ r ∈ rows, r.2.length < 9223372036854775807) (us : List (List Fld)) (hul : us.length < 9223372036854775807) (hu : ∀ l ∈ us, l.length < 9223372036854775807) (x : Int) (H : Heap) :
    ∃ H', evFn (evC cprog) itLim c6 [.agg [.int .i64 F, .lst (rows.map rRow)], .lst (us.map rUnit), .int .i64 x] H = some (.bool true, H') := by
  have h10 := fun H => f10 F rows hl _ H (.lst H rows)
  have h23 := fun H => f23 F rows hl hvl us _ H (lUnits H us) hul hu
  have h24 := fun H => f24 F rows hl hvl us _ H (lUnits H us) hul hu
  have h25 := fun H => f25 F rows hl hvl x H
  have h26 := fun H => f26 F rows hl hvl x H
  obtain ⟨hs1, hs2⟩ := orders_small F rows us
  have h27 := fun H => f27 (orders F rows us).2.1 hs2 H
  have h20 := fun H => f20 (orders F rows us).1.1 (orders F rows us).1.1 (orders F rows us).1.2 (orders F rows us).1.2 _ _ H (.lst H _) (.lst H _) hs1.1 hs1.2
  rw [tell_pos ⟨rfl, rfl⟩] at h20
  have hlp := l6 us hul hu (.int .i64 x) (.ptr H.length 0 2 0 0) H [⟨0, true, 24, 2, [[.int .i64 F, .lst (rows.map rRow)]]⟩] []
  simp only [c6, f11, cells_tab, isTup_tab, evW, fn_eq, evR, Nat.reduceAdd, Nat.reduceLT, Nat.reduceLeDiff, reduceIte, Nat.reduceEqDiff, reduceCtorEq, argEnv, eq_self, if_true, if_false]
  repeat' (first | (rw [guardK_cases]; split <;> simp only [c6, f11, cells_tab, isTup_tab, evW, evR, Nat.reduceAdd, Nat.reduceLT, Nat.reduceLeDiff, reduceIte, Nat.reduceEqDiff, reduceCtorEq, argEnv, eq_self, if_true, if_false, *]) | (rw [condK_bool]; split <;> simp only [c6, f11, cells_tab, isTup_tab, evW, evR, Nat.reduceAdd, Nat.reduceLT, Nat.reduceLeDiff, reduceIte, Nat.reduceEqDiff, reduceCtorEq, argEnv, eq_self, if_true, if_false, *]) | (rw [guardD_cases]; split <;> simp only [c6, f11, cells_tab, isTup_tab, evW, evR, Nat.reduceAdd, Nat.reduceLT, Nat.reduceLeDiff, reduceIte, Nat.reduceEqDiff, reduceCtorEq, argEnv, eq_self, if_true, if_false, *]))
  generalize hz : itLim _ _ = z
  obtain ⟨x, T, G, rfl, _, ⟨rfl, hT⟩ | ⟨rfl, hT⟩⟩ := hlp _ (by rfl) (by simp) z hz
  · simp only [hT, h10, h23, h24, h25, h26, h27, h20, f11, beq_self_eq_true, List.length_map, cells_tab, isTup_tab, evW, fn_eq, evR, Nat.reduceAdd, Nat.reduceLT, Nat.reduceLeDiff, reduceIte, Nat.reduceEqDiff, reduceCtorEq, argEnv, eq_self, if_true, if_false]
    repeat' (first | (rw [guardK_cases]; split <;> simp only [hT, h10, h23, h24, h25, h26, h27, h20, f11, beq_self_eq_true, List.length_map, cells_tab, isTup_tab, evW, evR, Nat.reduceAdd, Nat.reduceLT, Nat.reduceLeDiff, reduceIte, Nat.reduceEqDiff, reduceCtorEq, argEnv, eq_self, if_true, if_false, *]) | (rw [condK_bool]; split <;> simp only [hT, h10, h23, h24, h25, h26, h27, h20, f11, beq_self_eq_true, List.length_map, cells_tab, isTup_tab, evW, evR, Nat.reduceAdd, Nat.reduceLT, Nat.reduceLeDiff, reduceIte, Nat.reduceEqDiff, reduceCtorEq, argEnv, eq_self, if_true, if_false, *]) | (rw [guardD_cases]; split <;> simp only [hT, h10, h23, h24, h25, h26, h27, h20, f11, beq_self_eq_true, List.length_map, cells_tab, isTup_tab, evW, evR, Nat.reduceAdd, Nat.reduceLT, Nat.reduceLeDiff, reduceIte, Nat.reduceEqDiff, reduceCtorEq, argEnv, eq_self, if_true, if_false, *]))
    all_goals exact ⟨_, rfl⟩
  · simp only [hT, evW, fn_eq, evR, Nat.reduceAdd, Nat.reduceLT, Nat.reduceLeDiff, reduceIte, Nat.reduceEqDiff, reduceCtorEq, argEnv, eq_self, if_true, if_false]
    repeat' (first | (rw [guardK_cases]; split <;> simp only [hT, evW, evR, Nat.reduceAdd, Nat.reduceLT, Nat.reduceLeDiff, reduceIte, Nat.reduceEqDiff, reduceCtorEq, argEnv, eq_self, if_true, if_false, *]) | (rw [condK_bool]; split <;> simp only [hT, evW, evR, Nat.reduceAdd, Nat.reduceLT, Nat.reduceLeDiff, reduceIte, Nat.reduceEqDiff, reduceCtorEq, argEnv, eq_self, if_true, if_false, *]) | (rw [guardD_cases]; split <;> simp only [hT, evW, evR, Nat.reduceAdd, Nat.reduceLT, Nat.reduceLeDiff, reduceIte, Nat.reduceEqDiff, reduceCtorEq, argEnv, eq_self, if_true, if_false, *]))
    exact ⟨_, rfl⟩
theorem open_rUnit {r : List AV} (h : HasL [.sl [.str, .int .i64, .str, .int .i64]] r) : ∃ l : List Fld, r = rUnit l ∧ l.length ≤ reachBytes := by
  simp only [HasL.eq_2, HasL.eq_1, Has] at h
  obtain ⟨x, xs, rfl, ⟨l, rfl, hl, hr⟩, rfl⟩ := h
  obtain ⟨us, rfl, _⟩ := typed (P := HasL [.str, .int .i64, .str, .int .i64]) (fun r h => open_fld h) l (fun r h => by simpa only [HasL.eq_2, HasL.eq_1, Has] using hr r h)
  exact ⟨us, rfl, by simpa using hl⟩
theorem open_units {a : AV} (h : ArgTy false [.sl [.sl [.str, .int .i64, .str, .int .i64]]] a) : ∃ us : List (List Fld), a = .lst (us.map rUnit) ∧ us.length ≤ reachBytes ∧ ∀ l ∈ us, l.length ≤ reachBytes := by
  have h : HasL [.sl [.sl [.str, .int .i64, .str, .int .i64]]] [a] := h
  rw [HasL.eq_2] at h
  obtain ⟨x, xs, he, hx, hxs⟩ := h
  rw [HasL.eq_1] at hxs
  subst hxs
  cases he
  simp only [Has] at hx
  obtain ⟨l, rfl, hl, hr⟩ := hx
  obtain ⟨us, rfl, hq⟩ := typed (P := HasL [.sl [.str, .int .i64, .str, .int .i64]]) (fun r h => open_rUnit h) l hr
  exact ⟨us, rfl, by simpa using hl, hq⟩
theorem open_i64 {a : AV} (h : ArgTy false [.int .i64] a) : ∃ n : Int, a = .int .i64 n := by
  have h : HasL [.int .i64] [a] := h
  obtain ⟨n, he, _⟩ := open_int h
  cases he
  exact ⟨n, rfl⟩
end Go.Proofs.Ytehcdcnghcbimaa.Code
namespace Go.Proofs.Ytehcdcnghcbimaa.Pure
open Go.Proofs.Ytehcdcnghcbimaa.Ev Go.Proofs.Ytehcdcnghcbimaa.Code
theorem FastOrders (a0 : AV) (t0 : ArgTy true [.int .i64, .sl [.str, .sl [.int .i64]]] a0) (a1 : AV) (t1 : ArgTy false [.sl [.sl [.str, .int .i64, .str, .int .i64]]] a1) (a2 : AV) (t2 : ArgTy false [.int .i64] a2) : ∃ H', evC cprog 6 [a0, a1, a2] [] = some (.bool true, H') := by
  obtain ⟨F, rows, rfl, h1, h2⟩ := open_table t0
  obtain ⟨us, rfl, h3, h4⟩ := open_units t1
  obtain ⟨x, rfl⟩ := open_i64 t2
  unfold reachBytes at h1 h2 h3 h4
  rw [evC_fn at6]
  exact f6 F rows (by omega) (fun r hr => by have := h2 r hr; omega) us (by omega) (fun l hl => by have := h4 l hl; omega) x []
end Go.Proofs.Ytehcdcnghcbimaa.Pure

/- The unit that moves an amount: the program's and the document's. -/
set_option linter.unusedSimpArgs false
set_option linter.unusedVariables false
namespace Go.Proofs.Ytehcdcnghcbimaa.Code
open Go.Proofs.Ytehcdcnghcbimaa.Ev

def mvOk (key to : ByteArray) (f n : Int) : Prop := isKey key = true ∧ isKey to = true ∧ 0 ≤ f ∧ f ≤ 3 ∧ 0 ≤ n ∧ n ≤ 1000000000
def mvUnit (key to : ByteArray) (f n : Int) : List Fld := [⟨key, f, sVg, n - 1⟩, ⟨key, f, sMi, n⟩, ⟨to, f, sPl, n⟩]
open Classical in
/-- what Moves answers -/
noncomputable def moves (key to : ByteArray) (f n : Int) : List Fld × Int := if mvOk key to f n then (mvUnit key to f n, 0) else ([], 2)
theorem calF_unit {H : Heap} (l : List Fld) (hne : l ≠ []) (e : Int) : calK true H (some (.tup [.ref H.length 0 4 0 l.length, .int .i64 e], H ++ [⟨0, true, 37, 4, l.map rFld⟩])) = some (.tup [eUnit l, .int .i64 e], H) := by
  have hO : Out H.length 4 37 [⟨0, true, 37, 4, l.map rFld⟩] (.ref H.length 0 4 0 l.length) (l.map rFld) := .inr ⟨by simpa using hne, 0, 0, by simp, rfl⟩
  obtain ⟨ids, h1, h2⟩ := fz_out hO H rfl (fun r hr a ha => by
    obtain ⟨c, _, rfl⟩ := List.mem_map.1 hr
    simp [rFld] at ha
    rcases ha with rfl | rfl | rfl | rfl <;> exact ⟨rfl, fun m H => rfl⟩) 6
  refine calK_frz (ids := ids) ?_ rfl (by simp) h2
  show (fzCells (fz1 _) [.ref H.length 0 4 0 l.length, .int .i64 e]).map _ = _
  have e1 : fz1 (H ++ [⟨0, true, 37, 4, l.map rFld⟩]) (.ref H.length 0 4 0 l.length) = fz (H ++ [⟨0, true, 37, 4, l.map rFld⟩]) 8 (.ref H.length 0 4 0 l.length) := rfl
  have e2 : fz1 (H ++ [⟨0, true, 37, 4, l.map rFld⟩]) (.int .i64 e) = some (.int .i64 e, []) := rfl
  simp only [fzCells, e1, h1, e2, Option.map_some, List.append_nil]
  rfl
theorem calF_nounit {H : Heap} (e : Int) : calK true H (some (.tup [.nils, .int .i64 e], H)) = some (.tup [eUnit [], .int .i64 e], H) :=
  calK_frz (ids := []) rfl rfl (by simp) (by simp)
theorem f28 (key to : ByteArray) (f n : Int) (H : Heap) : cal (evC cprog) true 28 [.str key, .str to, .int .i64 f, .int .i64 n] H = some (.tup [eUnit (moves key to f n).1, .int .i64 (moves key to f n).2], H) := by
  rw [cal_of at28]
  by_cases hb : mvOk key to f n
  · have hm : moves key to f n = (mvUnit key to f n, 0) := by simp [moves, hb]
    rw [hm]
    obtain ⟨h1, h2, h3, h4, h5, h6⟩ := hb
    have h3' : ¬ f < 0 := by omega
    have h4' : ¬ 4 ≤ f := by omega
    have h5' : ¬ n < 0 := by omega
    have h6' : ¬ 1000000000 < n := by omega
    have hw : IntKind.i64.wrap (n - 1) = n - 1 := wrap_i64 (by omega) (by omega)
    simp only [c28, f47, h1, h2, h3', h4', h5', h6', hw, evW, fn_eq, evR, Nat.reduceAdd, Nat.reduceLT, Nat.reduceLeDiff, reduceIte, Nat.reduceEqDiff, reduceCtorEq, argEnv, eq_self, if_true, if_false]
    repeat' (first | (rw [guardK_cases]; split <;> simp only [c28, f47, h1, h2, h3', h4', h5', h6', hw, evW, evR, Nat.reduceAdd, Nat.reduceLT, Nat.reduceLeDiff, reduceIte, Nat.reduceEqDiff, reduceCtorEq, argEnv, eq_self, if_true, if_false, *]) | (rw [condK_bool]; split <;> simp only [c28, f47, h1, h2, h3', h4', h5', h6', hw, evW, evR, Nat.reduceAdd, Nat.reduceLT, Nat.reduceLeDiff, reduceIte, Nat.reduceEqDiff, reduceCtorEq, argEnv, eq_self, if_true, if_false, *]) | (rw [guardD_cases]; split <;> simp only [c28, f47, h1, h2, h3', h4', h5', h6', hw, evW, evR, Nat.reduceAdd, Nat.reduceLT, Nat.reduceLeDiff, reduceIte, Nat.reduceEqDiff, reduceCtorEq, argEnv, eq_self, if_true, if_false, *]))
    exact calF_unit (mvUnit key to f n) (by simp [mvUnit]) 0
  · have hm : moves key to f n = ([], 2) := by simp [moves, hb]
    rw [hm]
    simp only [c28, f47, evW, fn_eq, evR, Nat.reduceAdd, Nat.reduceLT, Nat.reduceLeDiff, reduceIte, Nat.reduceEqDiff, reduceCtorEq, argEnv, eq_self, if_true, if_false]
    repeat' (first | (rw [guardK_cases]; split <;> simp only [c28, f47, evW, evR, Nat.reduceAdd, Nat.reduceLT, Nat.reduceLeDiff, reduceIte, Nat.reduceEqDiff, reduceCtorEq, argEnv, eq_self, if_true, if_false, *]) | (rw [condK_bool]; split <;> simp only [c28, f47, evW, evR, Nat.reduceAdd, Nat.reduceLT, Nat.reduceLeDiff, reduceIte, Nat.reduceEqDiff, reduceCtorEq, argEnv, eq_self, if_true, if_false, *]) | (rw [guardD_cases]; split <;> simp only [c28, f47, evW, evR, Nat.reduceAdd, Nat.reduceLT, Nat.reduceLeDiff, reduceIte, Nat.reduceEqDiff, reduceCtorEq, argEnv, eq_self, if_true, if_false, *]))
    all_goals first | exact calF_nounit 2 | (exfalso; refine hb ⟨?_, ?_, ?_, ?_, ?_, ?_⟩ <;> first | (simp_all; done) | (simp_all; omega))
theorem f29 (key to : ByteArray) (f n : Int) (H : Heap) : cal (evC cprog) true 29 [.str key, .str to, .int .i64 f, .int .i64 n] H = some (.tup [eUnit (moves key to f n).1, .int .i64 (moves key to f n).2], H) := by
  rw [cal_of at29]
  by_cases hb : mvOk key to f n
  · have hm : moves key to f n = (mvUnit key to f n, 0) := by simp [moves, hb]
    rw [hm]
    obtain ⟨h1, h2, h3, h4, h5, h6⟩ := hb
    simp only [isKey, Bool.and_eq_true, decide_eq_true_eq] at h1 h2
    have h1' : ¬ (key.size : Int) < 1 := by omega
    have h1'' : ¬ 8 < (key.size : Int) := by omega
    have h2' : ¬ (to.size : Int) < 1 := by omega
    have h2'' : ¬ 8 < (to.size : Int) := by omega
    have h3' : ¬ f < 0 := by omega
    have h4' : ¬ 3 < f := by omega
    have h5' : ¬ n < 0 := by omega
    have h6' : ¬ 1000000000 < n := by omega
    have hw : IntKind.i64.wrap (n - 1) = n - 1 := wrap_i64 (by omega) (by omega)
    simp only [c29, h1', h1'', h2', h2'', h3', h4', h5', h6', hw, evW, fn_eq, evR, Nat.reduceAdd, Nat.reduceLT, Nat.reduceLeDiff, reduceIte, Nat.reduceEqDiff, reduceCtorEq, argEnv, eq_self, if_true, if_false]
    repeat' (first | (rw [guardK_cases]; split <;> simp only [c29, h1', h1'', h2', h2'', h3', h4', h5', h6', hw, evW, evR, Nat.reduceAdd, Nat.reduceLT, Nat.reduceLeDiff, reduceIte, Nat.reduceEqDiff, reduceCtorEq, argEnv, eq_self, if_true, if_false, *]) | (rw [condK_bool]; split <;> simp only [c29, h1', h1'', h2', h2'', h3', h4', h5', h6', hw, evW, evR, Nat.reduceAdd, Nat.reduceLT, Nat.reduceLeDiff, reduceIte, Nat.reduceEqDiff, reduceCtorEq, argEnv, eq_self, if_true, if_false, *]) | (rw [guardD_cases]; split <;> simp only [c29, h1', h1'', h2', h2'', h3', h4', h5', h6', hw, evW, evR, Nat.reduceAdd, Nat.reduceLT, Nat.reduceLeDiff, reduceIte, Nat.reduceEqDiff, reduceCtorEq, argEnv, eq_self, if_true, if_false, *]))
    exact calF_unit (mvUnit key to f n) (by simp [mvUnit]) 0
  · have hm : moves key to f n = ([], 2) := by simp [moves, hb]
    rw [hm]
    simp only [c29, evW, fn_eq, evR, Nat.reduceAdd, Nat.reduceLT, Nat.reduceLeDiff, reduceIte, Nat.reduceEqDiff, reduceCtorEq, argEnv, eq_self, if_true, if_false]
    repeat' (first | (rw [guardK_cases]; split <;> simp only [c29, evW, evR, Nat.reduceAdd, Nat.reduceLT, Nat.reduceLeDiff, reduceIte, Nat.reduceEqDiff, reduceCtorEq, argEnv, eq_self, if_true, if_false, *]) | (rw [condK_bool]; split <;> simp only [c29, evW, evR, Nat.reduceAdd, Nat.reduceLT, Nat.reduceLeDiff, reduceIte, Nat.reduceEqDiff, reduceCtorEq, argEnv, eq_self, if_true, if_false, *]) | (rw [guardD_cases]; split <;> simp only [c29, evW, evR, Nat.reduceAdd, Nat.reduceLT, Nat.reduceLeDiff, reduceIte, Nat.reduceEqDiff, reduceCtorEq, argEnv, eq_self, if_true, if_false, *]))
    all_goals first | exact calF_nounit 2 | (exfalso; refine hb ⟨?_, ?_, ?_, ?_, ?_, ?_⟩ <;> first | (simp_all [isKey]; done) | (simp_all [isKey]; omega))
end Go.Proofs.Ytehcdcnghcbimaa.Code

/- Totals stay as they are where an amount moves. -/
set_option linter.unusedSimpArgs false
set_option linter.unusedVariables false
namespace Go.Proofs.Ytehcdcnghcbimaa.Code
open Go.Proofs.Ytehcdcnghcbimaa.Ev

def cellOf (g : Nat) (r : Row) : Int := (r.2[g]?).getD 0
def sumZ (g : Nat) : List Row → Int
  | [] => 0
  | r :: rows => cellOf g r + sumZ g rows
theorem sumZ_append (g : Nat) : ∀ (a b : List Row), sumZ g (a ++ b) = sumZ g a + sumZ g b
  | [], b => by simp [sumZ]
  | r :: a, b => by simp only [List.cons_append, sumZ, sumZ_append g a b]; omega
theorem sumZ_set (g : Nat) : ∀ (rows : List Row) (i : Nat) (r r' : Row), rows[i]? = some r → sumZ g (rows.set i r') = sumZ g rows + (cellOf g r' - cellOf g r)
  | [], i, r, r', h => by simp at h
  | s :: rows, 0, r, r', h => by simp at h; subst h; simp only [List.set_cons_zero, sumZ]; omega
  | s :: rows, i + 1, r, r', h => by
    have := sumZ_set g rows i r r' (by simpa using h)
    simp only [List.set_cons_succ, sumZ, this]; omega
theorem cell_bound {F : Int} {rows : List Row} (hG : GoodRows F rows) {r : Row} (hr : r ∈ rows) (g : Nat) : -1000000000 ≤ cellOf g r ∧ cellOf g r ≤ 1000000000 := by
  unfold cellOf
  cases h : r.2[g]? with
  | none => simp
  | some n =>
    have := (hG r hr).2 n (List.mem_of_getElem? h)
    simpa [isAmount] using this
theorem sumZ_bound {F : Int} (g : Nat) : ∀ (rows : List Row), GoodRows F rows → -1000000000 * (rows.length : Int) ≤ sumZ g rows ∧ sumZ g rows ≤ 1000000000 * (rows.length : Int)
  | [], _ => by simp [sumZ]
  | r :: rows, h => by
    have h1 := cell_bound h (List.mem_cons_self ..) g
    have h2 := sumZ_bound g rows fun s hs => h s (List.mem_cons_of_mem _ hs)
    simp only [sumZ, List.length_cons]
    omega
theorem tot_sum {F : Int} {rows : List Row} (h : valid (F, rows) = true) (g : Nat) : tot g rows = sumZ g rows := by
  have hG := valid_good h
  have hl := (valid_iff.1 h).1.2.2
  have key : ∀ i, i ≤ rows.length → tot g (rows.take i) = sumZ g (rows.take i) := by
    intro i
    induction i with
    | zero => intro _; rfl
    | succ i ih =>
      intro hi
      obtain ⟨r, hr⟩ : ∃ r, rows[i]? = some r := ⟨_, List.getElem?_eq_getElem (by omega)⟩
      have hb := sumZ_bound (F := F) g (rows.take i) fun s hs => hG s (List.mem_of_mem_take hs)
      have hc := cell_bound hG (List.mem_of_getElem? hr) g
      rw [tot_take g rows hr, ih (by omega), show (r.2[g]?).getD 0 = cellOf g r from rfl, List.take_add_one, hr, sumZ_append]
      simp only [Option.toList, sumZ]
      rw [List.length_take, Nat.min_eq_left (by omega)] at hb
      rw [wrap_i64 (by omega) (by omega)]; omega
  have := key rows.length (Nat.le_refl _)
  rwa [List.take_length] at this
/-- what a call that holds does -/
theorem doOne_ok {F : Int} {rows : List Row} {c : Fld} (h : (doOne F rows c).1 = sOk) (hG : GoodRows F rows) : ∃ (i : Nat) (r : Row), rows[i]? = some r ∧ r.1 = c.key ∧ 0 ≤ c.field ∧ c.field < F ∧ (doOne F rows c).2 = rows.set i (r.1, r.2.set c.field.toNat (next c (cellOf c.field.toNat r))) := by
  have h1 : sGE ≠ sOk := by decide
  have h2 : sFI ≠ sOk := by decide
  have h3 : sFV ≠ sOk := by decide
  have h4 : sFO ≠ sOk := by decide
  unfold doOne at h ⊢
  rcases ix_cases c.key rows with hx | ⟨i, r, hx, hr, hk⟩
  · unfold ix at hx
    rw [if_pos (by omega)] at h
    exact absurd h h1
  · unfold ix at hx
    have hvv : valAt rows i c.field.toNat = cellOf c.field.toNat r := by unfold valAt cellOf; rw [hr]
    simp only [hx, Int.toNat_natCast, hvv] at h ⊢
    rw [if_neg (by omega)] at h ⊢
    split at h
    · exact absurd h h2
    · rename_i hf
      split at h
      · exact absurd h h3
      · rename_i hh
        split at h
        · exact absurd h h4
        · rename_i hn
          refine ⟨i, r, hr, hk, by omega, by omega, ?_⟩
          rw [if_neg hf, if_neg hh, if_neg hn]
          simp only [putAt, hr]
theorem cell_set {r : Row} {f g : Nat} {m : Int} (hf : f < r.2.length) : cellOf g (r.1, r.2.set f m) = if g = f then m else cellOf g r := by
  unfold cellOf
  by_cases h : g = f
  · subst h; rw [if_pos rfl, List.getElem?_set_self hf]; rfl
  · rw [if_neg h, List.getElem?_set_ne (fun e => h e.symm)]
theorem sum_one {F : Int} {rows : List Row} {c : Fld} (h : (doOne F rows c).1 = sOk) (hG : GoodRows F rows) (g : Nat) (d : Int) (hd : ∀ v, next c v = v + d) :
    sumZ g (after F rows c) = sumZ g rows + if (g : Int) = c.field then d else 0 := by
  obtain ⟨i, r, hr, _, h1, h2, h3⟩ := doOne_ok h hG
  have hfl : c.field.toNat < r.2.length := by have := (hG r (List.mem_of_getElem? hr)).1; omega
  unfold after
  rw [h3, sumZ_set g rows i r _ hr, cell_set hfl, hd]
  by_cases hg : (g : Int) = c.field
  · have hg' : g = c.field.toNat := by omega
    rw [if_pos hg', if_pos hg]
    subst hg'
    omega
  · rw [if_neg (by omega), if_neg hg]; omega
theorem move_sum {F : Int} {rows : List Row} (hv : valid (F, rows) = true) {key to : ByteArray} {f n : Int} (h : (runUnit F rows (mvUnit key to f n)).1 < 0) (g : Nat) :
    sumZ g (runUnit F rows (mvUnit key to f n)).2 = sumZ g rows := by
  have hG := valid_good hv
  have nk : ∀ (rows : List Row) (c : Fld), bad F rows c = true → ∀ k : Nat, ¬ ((k : Int), after F rows c).1 < 0 := fun _ _ _ k => by simp only; omega
  unfold runUnit mvUnit at h ⊢
  simp only [runIdx] at h ⊢
  split at h
  · omega
  · rename_i h1
    split at h
    · omega
    · rename_i h2
      split at h
      · omega
      · rename_i h3
        rw [if_neg h1, if_neg h2, if_neg h3]
        have ok : ∀ (rows : List Row) (c : Fld), ¬ bad F rows c = true → (doOne F rows c).1 = sOk := fun rows c h => by simpa [bad] using h
        have hG1 := hG.doOne ⟨key, f, sVg, n - 1⟩
        have hG2 := hG1.doOne ⟨key, f, sMi, n⟩
        rw [sum_one (ok _ _ h3) hG2 g n (fun v => by simp [next, sPl, sVe, sVl, sVg]),
          sum_one (ok _ _ h2) hG1 g (-n) (fun v => by simp [next, sMi, sPl, sVe, sVl, sVg]; omega),
          sum_one (ok _ _ h1) hG g 0 (fun v => by simp [next, sVe, sVl, sVg])]
        simp only
        split <;> omega
end Go.Proofs.Ytehcdcnghcbimaa.Code

/- The law FastMoves. -/
set_option linter.unusedSimpArgs false
set_option linter.unusedVariables false
namespace Go.Proofs.Ytehcdcnghcbimaa.Code
open Go.Proofs.Ytehcdcnghcbimaa.Ev Go.RowKit

theorem mv_valid {key to : ByteArray} {f n : Int} (h : mvOk key to f n) : isUnit (mvUnit key to f n) = true := by
  obtain ⟨h1, h2, h3, h4, h5, h6⟩ := h
  have e1 : isAmount (n - 1) = true := by simp [isAmount]; omega
  have e2 : isAmount n = true := by simp [isAmount]; omega
  simp [isUnit, mvUnit, isCall, e1, e2, isOp, ops, sVg, sMi, sPl]
theorem eqs_same (c : Fld) : eqsK true [2, 0, 2, 0] (some (.agg (rFld c))) (some (.agg (rFld c))) = some (.bool false) := by
  simp [eqsK, rFld, cellsEq, cellEq]
theorem l7_0 (l : List Fld) (hl : l.length < 9223372036854775807) (P2 P9 : AV) (H K G : Heap) (st : St)
    (hE : keepEnv st.1 [2, 8, 9, 10, 12] = [(2, P2), (8, eUnit l), (9, P9), (10, eUnit l), (12, .int .i64 0)]) (hH : st.2 = H ++ (K ++ G)) (z : Option (CX × St)) (hz : itLim (evCode (evC cprog) itLim c7_l0) st = z) :
    Lv H K (fun x T => x = .exit 0 ∧ keepEnv T [2, 8, 9] = [(2, P2), (8, eUnit l), (9, P9)]) z := by
  have h4 := (sUnit H l).len
  simp only [List.length_map] at h4
  rcases all_rule l (fun _ => true) [2, 8, 9, 10, 12] (fun k => [(2, P2), (8, eUnit l), (9, P9), (10, eUnit l), (12, .int .i64 (k : Int))]) H K (evCode (evC cprog) itLim c7_l0) (fun x T => x = .exit 0 ∧ keepEnv T [2, 8, 9] = [(2, P2), (8, eUnit l), (9, P9)]) (fun _ _ => False)
    (fun k c hk E G hE => by
      have hlt : k < l.length := (List.getElem?_eq_some_iff.1 hk).1
      have hi : (k : Int) < (l.length : Int) := by omega
      obtain ⟨_, p, hp, hat⟩ := (sUnit H l).get k (rFld c) (by rw [List.getElem?_map, hk]; rfl)
      simp only [c7_l0, hE, hi, h4, hp, hat.aggx (n := 4) rfl, eqs_same, p_eqs, wrapS hlt hl, evW, fn_eq, evR, Nat.reduceAdd, Nat.reduceLT, Nat.reduceLeDiff, reduceIte, Nat.reduceEqDiff, reduceCtorEq, argEnv, eq_self, if_true, if_false]
      repeat' (first | (rw [guardK_cases]; split <;> simp only [c7_l0, hE, hi, h4, hp, hat.aggx (n := 4) rfl, eqs_same, p_eqs, wrapS hlt hl, evW, evR, Nat.reduceAdd, Nat.reduceLT, Nat.reduceLeDiff, reduceIte, Nat.reduceEqDiff, reduceCtorEq, argEnv, eq_self, if_true, if_false, *]) | (rw [condK_bool]; split <;> simp only [c7_l0, hE, hi, h4, hp, hat.aggx (n := 4) rfl, eqs_same, p_eqs, wrapS hlt hl, evW, evR, Nat.reduceAdd, Nat.reduceLT, Nat.reduceLeDiff, reduceIte, Nat.reduceEqDiff, reduceCtorEq, argEnv, eq_self, if_true, if_false, *]) | (rw [guardD_cases]; split <;> simp only [c7_l0, hE, hi, h4, hp, hat.aggx (n := 4) rfl, eqs_same, p_eqs, wrapS hlt hl, evW, evR, Nat.reduceAdd, Nat.reduceLT, Nat.reduceLeDiff, reduceIte, Nat.reduceEqDiff, reduceCtorEq, argEnv, eq_self, if_true, if_false, *]))
      exact Sc.next rfl (by rfl))
    (fun E G hE => by
      simp only [c7_l0, hE, h4, Int.lt_irrefl, evW, fn_eq, evR, Nat.reduceAdd, Nat.reduceLT, Nat.reduceLeDiff, reduceIte, Nat.reduceEqDiff, reduceCtorEq, argEnv, eq_self, if_true, if_false]
      repeat' (first | (rw [guardK_cases]; split <;> simp only [c7_l0, hE, h4, Int.lt_irrefl, evW, evR, Nat.reduceAdd, Nat.reduceLT, Nat.reduceLeDiff, reduceIte, Nat.reduceEqDiff, reduceCtorEq, argEnv, eq_self, if_true, if_false, *]) | (rw [condK_bool]; split <;> simp only [c7_l0, hE, h4, Int.lt_irrefl, evW, evR, Nat.reduceAdd, Nat.reduceLT, Nat.reduceLeDiff, reduceIte, Nat.reduceEqDiff, reduceCtorEq, argEnv, eq_self, if_true, if_false, *]) | (rw [guardD_cases]; split <;> simp only [c7_l0, hE, h4, Int.lt_irrefl, evW, evR, Nat.reduceAdd, Nat.reduceLT, Nat.reduceLeDiff, reduceIte, Nat.reduceEqDiff, reduceCtorEq, argEnv, eq_self, if_true, if_false, *]))
      exact .exit ⟨rfl, by rfl⟩) st G hE hH z hz with ⟨_, h⟩ | ⟨h, _⟩
  · exact h
  · rw [List.all_eq_false] at h
    obtain ⟨_, _, h⟩ := h
    exact absurd rfl h
theorem totals_of {F : Int} {rows : List Row} (hv : valid (F, rows) = true) {i : Nat} (hi : (i : Int) < F) : totals F rows i = (sumZ i rows, 0) := by
  have : ¬ ((i : Int) < 0 ∨ F ≤ (i : Int)) := by omega
  simp only [totals, hv, if_true, if_neg this, Int.toNat_natCast, tot_sum hv]
theorem l7_1 {F : Int} {rows rows' : List Row} (hv : valid (F, rows) = true) (hv' : valid (F, rows') = true) (hs : ∀ g, sumZ g rows' = sumZ g rows) (H K G : Heap) (b b' : Nat) (hb : ∀ G, (H ++ (K ++ G))[H.length + b]? = some ⟨0, true, 24, 2, [[.int .i64 F, .lst (rows.map rRow)]]⟩) (hb' : ∀ G, (H ++ (K ++ G))[H.length + b']? = some ⟨0, true, 24, 2, [[.int .i64 F, .lst (rows'.map rRow)]]⟩) (st : St)
    (hE : keepEnv st.1 [2, 13, 15] = [(2, .ptr (H.length + b) 0 2 0 0), (13, .ptr (H.length + b') 0 2 0 0), (15, .int .i64 0)]) (hH : st.2 = H ++ (K ++ G)) (z : Option (CX × St)) (hz : itLim (evCode (evC cprog) itLim c7_l1) st = z) :
    Lv H K (fun x T => x = .exit 2) z := by
  have hF := (valid_iff.1 hv).1
  have hlen : (List.range F.toNat).length = F.toNat := List.length_range
  rcases all_rule (List.range F.toNat) (fun _ => true) [2, 13, 15] (fun k => [(2, .ptr (H.length + b) 0 2 0 0), (13, .ptr (H.length + b') 0 2 0 0), (15, .int .i64 (k : Int))]) H K (evCode (evC cprog) itLim c7_l1) (fun x T => x = .exit 2) (fun _ _ => False)
    (fun k c hk E G hE => by
      have hlt : k < F.toNat := by have := (List.getElem?_eq_some_iff.1 hk).1; omega
      have hi : (k : Int) < F := by omega
      have h25 := fun H => f25 F rows (valid_bounds hv).1 (valid_bounds hv).2 k H
      have h25' := fun H => f25 F rows' (valid_bounds hv').1 (valid_bounds hv').2 k H
      rw [totals_of hv hi] at h25
      rw [totals_of hv' hi, hs] at h25'
      simp only [c7_l1, hE, hb, hb', hi, h25, h25', wrapS hlt (by omega : F.toNat < 9223372036854775807), evW, fn_eq, evR, Nat.reduceAdd, Nat.reduceLT, Nat.reduceLeDiff, reduceIte, Nat.reduceEqDiff, reduceCtorEq, argEnv, eq_self, if_true, if_false]
      repeat' (first | (rw [guardK_cases]; split <;> simp only [c7_l1, hE, hb, hb', hi, h25, h25', wrapS hlt (by omega : F.toNat < 9223372036854775807), evW, evR, Nat.reduceAdd, Nat.reduceLT, Nat.reduceLeDiff, reduceIte, Nat.reduceEqDiff, reduceCtorEq, argEnv, eq_self, if_true, if_false, *]) | (rw [condK_bool]; split <;> simp only [c7_l1, hE, hb, hb', hi, h25, h25', wrapS hlt (by omega : F.toNat < 9223372036854775807), evW, evR, Nat.reduceAdd, Nat.reduceLT, Nat.reduceLeDiff, reduceIte, Nat.reduceEqDiff, reduceCtorEq, argEnv, eq_self, if_true, if_false, *]) | (rw [guardD_cases]; split <;> simp only [c7_l1, hE, hb, hb', hi, h25, h25', wrapS hlt (by omega : F.toNat < 9223372036854775807), evW, evR, Nat.reduceAdd, Nat.reduceLT, Nat.reduceLeDiff, reduceIte, Nat.reduceEqDiff, reduceCtorEq, argEnv, eq_self, if_true, if_false, *]))
      exact Sc.next rfl (by rfl))
    (fun E G hE => by
      have hn : ¬ (((List.range F.toNat).length : Nat) : Int) < F := by rw [hlen]; omega
      simp only [c7_l1, hE, hb, hn, evW, fn_eq, evR, Nat.reduceAdd, Nat.reduceLT, Nat.reduceLeDiff, reduceIte, Nat.reduceEqDiff, reduceCtorEq, argEnv, eq_self, if_true, if_false]
      repeat' (first | (rw [guardK_cases]; split <;> simp only [c7_l1, hE, hb, hn, evW, evR, Nat.reduceAdd, Nat.reduceLT, Nat.reduceLeDiff, reduceIte, Nat.reduceEqDiff, reduceCtorEq, argEnv, eq_self, if_true, if_false, *]) | (rw [condK_bool]; split <;> simp only [c7_l1, hE, hb, hn, evW, evR, Nat.reduceAdd, Nat.reduceLT, Nat.reduceLeDiff, reduceIte, Nat.reduceEqDiff, reduceCtorEq, argEnv, eq_self, if_true, if_false, *]) | (rw [guardD_cases]; split <;> simp only [c7_l1, hE, hb, hn, evW, evR, Nat.reduceAdd, Nat.reduceLT, Nat.reduceLeDiff, reduceIte, Nat.reduceEqDiff, reduceCtorEq, argEnv, eq_self, if_true, if_false, *]))
      exact .exit rfl) st G hE hH z hz with ⟨_, h⟩ | ⟨h, _⟩
  · exact h
  · rw [List.all_eq_false] at h
    obtain ⟨_, _, h⟩ := h
    exact absurd rfl h
theorem f7 (F : Int) (rows : List Row) (hl : rows.length < 9223372036854775807) (hvl : ∀ r ∈ rows, r.2.length < 9223372036854775807) (key to : ByteArray) (f n : Int) (H : Heap) :
    ∃ H', evFn (evC cprog) itLim c7 [.agg [.int .i64 F, .lst (rows.map rRow)], .agg [.str key, .str to, .int .i64 f, .int .i64 n]] H = some (.bool true, H') := by
  have h10 := fun H => f10 F rows hl _ H (.lst H rows)
  have h17 := fun H => f17 F rows hl hvl _ H (.lst H rows)
  have h28 := fun H => f28 key to f n H
  have h29 := fun H => f29 key to f n H
  have h4 := (sUnit [] (moves key to f n).1).len
  simp only [List.length_map] at h4
  simp only [c7, h10, h28, h29, f11, h4, evX, cells_tab, isTup_tab, evW, fn_eq, evR, Nat.reduceAdd, Nat.reduceLT, Nat.reduceLeDiff, reduceIte, Nat.reduceEqDiff, reduceCtorEq, argEnv, eq_self, if_true, if_false]
  repeat' (first | (rw [guardK_cases]; split <;> simp only [c7, h10, h28, h29, f11, h4, evX, cells_tab, isTup_tab, evW, evR, Nat.reduceAdd, Nat.reduceLT, Nat.reduceLeDiff, reduceIte, Nat.reduceEqDiff, reduceCtorEq, argEnv, eq_self, if_true, if_false, *]) | (rw [condK_bool]; split <;> simp only [c7, h10, h28, h29, f11, h4, evX, cells_tab, isTup_tab, evW, evR, Nat.reduceAdd, Nat.reduceLT, Nat.reduceLeDiff, reduceIte, Nat.reduceEqDiff, reduceCtorEq, argEnv, eq_self, if_true, if_false, *]) | (rw [guardD_cases]; split <;> simp only [c7, h10, h28, h29, f11, h4, evX, cells_tab, isTup_tab, evW, evR, Nat.reduceAdd, Nat.reduceLT, Nat.reduceLeDiff, reduceIte, Nat.reduceEqDiff, reduceCtorEq, argEnv, eq_self, if_true, if_false, *]))
  · exact ⟨_, rfl⟩
  generalize hz : itLim _ _ = z
  have hml : (moves key to f n).1.length < 9223372036854775807 := by
    unfold moves
    split <;> simp [mvUnit]
  obtain ⟨x, T, G, rfl, _, rfl, hT⟩ := l7_0 (moves key to f n).1 hml (.ptr H.length 0 2 0 0) (.int .i64 (moves key to f n).2) H [⟨0, true, 24, 2, [[.int .i64 F, .lst (rows.map rRow)]]⟩, ⟨0, true, 50, 4, [[.str key, .str to, .int .i64 f, .int .i64 n]]⟩, ⟨0, true, 51, 2, [[.int .i64 f, .int .i64 n]]⟩] [] _ (by rfl) (by simp) z hz
  by_cases hm : mvOk key to f n ∧ valid (F, rows) = true
  · obtain ⟨hm, hv⟩ := hm
    have hmv : moves key to f n = (mvUnit key to f n, 0) := by simp [moves, hm]
    have hun := mv_valid hm
    have hask : asked (F, rows) [mvUnit key to f n] = 0 := by simp [asked, hv, hun]
    have hord : orders F rows [mvUnit key to f n] = ((F, (ordered F rows [mvUnit key to f n]).1), (ordered F rows [mvUnit key to f n]).2, 0) := by simp [orders, hask]
    simp only [hmv] at hT hml
    have h23 := f23 F rows hl hvl [mvUnit key to f n] _ _ (.ref (b := H.length + (G.length + 3)) (v := 0) (off := 0) (rows := [[eUnit (mvUnit key to f n)]]) (H := H ++ ([⟨0, true, 24, 2, [[.int .i64 F, .lst (rows.map rRow)]]⟩, ⟨0, true, 50, 4, [[.str key, .str to, .int .i64 f, .int .i64 n]]⟩, ⟨0, true, 51, 2, [[.int .i64 f, .int .i64 n]]⟩] ++ G ++ [⟨0, true, 25, 1, [[eUnit (mvUnit key to f n)]]⟩])) (k := ⟨0, true, 25, 1, [[eUnit (mvUnit key to f n)]]⟩) (by simp only [curBlk_eq, at_app, List.append_assoc, List.cons_append, List.nil_append, List.getElem?_cons_succ, at_app0]; rfl) fun i row hi => by
          rw [Nat.zero_add]
          refine ⟨?_, hi⟩
          have := List.mem_of_getElem? hi
          simp at this
          rw [this]; rfl) (by simp) (by simpa using hml)
    rw [hord] at h23
    simp only [evR, Nat.reduceAdd, Nat.reduceLT, Nat.reduceLeDiff, reduceIte, Nat.reduceEqDiff, reduceCtorEq, argEnv, eq_self, if_true, if_false] at h23
    have hc1 : (((1 : Nat) : Int) = 1) = True := by simp
    have lfp : ∀ (H : Heap) (a : AV), loadK false 1 H (some (.fptr [a])) = some a := fun _ _ => rfl
    have hl1 : ((List.length [[AV.bool true]] : Nat) : Int) = 1 := rfl
    have loop : ∀ (rows' : List Row), valid (F, rows') = true → (∀ g, sumZ g rows' = sumZ g rows) → ∀ z, itLim (evCode (evC cprog) itLim c7_l1) ([(15, .int .i64 0), (2, .ptr H.length 0 2 0 0), (13, .ptr (H.length + (G.length + 4)) 0 2 0 0)], H ++ (⟨0, true, 24, 2, [[.int .i64 F, .lst (rows.map rRow)]]⟩ :: ⟨0, true, 50, 4, [[.str key, .str to, .int .i64 f, .int .i64 n]]⟩ :: ⟨0, true, 51, 2, [[.int .i64 f, .int .i64 n]]⟩ :: (G ++ [⟨0, true, 25, 1, [[eUnit (mvUnit key to f n)]]⟩, ⟨0, true, 24, 2, [[.int .i64 F, .lst (rows'.map rRow)]]⟩]))) = z → ∃ T H', z = some (.exit 2, T, H') := fun rows' hv' hs z hz => by
      obtain ⟨x, T, G', rfl, _, rfl⟩ := l7_1 hv hv' hs H ([⟨0, true, 24, 2, [[.int .i64 F, .lst (rows.map rRow)]]⟩, ⟨0, true, 50, 4, [[.str key, .str to, .int .i64 f, .int .i64 n]]⟩, ⟨0, true, 51, 2, [[.int .i64 f, .int .i64 n]]⟩] ++ G ++ [⟨0, true, 25, 1, [[eUnit (mvUnit key to f n)]]⟩, ⟨0, true, 24, 2, [[.int .i64 F, .lst (rows'.map rRow)]]⟩]) [] 0 (G.length + 4)
        (fun X => by simp only [evR, Nat.reduceAdd, Nat.reduceLT, Nat.reduceLeDiff, reduceIte, Nat.reduceEqDiff, reduceCtorEq, argEnv, eq_self, if_true, if_false]) (fun X => by simp only [evR, Nat.reduceAdd, Nat.reduceLT, Nat.reduceLeDiff, reduceIte, Nat.reduceEqDiff, reduceCtorEq, argEnv, eq_self, if_true, if_false]) _ (by rfl) (by simp) z hz
      exact ⟨T, _, rfl⟩
    by_cases hq : (runUnit F rows (mvUnit key to f n)).1 < 0
    · have ho : ordered F rows [mvUnit key to f n] = ((runUnit F rows (mvUnit key to f n)).2, [true]) := by simp [ordered, hq]
      rw [ho] at h23
      have hlp := loop _ (valid_run hv _) (fun g => move_sum hv hq g)
      simp only [hT, hmv, hv, h17, h23, hc1, lfp, f11, evX, List.map_cons, List.map_nil, rBool, cells_tab, isTup_tab, cells_unit, isTup_unit, evW, fn_eq, evR, Nat.reduceAdd, Nat.reduceLT, Nat.reduceLeDiff, reduceIte, Nat.reduceEqDiff, reduceCtorEq, argEnv, eq_self, if_true, if_false]
      repeat' (first | (rw [guardK_cases]; split <;> simp only [hT, hmv, hv, h17, h23, hc1, lfp, f11, evX, List.map_cons, List.map_nil, rBool, cells_tab, isTup_tab, cells_unit, isTup_unit, evW, evR, Nat.reduceAdd, Nat.reduceLT, Nat.reduceLeDiff, reduceIte, Nat.reduceEqDiff, reduceCtorEq, argEnv, eq_self, if_true, if_false, *]) | (rw [condK_bool]; split <;> simp only [hT, hmv, hv, h17, h23, hc1, lfp, f11, evX, List.map_cons, List.map_nil, rBool, cells_tab, isTup_tab, cells_unit, isTup_unit, evW, evR, Nat.reduceAdd, Nat.reduceLT, Nat.reduceLeDiff, reduceIte, Nat.reduceEqDiff, reduceCtorEq, argEnv, eq_self, if_true, if_false, *]) | (rw [guardD_cases]; split <;> simp only [hT, hmv, hv, h17, h23, hc1, lfp, f11, evX, List.map_cons, List.map_nil, rBool, cells_tab, isTup_tab, cells_unit, isTup_unit, evW, evR, Nat.reduceAdd, Nat.reduceLT, Nat.reduceLeDiff, reduceIte, Nat.reduceEqDiff, reduceCtorEq, argEnv, eq_self, if_true, if_false, *]))
      generalize hz : itLim _ _ = z
      obtain ⟨T', H', rfl⟩ := hlp z hz
      simp only [f11, evW, fn_eq, evR, Nat.reduceAdd, Nat.reduceLT, Nat.reduceLeDiff, reduceIte, Nat.reduceEqDiff, reduceCtorEq, argEnv, eq_self, if_true, if_false]
      repeat' (first | (rw [guardK_cases]; split <;> simp only [f11, evW, evR, Nat.reduceAdd, Nat.reduceLT, Nat.reduceLeDiff, reduceIte, Nat.reduceEqDiff, reduceCtorEq, argEnv, eq_self, if_true, if_false, *]) | (rw [condK_bool]; split <;> simp only [f11, evW, evR, Nat.reduceAdd, Nat.reduceLT, Nat.reduceLeDiff, reduceIte, Nat.reduceEqDiff, reduceCtorEq, argEnv, eq_self, if_true, if_false, *]) | (rw [guardD_cases]; split <;> simp only [f11, evW, evR, Nat.reduceAdd, Nat.reduceLT, Nat.reduceLeDiff, reduceIte, Nat.reduceEqDiff, reduceCtorEq, argEnv, eq_self, if_true, if_false, *]))
      exact ⟨_, rfl⟩
    · have ho : ordered F rows [mvUnit key to f n] = (rows, [false]) := by simp [ordered, hq]
      rw [ho] at h23
      have hlp := loop rows hv (fun g => rfl)
      have h20 := fun H => f20 F F rows rows _ _ H (.lst H rows) (.lst H rows) hl hvl
      rw [tell_pos ⟨rfl, rfl⟩] at h20
      simp only [hT, hmv, hv, h17, h20, h23, hc1, lfp, f11, evX, List.map_cons, List.map_nil, rBool, cells_tab, isTup_tab, cells_unit, isTup_unit, evW, fn_eq, evR, Nat.reduceAdd, Nat.reduceLT, Nat.reduceLeDiff, reduceIte, Nat.reduceEqDiff, reduceCtorEq, argEnv, eq_self, if_true, if_false]
      repeat' (first | (rw [guardK_cases]; split <;> simp only [hT, hmv, hv, h17, h20, h23, hc1, lfp, f11, evX, List.map_cons, List.map_nil, rBool, cells_tab, isTup_tab, cells_unit, isTup_unit, evW, evR, Nat.reduceAdd, Nat.reduceLT, Nat.reduceLeDiff, reduceIte, Nat.reduceEqDiff, reduceCtorEq, argEnv, eq_self, if_true, if_false, *]) | (rw [condK_bool]; split <;> simp only [hT, hmv, hv, h17, h20, h23, hc1, lfp, f11, evX, List.map_cons, List.map_nil, rBool, cells_tab, isTup_tab, cells_unit, isTup_unit, evW, evR, Nat.reduceAdd, Nat.reduceLT, Nat.reduceLeDiff, reduceIte, Nat.reduceEqDiff, reduceCtorEq, argEnv, eq_self, if_true, if_false, *]) | (rw [guardD_cases]; split <;> simp only [hT, hmv, hv, h17, h20, h23, hc1, lfp, f11, evX, List.map_cons, List.map_nil, rBool, cells_tab, isTup_tab, cells_unit, isTup_unit, evW, evR, Nat.reduceAdd, Nat.reduceLT, Nat.reduceLeDiff, reduceIte, Nat.reduceEqDiff, reduceCtorEq, argEnv, eq_self, if_true, if_false, *]))
      generalize hz : itLim _ _ = z
      obtain ⟨T', H', rfl⟩ := hlp z hz
      simp only [f11, evW, fn_eq, evR, Nat.reduceAdd, Nat.reduceLT, Nat.reduceLeDiff, reduceIte, Nat.reduceEqDiff, reduceCtorEq, argEnv, eq_self, if_true, if_false]
      repeat' (first | (rw [guardK_cases]; split <;> simp only [f11, evW, evR, Nat.reduceAdd, Nat.reduceLT, Nat.reduceLeDiff, reduceIte, Nat.reduceEqDiff, reduceCtorEq, argEnv, eq_self, if_true, if_false, *]) | (rw [condK_bool]; split <;> simp only [f11, evW, evR, Nat.reduceAdd, Nat.reduceLT, Nat.reduceLeDiff, reduceIte, Nat.reduceEqDiff, reduceCtorEq, argEnv, eq_self, if_true, if_false, *]) | (rw [guardD_cases]; split <;> simp only [f11, evW, evR, Nat.reduceAdd, Nat.reduceLT, Nat.reduceLeDiff, reduceIte, Nat.reduceEqDiff, reduceCtorEq, argEnv, eq_self, if_true, if_false, *]))
      exact ⟨_, rfl⟩
  · have hcond : ¬ (decide ((moves key to f n).2 = 0) = true ∧ valid (F, rows) = true) := fun ⟨h1, h2⟩ => by
      refine hm ⟨?_, h2⟩
      unfold moves at h1
      split at h1
      · assumption
      · simp at h1
    simp only [hT, h17, f11, cells_tab, isTup_tab, evW, fn_eq, evR, Nat.reduceAdd, Nat.reduceLT, Nat.reduceLeDiff, reduceIte, Nat.reduceEqDiff, reduceCtorEq, argEnv, eq_self, if_true, if_false]
    repeat' (first | (rw [guardK_cases]; split <;> simp only [hT, h17, f11, cells_tab, isTup_tab, evW, evR, Nat.reduceAdd, Nat.reduceLT, Nat.reduceLeDiff, reduceIte, Nat.reduceEqDiff, reduceCtorEq, argEnv, eq_self, if_true, if_false, *]) | (rw [condK_bool]; split <;> simp only [hT, h17, f11, cells_tab, isTup_tab, evW, evR, Nat.reduceAdd, Nat.reduceLT, Nat.reduceLeDiff, reduceIte, Nat.reduceEqDiff, reduceCtorEq, argEnv, eq_self, if_true, if_false, *]) | (rw [guardD_cases]; split <;> simp only [hT, h17, f11, cells_tab, isTup_tab, evW, evR, Nat.reduceAdd, Nat.reduceLT, Nat.reduceLeDiff, reduceIte, Nat.reduceEqDiff, reduceCtorEq, argEnv, eq_self, if_true, if_false, *]))
    all_goals first | exact ⟨_, rfl⟩ | (exfalso; simp_all; done)
theorem open_mv {a : AV} (h : ArgTy true [.str, .str, .int .i64, .int .i64] a) : ∃ (k t : ByteArray) (f n : Int), a = .agg [.str k, .str t, .int .i64 f, .int .i64 n] := by
  obtain ⟨bs, rfl, h⟩ := h
  simp only [HasL.eq_2, HasL.eq_1, Has] at h
  obtain ⟨x, xs, rfl, ⟨s, rfl, _⟩, y, ys, rfl, ⟨f, rfl, _⟩, z, zs, rfl, ⟨o, rfl, _⟩, w, ws, rfl, ⟨n, rfl, _⟩, rfl⟩ := h
  exact ⟨s, f, o, n, rfl⟩
end Go.Proofs.Ytehcdcnghcbimaa.Code
namespace Go.Proofs.Ytehcdcnghcbimaa.Pure
open Go.Proofs.Ytehcdcnghcbimaa.Ev Go.Proofs.Ytehcdcnghcbimaa.Code
theorem FastMoves (a0 : AV) (t0 : ArgTy true [.int .i64, .sl [.str, .sl [.int .i64]]] a0) (a1 : AV) (t1 : ArgTy true [.str, .str, .int .i64, .int .i64] a1) : ∃ H', evC cprog 7 [a0, a1] [] = some (.bool true, H') := by
  obtain ⟨F, rows, rfl, h1, h2⟩ := open_table t0
  obtain ⟨k, t, f, n, rfl⟩ := open_mv t1
  unfold reachBytes at h1 h2
  rw [evC_fn at7]
  exact f7 F rows (by omega) (fun r hr => by have := h2 r hr; omega) k t f n []
end Go.Proofs.Ytehcdcnghcbimaa.Pure

