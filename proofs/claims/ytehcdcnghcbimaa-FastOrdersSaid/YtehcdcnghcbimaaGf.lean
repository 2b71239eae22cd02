/- The document's Order, whole; totals. -/
import Derived.Test.YtehcdcnghcbimaaGe
set_option linter.unusedSimpArgs false
set_option linter.unusedVariables false
namespace Go.Proofs.Ytehcdcnghcbimaa.Code
open Go.Proofs.Ytehcdcnghcbimaa.Ev

theorem valid_bounds {F : Int} {rows : List Row} (h : valid (F, rows) = true) : rows.length < 9223372036854775807 ∧ ∀ r ∈ rows, r.2.length < 9223372036854775807 := by
  have h1 := (valid_iff.1 h).1
  exact ⟨by omega, fun r hr => by have := (valid_good h r hr).1; omega⟩
theorem l24 {F : Int} (uv : AV) (H : Heap) (n : Nat) (hn : n = H.length) (us : List (List Fld)) (hs : SlAt H 1 uv (us.map rUnit)) (hu : ∀ l ∈ us, l.length < 9223372036854775807 ∧ isUnit l = true) (hul : us.length ≤ 1000000) (P4 : AV) (rows : List Row) (hR : valid (F, rows) = true)
    (st : St) (hE : keepEnv st.1 [1, 4, 8, 9, 10] = [(1, uv), (4, P4), (8, .ptr n 0 2 0 0), (9, .nils), (10, .int .i64 0)])
    (hH : st.2 = H ++ [⟨0, true, 24, 2, [[.int .i64 F, .lst (rows.map rRow)]]⟩]) (z : Option (CX × St)) (hz : itLim (evCode (evC cprog) itLim c24_l1) st = z) :
    ∃ T X sv, z = some (.exit 2, T, H ++ (⟨0, true, 24, 2, [[.int .i64 F, .lst ((ordered F rows us).1.map rRow)]]⟩ :: X)) ∧ keepEnv T [4, 8, 9] = [(4, P4), (8, .ptr n 0 2 0 0), (9, sv)] ∧
      Out (n + 1) 1 4 X sv ((ordered F rows us).2.map rBool) := by
  subst hn
  have hlen := hs.len
  simp only [List.length_map] at hlen
  have L := loop_rule (σ := Nat × List Row × List Bool × Heap × AV) (m := [1, 4, 8, 9, 10]) (env := fun i => [(1, uv), (4, P4), (8, .ptr H.length 0 2 0 0), (9, i.2.2.2.2), (10, .int .i64 (i.1 : Int))])
    (hp := fun i => H ++ (⟨0, true, 24, 2, [[.int .i64 F, .lst (i.2.1.map rRow)]]⟩ :: i.2.2.2.1))
    (P := fun i r => ∃ T X sv, r = (.exit 2, T, H ++ (⟨0, true, 24, 2, [[.int .i64 F, .lst ((ordered F i.2.1 (us.drop i.1)).1.map rRow)]]⟩ :: X)) ∧ keepEnv T [4, 8, 9] = [(4, P4), (8, .ptr H.length 0 2 0 0), (9, sv)] ∧
      Out (H.length + 1) 1 4 X sv ((i.2.2.1 ++ (ordered F i.2.1 (us.drop i.1)).2).map rBool))
    (mu := fun i => us.length - i.1) (I := fun i => i.1 ≤ us.length ∧ valid (F, i.2.1) = true ∧ i.2.2.1.length = i.1 ∧ Out (H.length + 1) 1 4 i.2.2.2.1 i.2.2.2.2 (i.2.2.1.map rBool)) (evCode (evC cprog) itLim c24_l1) ?_ (0, rows, [], [], .nils) st ⟨Nat.zero_le _, hR, rfl, .nils ..⟩ hE hH z hz
  · obtain ⟨r, rfl, T, X, sv, rfl, h2, h3⟩ := L
    exact ⟨T, X, sv, rfl, h2, h3⟩
  · intro ⟨i, rows, bs, X, sv⟩ ⟨hi, hI, hbl, hO⟩ E hE
    simp only at hi hI hbl hO hE ⊢
    by_cases hlt : i < us.length
    · obtain ⟨l, hx⟩ : ∃ l, us[i]? = some l := ⟨_, List.getElem?_eq_getElem hlt⟩
      have hd : us.drop i = l :: us.drop (i + 1) := by
        rw [List.drop_eq_getElem_cons hlt]
        rw [List.getElem?_eq_getElem hlt] at hx
        cases hx; rfl
      have hi1 : (i : Int) < (us.length : Int) := by omega
      obtain ⟨hu1, hu2⟩ := hu l (List.mem_of_getElem? hx)
      obtain ⟨_, p, hp, hat⟩ := hs.get i (rUnit l) (by rw [List.getElem?_map, hx]; rfl)
      have h15 := fun H => f15 F rows (valid_bounds hI).1 (valid_bounds hI).2 l hu1 H
      have hap := fun B8 Y a => out_app (hO.more Y) 1 (H ++ [B8]) (by simp) a
      simp only [List.append_assoc, List.cons_append, List.nil_append] at hap
      have hbnd : (bs.map rBool).length + 1 ≤ reach := by simp only [List.length_map, reach]; omega
      have e : ordered F rows (us.drop i) = ((ordered F (if (runUnit F rows l).1 < 0 then (runUnit F rows l).2 else rows) (us.drop (i + 1))).1, decide ((runUnit F rows l).1 < 0) :: (ordered F (if (runUnit F rows l).1 < 0 then (runUnit F rows l).2 else rows) (us.drop (i + 1))).2) := by
        rw [hd]; rfl
      rw [syncs_of hI hu2] at h15
      by_cases hq : (runUnit F rows l).1 < 0
      · simp only [hq, if_true, decide_true] at e h15
        simp only [c24_l1, hE, hlen, hi1, hp, hat.onex, h15, cells_tab, isTup_tab, hap, src_ref, apO_cons, Nat.mul_one, hbnd, wrapS hlt (by omega : us.length < 9223372036854775807), evW, fn_eq, evR, Nat.reduceAdd, Nat.reduceLT, Nat.reduceLeDiff, reduceIte, Nat.reduceEqDiff, reduceCtorEq, argEnv, eq_self, if_true, if_false]
        repeat' (first | (rw [guardK_cases]; split <;> simp only [c24_l1, hE, hlen, hi1, hp, hat.onex, h15, cells_tab, isTup_tab, hap, src_ref, apO_cons, Nat.mul_one, hbnd, wrapS hlt (by omega : us.length < 9223372036854775807), evW, evR, Nat.reduceAdd, Nat.reduceLT, Nat.reduceLeDiff, reduceIte, Nat.reduceEqDiff, reduceCtorEq, argEnv, eq_self, if_true, if_false, *]) | (rw [condK_bool]; split <;> simp only [c24_l1, hE, hlen, hi1, hp, hat.onex, h15, cells_tab, isTup_tab, hap, src_ref, apO_cons, Nat.mul_one, hbnd, wrapS hlt (by omega : us.length < 9223372036854775807), evW, evR, Nat.reduceAdd, Nat.reduceLT, Nat.reduceLeDiff, reduceIte, Nat.reduceEqDiff, reduceCtorEq, argEnv, eq_self, if_true, if_false, *]) | (rw [guardD_cases]; split <;> simp only [c24_l1, hE, hlen, hi1, hp, hat.onex, h15, cells_tab, isTup_tab, hap, src_ref, apO_cons, Nat.mul_one, hbnd, wrapS hlt (by omega : us.length < 9223372036854775807), evW, evR, Nat.reduceAdd, Nat.reduceLT, Nat.reduceLeDiff, reduceIte, Nat.reduceEqDiff, reduceCtorEq, argEnv, eq_self, if_true, if_false, *]))
        exact q_next (i + 1, (runUnit F rows l).2, bs ++ [true], _, _) (by rfl) rfl ⟨by omega, valid_run hI l, by simp [hbl], by rw [List.map_append]; exact (hO.more _).step (by simp)⟩ (by simp only; omega) (fun r h => by simp only [e]; simpa using h)
      · simp only [hq, if_false, decide_false] at e h15
        have h212 : decide ((212 : Int) = 0) = false := by decide
        simp only [c24_l1, hE, hlen, hi1, hp, hat.onex, h15, h212, cells_tab, isTup_tab, hap, src_ref, apO_cons, Nat.mul_one, hbnd, wrapS hlt (by omega : us.length < 9223372036854775807), evW, fn_eq, evR, Nat.reduceAdd, Nat.reduceLT, Nat.reduceLeDiff, reduceIte, Nat.reduceEqDiff, reduceCtorEq, argEnv, eq_self, if_true, if_false]
        repeat' (first | (rw [guardK_cases]; split <;> simp only [c24_l1, hE, hlen, hi1, hp, hat.onex, h15, h212, cells_tab, isTup_tab, hap, src_ref, apO_cons, Nat.mul_one, hbnd, wrapS hlt (by omega : us.length < 9223372036854775807), evW, evR, Nat.reduceAdd, Nat.reduceLT, Nat.reduceLeDiff, reduceIte, Nat.reduceEqDiff, reduceCtorEq, argEnv, eq_self, if_true, if_false, *]) | (rw [condK_bool]; split <;> simp only [c24_l1, hE, hlen, hi1, hp, hat.onex, h15, h212, cells_tab, isTup_tab, hap, src_ref, apO_cons, Nat.mul_one, hbnd, wrapS hlt (by omega : us.length < 9223372036854775807), evW, evR, Nat.reduceAdd, Nat.reduceLT, Nat.reduceLeDiff, reduceIte, Nat.reduceEqDiff, reduceCtorEq, argEnv, eq_self, if_true, if_false, *]) | (rw [guardD_cases]; split <;> simp only [c24_l1, hE, hlen, hi1, hp, hat.onex, h15, h212, cells_tab, isTup_tab, hap, src_ref, apO_cons, Nat.mul_one, hbnd, wrapS hlt (by omega : us.length < 9223372036854775807), evW, evR, Nat.reduceAdd, Nat.reduceLT, Nat.reduceLeDiff, reduceIte, Nat.reduceEqDiff, reduceCtorEq, argEnv, eq_self, if_true, if_false, *]))
        exact q_next (i + 1, rows, bs ++ [false], _, _) (by rfl) rfl ⟨by omega, hI, by simp [hbl], by rw [List.map_append]; exact (hO.more _).step (by simp)⟩ (by simp only; omega) (fun r h => by simp only [e]; simpa using h)
    · have : i = us.length := by omega
      subst this
      simp only [c24_l1, hE, hlen, Int.lt_irrefl, evW, fn_eq, evR, Nat.reduceAdd, Nat.reduceLT, Nat.reduceLeDiff, reduceIte, Nat.reduceEqDiff, reduceCtorEq, argEnv, eq_self, if_true, if_false]
      repeat' (first | (rw [guardK_cases]; split <;> simp only [c24_l1, hE, hlen, Int.lt_irrefl, evW, evR, Nat.reduceAdd, Nat.reduceLT, Nat.reduceLeDiff, reduceIte, Nat.reduceEqDiff, reduceCtorEq, argEnv, eq_self, if_true, if_false, *]) | (rw [condK_bool]; split <;> simp only [c24_l1, hE, hlen, Int.lt_irrefl, evW, evR, Nat.reduceAdd, Nat.reduceLT, Nat.reduceLeDiff, reduceIte, Nat.reduceEqDiff, reduceCtorEq, argEnv, eq_self, if_true, if_false, *]) | (rw [guardD_cases]; split <;> simp only [c24_l1, hE, hlen, Int.lt_irrefl, evW, evR, Nat.reduceAdd, Nat.reduceLT, Nat.reduceLeDiff, reduceIte, Nat.reduceEqDiff, reduceCtorEq, argEnv, eq_self, if_true, if_false, *]))
      refine q_exit ?_
      simp only [List.drop_length, ordered, List.append_nil]
      exact ⟨_, X, sv, rfl, by rfl, hO⟩
theorem f24 (F : Int) (rows : List Row) (hl : rows.length < 9223372036854775807) (hvl : ∀ r ∈ rows, r.2.length < 9223372036854775807) (us : List (List Fld)) (uv : AV) (H : Heap) (hs : SlAt H 1 uv (us.map rUnit)) (hul : us.length < 9223372036854775807) (hu : ∀ l ∈ us, l.length < 9223372036854775807) :
    cal (evC cprog) true 24 [.agg [.int .i64 F, .lst (rows.map rRow)], uv] H = some (.tup [eTab (orders F rows us).1, .lst ((orders F rows us).2.1.map rBool), .int .i64 (orders F rows us).2.2], H) := by
  have h17 := fun H => f17 F rows hl hvl _ H (.lst H rows)
  have hlen := hs.len
  simp only [List.length_map] at hlen
  have hcalE : ∀ e Y, calK true H (some (.tup [.agg [.int .i64 0, .nils], .nils, .int .i64 e], H ++ (⟨0, true, 24, 2, [[.int .i64 F, .lst (rows.map rRow)]]⟩ :: ⟨0, true, 24, 2, [[.int .i64 0, .nils]]⟩ :: Y))) = some (.tup [eTab (0, []), .lst (([] : List Bool).map rBool), .int .i64 e], H) := fun e Y =>
    calF_order (Y := [_, _]) (X := Y) (rows := []) (n := H.length + 2) (sv := .nils) (bs := []) (fun _ => rfl) (.nils ..) rfl
  rw [cal_of at24]
  by_cases hv : valid (F, rows) = true
  · simp only [hv] at h17
    have hlp := l24_0 (.ptr H.length 0 2 0 0) (.ptr (H.length + 1) 0 2 0 0) us uv H [⟨0, true, 24, 2, [[.int .i64 F, .lst (rows.map rRow)]]⟩, ⟨0, true, 24, 2, [[.int .i64 0, .nils]]⟩] [] hs hul hu 1 rfl _ rfl rfl
    simp only [c24, h17, evW, fn_eq, evR, Nat.reduceAdd, Nat.reduceLT, Nat.reduceLeDiff, reduceIte, Nat.reduceEqDiff, reduceCtorEq, argEnv, eq_self, if_true, if_false]
    repeat' (first | (rw [guardK_cases]; split <;> simp only [c24, h17, evW, evR, Nat.reduceAdd, Nat.reduceLT, Nat.reduceLeDiff, reduceIte, Nat.reduceEqDiff, reduceCtorEq, argEnv, eq_self, if_true, if_false, *]) | (rw [condK_bool]; split <;> simp only [c24, h17, evW, evR, Nat.reduceAdd, Nat.reduceLT, Nat.reduceLeDiff, reduceIte, Nat.reduceEqDiff, reduceCtorEq, argEnv, eq_self, if_true, if_false, *]) | (rw [guardD_cases]; split <;> simp only [c24, h17, evW, evR, Nat.reduceAdd, Nat.reduceLT, Nat.reduceLeDiff, reduceIte, Nat.reduceEqDiff, reduceCtorEq, argEnv, eq_self, if_true, if_false, *]))
    generalize hz : itLim _ _ = z
    rcases hlp _ (by rfl) (by simp) z hz with ⟨ha, x, T, G, rfl, _, rfl, hT⟩ | ⟨ha, x, T, G, rfl, _, rfl, hT⟩
    · have hask : asked (F, rows) us = 0 := by simp [asked, hv]; exact fun x hx => List.all_eq_true.1 ha x hx
      by_cases hq : 20 < us.length
      · have ho : orders F rows us = ((0, []), [], 2) := by simp [orders, hask, hq]
        have hq' : 20 < (us.length : Int) := by omega
        rw [ho]
        simp only [hT, hlen, hq', evW, fn_eq, evR, Nat.reduceAdd, Nat.reduceLT, Nat.reduceLeDiff, reduceIte, Nat.reduceEqDiff, reduceCtorEq, argEnv, eq_self, if_true, if_false]
        repeat' (first | (rw [guardK_cases]; split <;> simp only [hT, hlen, hq', evW, evR, Nat.reduceAdd, Nat.reduceLT, Nat.reduceLeDiff, reduceIte, Nat.reduceEqDiff, reduceCtorEq, argEnv, eq_self, if_true, if_false, *]) | (rw [condK_bool]; split <;> simp only [hT, hlen, hq', evW, evR, Nat.reduceAdd, Nat.reduceLT, Nat.reduceLeDiff, reduceIte, Nat.reduceEqDiff, reduceCtorEq, argEnv, eq_self, if_true, if_false, *]) | (rw [guardD_cases]; split <;> simp only [hT, hlen, hq', evW, evR, Nat.reduceAdd, Nat.reduceLT, Nat.reduceLeDiff, reduceIte, Nat.reduceEqDiff, reduceCtorEq, argEnv, eq_self, if_true, if_false, *]))
        exact hcalE 2 G
      · have ho : orders F rows us = ((F, (ordered F rows us).1), (ordered F rows us).2, 0) := by simp [orders, hask, hq]
        have hq' : ¬ 20 < (us.length : Int) := by omega
        obtain ⟨hG, hv2, hl'⟩ := asked_good hask
        have h59 := fun H => f59F F rows hl' hv2 H
        rw [ho]
        simp only [hT, hlen, hq', h59, cells_tab, isTup_tab, evW, fn_eq, evR, Nat.reduceAdd, Nat.reduceLT, Nat.reduceLeDiff, reduceIte, Nat.reduceEqDiff, reduceCtorEq, argEnv, eq_self, if_true, if_false]
        repeat' (first | (rw [guardK_cases]; split <;> simp only [hT, hlen, hq', h59, cells_tab, isTup_tab, evW, evR, Nat.reduceAdd, Nat.reduceLT, Nat.reduceLeDiff, reduceIte, Nat.reduceEqDiff, reduceCtorEq, argEnv, eq_self, if_true, if_false, *]) | (rw [condK_bool]; split <;> simp only [hT, hlen, hq', h59, cells_tab, isTup_tab, evW, evR, Nat.reduceAdd, Nat.reduceLT, Nat.reduceLeDiff, reduceIte, Nat.reduceEqDiff, reduceCtorEq, argEnv, eq_self, if_true, if_false, *]) | (rw [guardD_cases]; split <;> simp only [hT, hlen, hq', h59, cells_tab, isTup_tab, evW, evR, Nat.reduceAdd, Nat.reduceLT, Nat.reduceLeDiff, reduceIte, Nat.reduceEqDiff, reduceCtorEq, argEnv, eq_self, if_true, if_false, *]))
        generalize hz : itLim _ _ = z
        obtain ⟨T', X, sv, rfl, hT', hO⟩ := l24 uv (H ++ ([⟨0, true, 24, 2, [[.int .i64 F, .lst (rows.map rRow)]]⟩, ⟨0, true, 24, 2, [[.int .i64 0, .nils]]⟩] ++ G)) (H.length + (G.length + 2)) (by simp) us (hs.app _) (fun l hl => ⟨hu l hl, List.all_eq_true.1 ha l hl⟩) (by omega) (.ptr (H.length + 1) 0 2 0 0) rows hv _ (by rfl) (by simp) z hz
        simp only [hT', out_tup hO, cells_tab, isTup_tab, evW, fn_eq, evR, Nat.reduceAdd, Nat.reduceLT, Nat.reduceLeDiff, reduceIte, Nat.reduceEqDiff, reduceCtorEq, argEnv, eq_self, if_true, if_false]
        repeat' (first | (rw [guardK_cases]; split <;> simp only [hT', out_tup hO, cells_tab, isTup_tab, evW, evR, Nat.reduceAdd, Nat.reduceLT, Nat.reduceLeDiff, reduceIte, Nat.reduceEqDiff, reduceCtorEq, argEnv, eq_self, if_true, if_false, *]) | (rw [condK_bool]; split <;> simp only [hT', out_tup hO, cells_tab, isTup_tab, evW, evR, Nat.reduceAdd, Nat.reduceLT, Nat.reduceLeDiff, reduceIte, Nat.reduceEqDiff, reduceCtorEq, argEnv, eq_self, if_true, if_false, *]) | (rw [guardD_cases]; split <;> simp only [hT', out_tup hO, cells_tab, isTup_tab, evW, evR, Nat.reduceAdd, Nat.reduceLT, Nat.reduceLeDiff, reduceIte, Nat.reduceEqDiff, reduceCtorEq, argEnv, eq_self, if_true, if_false, *]))
        have hc := calF_order (H := H) (Y := [⟨0, true, 24, 2, [[.int .i64 F, .lst (rows.map rRow)]]⟩, ⟨0, true, 24, 2, [[.int .i64 F, .lst ((ordered F rows us).1.map rRow)]]⟩] ++ G ++ [⟨0, true, 24, 2, [[.int .i64 F, .lst ((ordered F rows us).1.map rRow)]]⟩]) (X := X) (F := F) (e := 0) (rows := (ordered F rows us).1) (tv := .lst ((ordered F rows us).1.map rRow)) (fun _ => rfl) hO (by simp; omega)
        simp only [evR, Nat.reduceAdd, Nat.reduceLT, Nat.reduceLeDiff, reduceIte, Nat.reduceEqDiff, reduceCtorEq, argEnv, eq_self, if_true, if_false] at hc
        exact hc
    · have hask : asked (F, rows) us = 211 := by simp [asked, hv, ha]
      have ho : orders F rows us = ((0, []), [], 211) := by simp [orders, hask]
      rw [ho]
      simp only [hT.1, hT.2.1, hT.2.2, evW, fn_eq, evR, Nat.reduceAdd, Nat.reduceLT, Nat.reduceLeDiff, reduceIte, Nat.reduceEqDiff, reduceCtorEq, argEnv, eq_self, if_true, if_false]
      repeat' (first | (rw [guardK_cases]; split <;> simp only [hT.1, hT.2.1, hT.2.2, evW, evR, Nat.reduceAdd, Nat.reduceLT, Nat.reduceLeDiff, reduceIte, Nat.reduceEqDiff, reduceCtorEq, argEnv, eq_self, if_true, if_false, *]) | (rw [condK_bool]; split <;> simp only [hT.1, hT.2.1, hT.2.2, evW, evR, Nat.reduceAdd, Nat.reduceLT, Nat.reduceLeDiff, reduceIte, Nat.reduceEqDiff, reduceCtorEq, argEnv, eq_self, if_true, if_false, *]) | (rw [guardD_cases]; split <;> simp only [hT.1, hT.2.1, hT.2.2, evW, evR, Nat.reduceAdd, Nat.reduceLT, Nat.reduceLeDiff, reduceIte, Nat.reduceEqDiff, reduceCtorEq, argEnv, eq_self, if_true, if_false, *]))
      exact hcalE 211 G
  · have hv' : valid (F, rows) = false := by simpa using hv
    have ho : orders F rows us = ((0, []), [], 210) := by simp [orders, asked, hv']
    simp only [hv'] at h17
    rw [ho]
    simp only [c24, h17, evW, fn_eq, evR, Nat.reduceAdd, Nat.reduceLT, Nat.reduceLeDiff, reduceIte, Nat.reduceEqDiff, reduceCtorEq, argEnv, eq_self, if_true, if_false]
    repeat' (first | (rw [guardK_cases]; split <;> simp only [c24, h17, evW, evR, Nat.reduceAdd, Nat.reduceLT, Nat.reduceLeDiff, reduceIte, Nat.reduceEqDiff, reduceCtorEq, argEnv, eq_self, if_true, if_false, *]) | (rw [condK_bool]; split <;> simp only [c24, h17, evW, evR, Nat.reduceAdd, Nat.reduceLT, Nat.reduceLeDiff, reduceIte, Nat.reduceEqDiff, reduceCtorEq, argEnv, eq_self, if_true, if_false, *]) | (rw [guardD_cases]; split <;> simp only [c24, h17, evW, evR, Nat.reduceAdd, Nat.reduceLT, Nat.reduceLeDiff, reduceIte, Nat.reduceEqDiff, reduceCtorEq, argEnv, eq_self, if_true, if_false, *]))
    exact hcalE 210 []
end Go.Proofs.Ytehcdcnghcbimaa.Code
