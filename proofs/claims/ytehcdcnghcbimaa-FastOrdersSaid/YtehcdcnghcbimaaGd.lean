/- The law FastApart. -/
import Derived.Test.YtehcdcnghcbimaaGc
set_option linter.unusedSimpArgs false
set_option linter.unusedVariables false
namespace Go.Proofs.Ytehcdcnghcbimaa.Code
open Go.Proofs.Ytehcdcnghcbimaa.Ev

def apart1 (m : List Fld) (c : Fld) : Bool := m.all fun d => !decide (c.key = d.key)
theorem l5_0 (P3 : AV) (l m : List Fld) (hl : l.length < 9223372036854775807) (hm : m.length < 9223372036854775807) (i : Nat) (c : Fld) (hc : l[i]? = some c) (H K G : Heap) (st : St)
    (hE : keepEnv st.1 [1, 2, 3, 7, 8] = [(1, eUnit l), (2, eUnit m), (3, P3), (7, .int .i64 (i : Int)), (8, .int .i64 0)]) (hH : st.2 = H ++ (K ++ G)) (z : Option (CX × St)) (hz : itLim (evCode (evC cprog) itLim c5_l0) st = z) :
    (apart1 m c = true ∧ Lv H K (fun x T => x = .exit 2 ∧ keepEnv T [1, 2, 3, 7] = [(1, eUnit l), (2, eUnit m), (3, P3), (7, .int .i64 (i : Int))]) z) ∨ (apart1 m c = false ∧ Lv H K (fun x T => x = .ret ∧ get T 6 = some (.bool true)) z) := by
  have h1 := (sUnit H l).len
  have h2 := (sUnit H m).len
  simp only [List.length_map] at h1 h2
  obtain ⟨_, p, hp, hat⟩ := (sUnit H l).get i (rFld c) (by rw [List.getElem?_map, hc]; rfl)
  exact all_rule m (fun d => !decide (c.key = d.key)) [1, 2, 3, 7, 8] (fun k => [(1, eUnit l), (2, eUnit m), (3, P3), (7, .int .i64 (i : Int)), (8, .int .i64 (k : Int))]) H K (evCode (evC cprog) itLim c5_l0) _ _
    (fun k d hk E G hE => by
      have hlt : k < m.length := (List.getElem?_eq_some_iff.1 hk).1
      have hi : (k : Int) < (m.length : Int) := by omega
      obtain ⟨_, q, hq, hqt⟩ := (sUnit H m).get k (rFld d) (by rw [List.getElem?_map, hk]; rfl)
      have e1 : (rFld c)[0]? = some (.str c.key) := rfl
      have e2 : (rFld d)[0]? = some (.str d.key) := rfl
      simp only [c5_l0, hE, h1, h2, hi, hp, hq, hat.faddr, hat.fldx, hqt.faddr, hqt.fldx, e1, e2, f11, wrapS hlt hm, evW, fn_eq, evR, Nat.reduceAdd, Nat.reduceLT, Nat.reduceLeDiff, reduceIte, Nat.reduceEqDiff, reduceCtorEq, argEnv, eq_self, if_true, if_false]
      repeat' (first | (rw [guardK_cases]; split <;> simp only [c5_l0, hE, h1, h2, hi, hp, hq, hat.faddr, hat.fldx, hqt.faddr, hqt.fldx, e1, e2, f11, wrapS hlt hm, evW, evR, Nat.reduceAdd, Nat.reduceLT, Nat.reduceLeDiff, reduceIte, Nat.reduceEqDiff, reduceCtorEq, argEnv, eq_self, if_true, if_false, *]) | (rw [condK_bool]; split <;> simp only [c5_l0, hE, h1, h2, hi, hp, hq, hat.faddr, hat.fldx, hqt.faddr, hqt.fldx, e1, e2, f11, wrapS hlt hm, evW, evR, Nat.reduceAdd, Nat.reduceLT, Nat.reduceLeDiff, reduceIte, Nat.reduceEqDiff, reduceCtorEq, argEnv, eq_self, if_true, if_false, *]) | (rw [guardD_cases]; split <;> simp only [c5_l0, hE, h1, h2, hi, hp, hq, hat.faddr, hat.fldx, hqt.faddr, hqt.fldx, e1, e2, f11, wrapS hlt hm, evW, evR, Nat.reduceAdd, Nat.reduceLT, Nat.reduceLeDiff, reduceIte, Nat.reduceEqDiff, reduceCtorEq, argEnv, eq_self, if_true, if_false, *]))
      all_goals first | exact Sc.next (by first | (simp_all [apart1]; done) | (simp_all [apart1]; intros; omega)) (by rfl) | exact Sc.ret (by first | (simp_all [apart1]; done) | (simp_all [apart1]; intros; omega)) ⟨rfl, by first | rfl | exact ⟨rfl, rfl, rfl⟩⟩ | exact Sc.exit (by first | (simp_all [apart1]; done) | (simp_all [apart1]; intros; omega)) ⟨rfl, rfl⟩)
    (fun E G hE => by
      simp only [c5_l0, hE, h1, h2, Int.lt_irrefl, evW, fn_eq, evR, Nat.reduceAdd, Nat.reduceLT, Nat.reduceLeDiff, reduceIte, Nat.reduceEqDiff, reduceCtorEq, argEnv, eq_self, if_true, if_false]
      repeat' (first | (rw [guardK_cases]; split <;> simp only [c5_l0, hE, h1, h2, Int.lt_irrefl, evW, evR, Nat.reduceAdd, Nat.reduceLT, Nat.reduceLeDiff, reduceIte, Nat.reduceEqDiff, reduceCtorEq, argEnv, eq_self, if_true, if_false, *]) | (rw [condK_bool]; split <;> simp only [c5_l0, hE, h1, h2, Int.lt_irrefl, evW, evR, Nat.reduceAdd, Nat.reduceLT, Nat.reduceLeDiff, reduceIte, Nat.reduceEqDiff, reduceCtorEq, argEnv, eq_self, if_true, if_false, *]) | (rw [guardD_cases]; split <;> simp only [c5_l0, hE, h1, h2, Int.lt_irrefl, evW, evR, Nat.reduceAdd, Nat.reduceLT, Nat.reduceLeDiff, reduceIte, Nat.reduceEqDiff, reduceCtorEq, argEnv, eq_self, if_true, if_false, *]))
      exact .exit ⟨rfl, by rfl⟩) st G hE hH z hz
theorem l5_1 (P3 : AV) (l m : List Fld) (hl : l.length < 9223372036854775807) (hm : m.length < 9223372036854775807) (H K G : Heap) (st : St)
    (hE : keepEnv st.1 [1, 2, 3, 7] = [(1, eUnit l), (2, eUnit m), (3, P3), (7, .int .i64 0)]) (hH : st.2 = H ++ (K ++ G)) (z : Option (CX × St)) (hz : itLim (evCode (evC cprog) itLim c5_l1) st = z) :
    (l.all (apart1 m) = true ∧ Lv H K (fun x T => x = .exit 0 ∧ keepEnv T [1, 2, 3] = [(1, eUnit l), (2, eUnit m), (3, P3)]) z) ∨ (l.all (apart1 m) = false ∧ Lv H K (fun x T => x = .ret ∧ get T 6 = some (.bool true)) z) := by
  have h1 := (sUnit H l).len
  simp only [List.length_map] at h1
  exact all_rule l (apart1 m) [1, 2, 3, 7] (fun k => [(1, eUnit l), (2, eUnit m), (3, P3), (7, .int .i64 (k : Int))]) H K (evCode (evC cprog) itLim c5_l1) _ _
    (fun k c hk E G hE => by
      have hlt : k < l.length := (List.getElem?_eq_some_iff.1 hk).1
      have hi : (k : Int) < (l.length : Int) := by omega
      have hin := fun z => l5_0 P3 l m hl hm k c hk H K G ([(8, .int .i64 0), (1, eUnit l), (2, eUnit m), (3, P3), (7, .int .i64 (k : Int))], H ++ (K ++ G)) (by rfl) rfl z
      simp only [c5_l1, hE, h1, hi, evW, fn_eq, evR, Nat.reduceAdd, Nat.reduceLT, Nat.reduceLeDiff, reduceIte, Nat.reduceEqDiff, reduceCtorEq, argEnv, eq_self, if_true, if_false]
      repeat' (first | (rw [guardK_cases]; split <;> simp only [c5_l1, hE, h1, hi, evW, evR, Nat.reduceAdd, Nat.reduceLT, Nat.reduceLeDiff, reduceIte, Nat.reduceEqDiff, reduceCtorEq, argEnv, eq_self, if_true, if_false, *]) | (rw [condK_bool]; split <;> simp only [c5_l1, hE, h1, hi, evW, evR, Nat.reduceAdd, Nat.reduceLT, Nat.reduceLeDiff, reduceIte, Nat.reduceEqDiff, reduceCtorEq, argEnv, eq_self, if_true, if_false, *]) | (rw [guardD_cases]; split <;> simp only [c5_l1, hE, h1, hi, evW, evR, Nat.reduceAdd, Nat.reduceLT, Nat.reduceLeDiff, reduceIte, Nat.reduceEqDiff, reduceCtorEq, argEnv, eq_self, if_true, if_false, *]))
      generalize hz : itLim _ _ = z
      rcases hin z hz with ⟨ha, x, T, G', rfl, _, rfl, hT⟩ | ⟨ha, x, T, G', rfl, _, rfl, hT⟩
      · simp only [hT, wrapS hlt hl, fn_eq, evR, Nat.reduceAdd, Nat.reduceLT, Nat.reduceLeDiff, reduceIte, Nat.reduceEqDiff, reduceCtorEq, argEnv, eq_self, if_true, if_false]
        repeat' (first | (rw [guardK_cases]; split <;> simp only [hT, wrapS hlt hl, evR, Nat.reduceAdd, Nat.reduceLT, Nat.reduceLeDiff, reduceIte, Nat.reduceEqDiff, reduceCtorEq, argEnv, eq_self, if_true, if_false, *]) | (rw [condK_bool]; split <;> simp only [hT, wrapS hlt hl, evR, Nat.reduceAdd, Nat.reduceLT, Nat.reduceLeDiff, reduceIte, Nat.reduceEqDiff, reduceCtorEq, argEnv, eq_self, if_true, if_false, *]))
        exact Sc.next ha (by rfl)
      · simp only [hT, fn_eq, evR, Nat.reduceAdd, Nat.reduceLT, Nat.reduceLeDiff, reduceIte, Nat.reduceEqDiff, reduceCtorEq, argEnv, eq_self, if_true, if_false]
        repeat' (first | (rw [guardK_cases]; split <;> simp only [hT, evR, Nat.reduceAdd, Nat.reduceLT, Nat.reduceLeDiff, reduceIte, Nat.reduceEqDiff, reduceCtorEq, argEnv, eq_self, if_true, if_false, *]) | (rw [condK_bool]; split <;> simp only [hT, evR, Nat.reduceAdd, Nat.reduceLT, Nat.reduceLeDiff, reduceIte, Nat.reduceEqDiff, reduceCtorEq, argEnv, eq_self, if_true, if_false, *]))
        exact Sc.ret ha ⟨rfl, hT⟩)
    (fun E G hE => by
      simp only [c5_l1, hE, h1, Int.lt_irrefl, evW, fn_eq, evR, Nat.reduceAdd, Nat.reduceLT, Nat.reduceLeDiff, reduceIte, Nat.reduceEqDiff, reduceCtorEq, argEnv, eq_self, if_true, if_false]
      repeat' (first | (rw [guardK_cases]; split <;> simp only [c5_l1, hE, h1, Int.lt_irrefl, evW, evR, Nat.reduceAdd, Nat.reduceLT, Nat.reduceLeDiff, reduceIte, Nat.reduceEqDiff, reduceCtorEq, argEnv, eq_self, if_true, if_false, *]) | (rw [condK_bool]; split <;> simp only [c5_l1, hE, h1, Int.lt_irrefl, evW, evR, Nat.reduceAdd, Nat.reduceLT, Nat.reduceLeDiff, reduceIte, Nat.reduceEqDiff, reduceCtorEq, argEnv, eq_self, if_true, if_false, *]) | (rw [guardD_cases]; split <;> simp only [c5_l1, hE, h1, Int.lt_irrefl, evW, evR, Nat.reduceAdd, Nat.reduceLT, Nat.reduceLeDiff, reduceIte, Nat.reduceEqDiff, reduceCtorEq, argEnv, eq_self, if_true, if_false, *]))
      exact .exit ⟨rfl, by rfl⟩) st G hE hH z hz
theorem Fine.ordered {F : Int} {m : Nat} : ∀ (us : List (List Fld)) (rows : List Row), Fine F m rows → Fine F m (ordered F rows us).1
  | [], _, h => h
  | l :: us, _, h => Fine.ordered us _ (h.step l)
theorem f5 (F : Int) (rows : List Row) (hl : rows.length < 9223372036854775807) (hvl : ∀ r ∈ rows, r.2.length < 9223372036854775807) (l m : List Fld) (hul : l.length < 9223372036854775807) (hum : m.length < 9223372036854775807) (H : Heap) :
    ∃ H', evFn (evC cprog) itLim c5 [.agg [.int .i64 F, .lst (rows.map rRow)], eUnit l, eUnit m] H = some (.bool true, H') := by
  have h17 := fun H => f17 F rows hl hvl _ H (.lst H rows)
  have h18 := fun l h H => f19 l h H
  have h19l := fun H => f19 l hul H
  have h19m := fun H => f19 m hum H
  have hlp := l5_1 (.ptr H.length 0 2 0 0) l m hul hum H [⟨0, true, 24, 2, [[.int .i64 F, .lst (rows.map rRow)]]⟩]
  by_cases hg : valid (F, rows) = true ∧ isUnit l = true ∧ isUnit m = true
  · obtain ⟨hv, hil, him⟩ := hg
    simp only [hv] at h17
    simp only [hil] at h19l
    simp only [him] at h19m
    simp only [c5, h17, h19l, h19m, f11, cells_tab, isTup_tab, evW, fn_eq, evR, Nat.reduceAdd, Nat.reduceLT, Nat.reduceLeDiff, reduceIte, Nat.reduceEqDiff, reduceCtorEq, argEnv, eq_self, if_true, if_false]
    repeat' (first | (rw [guardK_cases]; split <;> simp only [c5, h17, h19l, h19m, f11, cells_tab, isTup_tab, evW, evR, Nat.reduceAdd, Nat.reduceLT, Nat.reduceLeDiff, reduceIte, Nat.reduceEqDiff, reduceCtorEq, argEnv, eq_self, if_true, if_false, *]) | (rw [condK_bool]; split <;> simp only [c5, h17, h19l, h19m, f11, cells_tab, isTup_tab, evW, evR, Nat.reduceAdd, Nat.reduceLT, Nat.reduceLeDiff, reduceIte, Nat.reduceEqDiff, reduceCtorEq, argEnv, eq_self, if_true, if_false, *]) | (rw [guardD_cases]; split <;> simp only [c5, h17, h19l, h19m, f11, cells_tab, isTup_tab, evW, evR, Nat.reduceAdd, Nat.reduceLT, Nat.reduceLeDiff, reduceIte, Nat.reduceEqDiff, reduceCtorEq, argEnv, eq_self, if_true, if_false, *]))
    generalize hz : itLim _ _ = z
    rcases hlp [] _ (by rfl) (by simp) z hz with ⟨ha, x, T, G, rfl, _, rfl, hT⟩ | ⟨ha, x, T, G, rfl, _, rfl, hT⟩
    · have hk : ∀ c ∈ l, ∀ d ∈ m, c.key ≠ d.key := fun c hc d hd => by
        have h1 := List.all_eq_true.1 ha c hc
        unfold apart1 at h1
        simpa using List.all_eq_true.1 h1 d hd
      obtain ⟨ho, a, b, hlm, hml⟩ := units_far F rows hk
      have hask : ∀ l m, isUnit l = true → isUnit m = true → asked (F, rows) [l, m] = 0 := fun l m h1 h2 => by simp [asked, hv, h1, h2]
      have horder : ∀ l m, isUnit l = true → isUnit m = true → orders F rows [l, m] = ((F, (ordered F rows [l, m]).1), (ordered F rows [l, m]).2, 0) := fun l m h1 h2 => by simp [orders, hask l m h1 h2]
      have h23 : ∀ (l m : List Fld) (K : Heap), l.length < 9223372036854775807 → m.length < 9223372036854775807 → cal (evC cprog) true 23 [.agg [.int .i64 F, .lst (rows.map rRow)], .ref (H.length + K.length) 0 1 0 2] (H ++ (K ++ [⟨0, true, 25, 1, [[eUnit l], [eUnit m]]⟩])) = _ := fun l m K h1 h2 =>
        f23 F rows hl hvl [l, m] _ _ (.ref (b := H.length + K.length) (v := 0) (off := 0) (rows := [[eUnit l], [eUnit m]]) (k := ⟨0, true, 25, 1, [[eUnit l], [eUnit m]]⟩) (by simp only [curBlk_eq, at_app, at_app0]; rfl) fun i row hi => by
          rw [Nat.zero_add]
          refine ⟨?_, hi⟩
          have := List.mem_of_getElem? hi
          simp at this
          rcases this with rfl | rfl <;> rfl) (by simp) (by simp [h1, h2])
      have ha1 := h23 l m ([⟨0, true, 24, 2, [[.int .i64 F, .lst (rows.map rRow)]]⟩] ++ G) hul hum
      have ha2 := h23 m l ([⟨0, true, 24, 2, [[.int .i64 F, .lst (rows.map rRow)]]⟩] ++ G ++ [⟨0, true, 25, 1, [[eUnit l], [eUnit m]]⟩, ⟨0, true, 24, 2, [[.int .i64 F, .lst ((ordered F rows [l, m]).1.map rRow)]]⟩]) hum hul
      rw [horder l m hil him] at ha1
      rw [horder m l him hil] at ha2
      rw [← ho, hml] at ha2
      rw [hlm] at ha1
      simp only [evR, Nat.reduceAdd, Nat.reduceLT, Nat.reduceLeDiff, reduceIte, Nat.reduceEqDiff, reduceCtorEq, argEnv, eq_self, if_true, if_false] at ha1 ha2
      have hlen : (ordered F rows [l, m]).1.length < 9223372036854775807 ∧ ∀ r ∈ (ordered F rows [l, m]).1, r.2.length < 9223372036854775807 := by
        have hf := (asked_fine (hask l m hil him)).ordered [l, m]
        have hF := asked_F (hask l m hil him)
        exact ⟨by rw [hf.len]; exact hl, fun r hr => by have := (hf.good r hr).1; omega⟩
      have n0 : asNat (.int .i64 0) = some 0 := rfl
      have n1 : asNat (.int .i64 1) = some 1 := rfl
      have hbb : ∀ b : Bool, (b == b) = true := fun b => by cases b <;> rfl
      have lfp : ∀ (H : Heap) (a : AV), loadK false 1 H (some (.fptr [a])) = some a := fun _ _ => rfl
      have hc2 : (((2 : Nat) : Int) = 2) = True := by simp
      have h20 := fun H => f20 F F (ordered F rows [l, m]).1 (ordered F rows [l, m]).1 _ _ H (.lst H _) (.lst H _) hlen.1 hlen.2
      rw [tell_pos ⟨rfl, rfl⟩] at h20
      simp only [hT, ha1, ha2, h20, f11, hc2, n0, n1, hbb, lfp, cells_tab, isTup_tab, cells_unit, isTup_unit, List.map_cons, List.map_nil, rBool, evW, fn_eq, evR, Nat.reduceAdd, Nat.reduceLT, Nat.reduceLeDiff, reduceIte, Nat.reduceEqDiff, reduceCtorEq, argEnv, eq_self, if_true, if_false]
      repeat' (first | (rw [guardK_cases]; split <;> simp only [hT, ha1, ha2, h20, f11, hc2, n0, n1, hbb, lfp, cells_tab, isTup_tab, cells_unit, isTup_unit, List.map_cons, List.map_nil, rBool, evW, evR, Nat.reduceAdd, Nat.reduceLT, Nat.reduceLeDiff, reduceIte, Nat.reduceEqDiff, reduceCtorEq, argEnv, eq_self, if_true, if_false, *]) | (rw [condK_bool]; split <;> simp only [hT, ha1, ha2, h20, f11, hc2, n0, n1, hbb, lfp, cells_tab, isTup_tab, cells_unit, isTup_unit, List.map_cons, List.map_nil, rBool, evW, evR, Nat.reduceAdd, Nat.reduceLT, Nat.reduceLeDiff, reduceIte, Nat.reduceEqDiff, reduceCtorEq, argEnv, eq_self, if_true, if_false, *]) | (rw [guardD_cases]; split <;> simp only [hT, ha1, ha2, h20, f11, hc2, n0, n1, hbb, lfp, cells_tab, isTup_tab, cells_unit, isTup_unit, List.map_cons, List.map_nil, rBool, evW, evR, Nat.reduceAdd, Nat.reduceLT, Nat.reduceLeDiff, reduceIte, Nat.reduceEqDiff, reduceCtorEq, argEnv, eq_self, if_true, if_false, *]))
      exact ⟨_, rfl⟩
    · simp only [hT, evW, fn_eq, evR, Nat.reduceAdd, Nat.reduceLT, Nat.reduceLeDiff, reduceIte, Nat.reduceEqDiff, reduceCtorEq, argEnv, eq_self, if_true, if_false]
      repeat' (first | (rw [guardK_cases]; split <;> simp only [hT, evW, evR, Nat.reduceAdd, Nat.reduceLT, Nat.reduceLeDiff, reduceIte, Nat.reduceEqDiff, reduceCtorEq, argEnv, eq_self, if_true, if_false, *]) | (rw [condK_bool]; split <;> simp only [hT, evW, evR, Nat.reduceAdd, Nat.reduceLT, Nat.reduceLeDiff, reduceIte, Nat.reduceEqDiff, reduceCtorEq, argEnv, eq_self, if_true, if_false, *]) | (rw [guardD_cases]; split <;> simp only [hT, evW, evR, Nat.reduceAdd, Nat.reduceLT, Nat.reduceLeDiff, reduceIte, Nat.reduceEqDiff, reduceCtorEq, argEnv, eq_self, if_true, if_false, *]))
      exact ⟨_, rfl⟩
  · simp only [c5, h17, h19l, h19m, f11, cells_tab, isTup_tab, evW, fn_eq, evR, Nat.reduceAdd, Nat.reduceLT, Nat.reduceLeDiff, reduceIte, Nat.reduceEqDiff, reduceCtorEq, argEnv, eq_self, if_true, if_false]
    repeat' (first | (rw [guardK_cases]; split <;> simp only [c5, h17, h19l, h19m, f11, cells_tab, isTup_tab, evW, evR, Nat.reduceAdd, Nat.reduceLT, Nat.reduceLeDiff, reduceIte, Nat.reduceEqDiff, reduceCtorEq, argEnv, eq_self, if_true, if_false, *]) | (rw [condK_bool]; split <;> simp only [c5, h17, h19l, h19m, f11, cells_tab, isTup_tab, evW, evR, Nat.reduceAdd, Nat.reduceLT, Nat.reduceLeDiff, reduceIte, Nat.reduceEqDiff, reduceCtorEq, argEnv, eq_self, if_true, if_false, *]) | (rw [guardD_cases]; split <;> simp only [c5, h17, h19l, h19m, f11, cells_tab, isTup_tab, evW, evR, Nat.reduceAdd, Nat.reduceLT, Nat.reduceLeDiff, reduceIte, Nat.reduceEqDiff, reduceCtorEq, argEnv, eq_self, if_true, if_false, *]))
    all_goals first | exact ⟨_, rfl⟩ | (exfalso; simp_all; done)
end Go.Proofs.Ytehcdcnghcbimaa.Code
namespace Go.Proofs.Ytehcdcnghcbimaa.Pure
open Go.Proofs.Ytehcdcnghcbimaa.Ev Go.Proofs.Ytehcdcnghcbimaa.Code
theorem FastApart (a0 : AV) (t0 : ArgTy true [.int .i64, .sl [.str, .sl [.int .i64]]] a0) (a1 : AV) (t1 : ArgTy false [.sl [.str, .int .i64, .str, .int .i64]] a1) (a2 : AV) (t2 : ArgTy false [.sl [.str, .int .i64, .str, .int .i64]] a2) : ∃ H', evC cprog 5 [a0, a1, a2] [] = some (.bool true, H') := by
  obtain ⟨F, rows, rfl, h1, h2⟩ := open_table t0
  obtain ⟨l, rfl, h3⟩ := open_unit t1
  obtain ⟨m, rfl, h4⟩ := open_unit t2
  unfold reachBytes at h1 h2 h3 h4
  rw [evC_fn at5]
  exact f5 F rows (by omega) (fun r hr => by have := h2 r hr; omega) l m (by omega) (by omega) []
end Go.Proofs.Ytehcdcnghcbimaa.Pure
