/- The law FastOrders. -/
import Derived.Test.YtehcdcnghcbimaaGh
import Derived.Test.YtehcdcnghcbimaaGd
set_option linter.unusedSimpArgs false
set_option linter.unusedVariables false
namespace Go.Proofs.Ytehcdcnghcbimaa.Code
open Go.Proofs.Ytehcdcnghcbimaa.Ev Go.RowKit

theorem ordered_len (F : Int) : ∀ (us : List (List Fld)) (rows : List Row), (ordered F rows us).2.length = us.length
  | [], _ => rfl
  | l :: us, rows => by simp [ordered, ordered_len F us]
theorem orders_small (F : Int) (rows : List Row) (us : List (List Fld)) : ((orders F rows us).1.2.length < 9223372036854775807 ∧ ∀ r ∈ (orders F rows us).1.2, r.2.length < 9223372036854775807) ∧ (orders F rows us).2.1.length < 9223372036854775807 := by
  unfold orders
  split
  · rename_i ha
    split
    · simp
    · rename_i hq
      have hf := (asked_fine ha).ordered us
      have hF := asked_F ha
      have hl := (asked_good ha).2.2
      exact ⟨⟨by simp only [hf.len]; omega, fun r hr => by have := (hf.good r hr).1; omega⟩, by simp only [ordered_len]; omega⟩
  · simp
theorem lUnits (H : Heap) (us : List (List Fld)) : SlAt H 1 (.lst (us.map rUnit)) (us.map rUnit) := .lst fun r hr => by obtain ⟨b, _, rfl⟩ := List.mem_map.1 hr; rfl
theorem l6 (us : List (List Fld)) (hul : us.length < 9223372036854775807) (hu : ∀ l ∈ us, l.length < 9223372036854775807) (P2 P3 : AV) (H K G : Heap) (st : St)
    (hE : keepEnv st.1 [1, 2, 3, 7] = [(1, .lst (us.map rUnit)), (2, P2), (3, P3), (7, .int .i64 0)]) (hH : st.2 = H ++ (K ++ G)) (z : Option (CX × St)) (hz : itLim (evCode (evC cprog) itLim c6_l0) st = z) :
    Lv H K (fun x T => (x = .exit 0 ∧ keepEnv T [1, 2, 3] = [(1, .lst (us.map rUnit)), (2, P2), (3, P3)]) ∨ (x = .ret ∧ get T 6 = some (.bool true))) z := by
  rcases all_rule us (fun l => decide (l.length ≤ 40)) [1, 2, 3, 7] (fun k => [(1, .lst (us.map rUnit)), (2, P2), (3, P3), (7, .int .i64 (k : Int))]) H K (evCode (evC cprog) itLim c6_l0) (fun x T => x = .exit 0 ∧ keepEnv T [1, 2, 3] = [(1, .lst (us.map rUnit)), (2, P2), (3, P3)]) (fun x T => x = .ret ∧ get T 6 = some (.bool true))
    (fun k l hk E G hE => by
      have hlt : k < us.length := (List.getElem?_eq_some_iff.1 hk).1
      have hi : (k : Int) < (us.length : Int) := by omega
      have h4 := (sUnit H l).len
      simp only [List.length_map] at h4
      obtain ⟨_, p, hp, hat⟩ := (lUnits H us).get k (rUnit l) (by rw [List.getElem?_map, hk]; rfl)
      simp only [c6_l0, hE, hi, hp, hat.onex, h4, List.length_map, f11, wrapS hlt hul, evW, fn_eq, evR, Nat.reduceAdd, Nat.reduceLT, Nat.reduceLeDiff, reduceIte, Nat.reduceEqDiff, reduceCtorEq, argEnv, eq_self, if_true, if_false]
      repeat' (first | (rw [guardK_cases]; split <;> simp only [c6_l0, hE, hi, hp, hat.onex, h4, List.length_map, f11, wrapS hlt hul, evW, evR, Nat.reduceAdd, Nat.reduceLT, Nat.reduceLeDiff, reduceIte, Nat.reduceEqDiff, reduceCtorEq, argEnv, eq_self, if_true, if_false, *]) | (rw [condK_bool]; split <;> simp only [c6_l0, hE, hi, hp, hat.onex, h4, List.length_map, f11, wrapS hlt hul, evW, evR, Nat.reduceAdd, Nat.reduceLT, Nat.reduceLeDiff, reduceIte, Nat.reduceEqDiff, reduceCtorEq, argEnv, eq_self, if_true, if_false, *]) | (rw [guardD_cases]; split <;> simp only [c6_l0, hE, hi, hp, hat.onex, h4, List.length_map, f11, wrapS hlt hul, evW, evR, Nat.reduceAdd, Nat.reduceLT, Nat.reduceLeDiff, reduceIte, Nat.reduceEqDiff, reduceCtorEq, argEnv, eq_self, if_true, if_false, *]))
      all_goals first | exact Sc.next (by first | (simp_all [rUnit]; done) | (simp_all [rUnit]; intros; omega)) (by rfl) | exact Sc.ret (by first | (simp_all [rUnit]; done) | (simp_all [rUnit]; intros; omega)) ⟨rfl, by first | rfl | exact ⟨rfl, rfl, rfl⟩⟩ | exact Sc.exit (by first | (simp_all [rUnit]; done) | (simp_all [rUnit]; intros; omega)) ⟨rfl, rfl⟩)
    (fun E G hE => by
      simp only [c6_l0, hE, Int.lt_irrefl, List.length_map, evW, fn_eq, evR, Nat.reduceAdd, Nat.reduceLT, Nat.reduceLeDiff, reduceIte, Nat.reduceEqDiff, reduceCtorEq, argEnv, eq_self, if_true, if_false]
      repeat' (first | (rw [guardK_cases]; split <;> simp only [c6_l0, hE, Int.lt_irrefl, List.length_map, evW, evR, Nat.reduceAdd, Nat.reduceLT, Nat.reduceLeDiff, reduceIte, Nat.reduceEqDiff, reduceCtorEq, argEnv, eq_self, if_true, if_false, *]) | (rw [condK_bool]; split <;> simp only [c6_l0, hE, Int.lt_irrefl, List.length_map, evW, evR, Nat.reduceAdd, Nat.reduceLT, Nat.reduceLeDiff, reduceIte, Nat.reduceEqDiff, reduceCtorEq, argEnv, eq_self, if_true, if_false, *]) | (rw [guardD_cases]; split <;> simp only [c6_l0, hE, Int.lt_irrefl, List.length_map, evW, evR, Nat.reduceAdd, Nat.reduceLT, Nat.reduceLeDiff, reduceIte, Nat.reduceEqDiff, reduceCtorEq, argEnv, eq_self, if_true, if_false, *]))
      exact .exit ⟨rfl, by rfl⟩) st G hE hH z hz with ⟨_, c, T, G', rfl, h1, h2⟩ | ⟨_, c, T, G', rfl, h1, h2⟩
  · exact ⟨c, T, G', rfl, h1, .inl h2⟩
  · exact ⟨c, T, G', rfl, h1, .inr h2⟩
theorem f6 (F : Int) (rows : List Row) (hl : rows.length < 9223372036854775807) (hvl : ∀ r ∈ rows, r.2.length < 9223372036854775807) (us : List (List Fld)) (hul : us.length < 9223372036854775807) (hu : ∀ l ∈ us, l.length < 9223372036854775807) (x : Int) (H : Heap) :
    ∃ H', evFn (evC cprog) itLim c6 [.agg [.int .i64 F, .lst (rows.map rRow)], .lst (us.map rUnit), .int .i64 x] H = some (.bool true, H') := by
  have h10 := fun H => f10 F rows hl _ H (.lst H rows)
  have h23 := fun H => f23 F rows hl hvl us _ H (lUnits H us) hul hu
  have h24 := fun H => f24 F rows hl hvl us _ H (lUnits H us) hul hu
  have h25 := fun H => f25 F rows hl hvl x H
  have h26 := fun H => f26 F rows hl hvl x H
  obtain ⟨hs1, hs2⟩ := orders_small F rows us
  have h27 := fun H => f27 (orders F rows us).2.1 hs2 H
  have h20 := fun H => f20 (orders F rows us).1.1 (orders F rows us).1.1 (orders F rows us).1.2 (orders F rows us).1.2 _ _ H (.lst H _) (.lst H _) hs1.1 hs1.2
  rw [tell_pos ⟨rfl, rfl⟩] at h20
  have hlp := l6 us hul hu (.int .i64 x) (.ptr H.length 0 2 0 0) H [⟨0, true, 24, 2, [[.int .i64 F, .lst (rows.map rRow)]]⟩] []
  simp only [c6, f11, cells_tab, isTup_tab, evW, fn_eq, evR, Nat.reduceAdd, Nat.reduceLT, Nat.reduceLeDiff, reduceIte, Nat.reduceEqDiff, reduceCtorEq, argEnv, eq_self, if_true, if_false]
  repeat' (first | (rw [guardK_cases]; split <;> simp only [c6, f11, cells_tab, isTup_tab, evW, evR, Nat.reduceAdd, Nat.reduceLT, Nat.reduceLeDiff, reduceIte, Nat.reduceEqDiff, reduceCtorEq, argEnv, eq_self, if_true, if_false, *]) | (rw [condK_bool]; split <;> simp only [c6, f11, cells_tab, isTup_tab, evW, evR, Nat.reduceAdd, Nat.reduceLT, Nat.reduceLeDiff, reduceIte, Nat.reduceEqDiff, reduceCtorEq, argEnv, eq_self, if_true, if_false, *]) | (rw [guardD_cases]; split <;> simp only [c6, f11, cells_tab, isTup_tab, evW, evR, Nat.reduceAdd, Nat.reduceLT, Nat.reduceLeDiff, reduceIte, Nat.reduceEqDiff, reduceCtorEq, argEnv, eq_self, if_true, if_false, *]))
  generalize hz : itLim _ _ = z
  obtain ⟨x, T, G, rfl, _, ⟨rfl, hT⟩ | ⟨rfl, hT⟩⟩ := hlp _ (by rfl) (by simp) z hz
  · simp only [hT, h10, h23, h24, h25, h26, h27, h20, f11, beq_self_eq_true, List.length_map, cells_tab, isTup_tab, evW, fn_eq, evR, Nat.reduceAdd, Nat.reduceLT, Nat.reduceLeDiff, reduceIte, Nat.reduceEqDiff, reduceCtorEq, argEnv, eq_self, if_true, if_false]
    repeat' (first | (rw [guardK_cases]; split <;> simp only [hT, h10, h23, h24, h25, h26, h27, h20, f11, beq_self_eq_true, List.length_map, cells_tab, isTup_tab, evW, evR, Nat.reduceAdd, Nat.reduceLT, Nat.reduceLeDiff, reduceIte, Nat.reduceEqDiff, reduceCtorEq, argEnv, eq_self, if_true, if_false, *]) | (rw [condK_bool]; split <;> simp only [hT, h10, h23, h24, h25, h26, h27, h20, f11, beq_self_eq_true, List.length_map, cells_tab, isTup_tab, evW, evR, Nat.reduceAdd, Nat.reduceLT, Nat.reduceLeDiff, reduceIte, Nat.reduceEqDiff, reduceCtorEq, argEnv, eq_self, if_true, if_false, *]) | (rw [guardD_cases]; split <;> simp only [hT, h10, h23, h24, h25, h26, h27, h20, f11, beq_self_eq_true, List.length_map, cells_tab, isTup_tab, evW, evR, Nat.reduceAdd, Nat.reduceLT, Nat.reduceLeDiff, reduceIte, Nat.reduceEqDiff, reduceCtorEq, argEnv, eq_self, if_true, if_false, *]))
    all_goals exact ⟨_, rfl⟩
  · simp only [hT, evW, fn_eq, evR, Nat.reduceAdd, Nat.reduceLT, Nat.reduceLeDiff, reduceIte, Nat.reduceEqDiff, reduceCtorEq, argEnv, eq_self, if_true, if_false]
    repeat' (first | (rw [guardK_cases]; split <;> simp only [hT, evW, evR, Nat.reduceAdd, Nat.reduceLT, Nat.reduceLeDiff, reduceIte, Nat.reduceEqDiff, reduceCtorEq, argEnv, eq_self, if_true, if_false, *]) | (rw [condK_bool]; split <;> simp only [hT, evW, evR, Nat.reduceAdd, Nat.reduceLT, Nat.reduceLeDiff, reduceIte, Nat.reduceEqDiff, reduceCtorEq, argEnv, eq_self, if_true, if_false, *]) | (rw [guardD_cases]; split <;> simp only [hT, evW, evR, Nat.reduceAdd, Nat.reduceLT, Nat.reduceLeDiff, reduceIte, Nat.reduceEqDiff, reduceCtorEq, argEnv, eq_self, if_true, if_false, *]))
    exact ⟨_, rfl⟩
theorem open_rUnit {r : List AV} (h : HasL [.sl [.str, .int .i64, .str, .int .i64]] r) : ∃ l : List Fld, r = rUnit l ∧ l.length ≤ reachBytes := by
  simp only [HasL.eq_2, HasL.eq_1, Has] at h
  obtain ⟨x, xs, rfl, ⟨l, rfl, hl, hr⟩, rfl⟩ := h
  obtain ⟨us, rfl, _⟩ := typed (P := HasL [.str, .int .i64, .str, .int .i64]) (fun r h => open_fld h) l (fun r h => by simpa only [HasL.eq_2, HasL.eq_1, Has] using hr r h)
  exact ⟨us, rfl, by simpa using hl⟩
theorem open_units {a : AV} (h : ArgTy false [.sl [.sl [.str, .int .i64, .str, .int .i64]]] a) : ∃ us : List (List Fld), a = .lst (us.map rUnit) ∧ us.length ≤ reachBytes ∧ ∀ l ∈ us, l.length ≤ reachBytes := by
  have h : HasL [.sl [.sl [.str, .int .i64, .str, .int .i64]]] [a] := h
  rw [HasL.eq_2] at h
  obtain ⟨x, xs, he, hx, hxs⟩ := h
  rw [HasL.eq_1] at hxs
  subst hxs
  cases he
  simp only [Has] at hx
  obtain ⟨l, rfl, hl, hr⟩ := hx
  obtain ⟨us, rfl, hq⟩ := typed (P := HasL [.sl [.str, .int .i64, .str, .int .i64]]) (fun r h => open_rUnit h) l hr
  exact ⟨us, rfl, by simpa using hl, hq⟩
theorem open_i64 {a : AV} (h : ArgTy false [.int .i64] a) : ∃ n : Int, a = .int .i64 n := by
  have h : HasL [.int .i64] [a] := h
  obtain ⟨n, he, _⟩ := open_int h
  cases he
  exact ⟨n, rfl⟩
end Go.Proofs.Ytehcdcnghcbimaa.Code
namespace Go.Proofs.Ytehcdcnghcbimaa.Pure
open Go.Proofs.Ytehcdcnghcbimaa.Ev Go.Proofs.Ytehcdcnghcbimaa.Code
theorem FastOrders (a0 : AV) (t0 : ArgTy true [.int .i64, .sl [.str, .sl [.int .i64]]] a0) (a1 : AV) (t1 : ArgTy false [.sl [.sl [.str, .int .i64, .str, .int .i64]]] a1) (a2 : AV) (t2 : ArgTy false [.int .i64] a2) : ∃ H', evC cprog 6 [a0, a1, a2] [] = some (.bool true, H') := by
  obtain ⟨F, rows, rfl, h1, h2⟩ := open_table t0
  obtain ⟨us, rfl, h3, h4⟩ := open_units t1
  obtain ⟨x, rfl⟩ := open_i64 t2
  unfold reachBytes at h1 h2 h3 h4
  rw [evC_fn at6]
  exact f6 F rows (by omega) (fun r hr => by have := h2 r hr; omega) us (by omega) (fun l hl => by have := h4 l hl; omega) x []
end Go.Proofs.Ytehcdcnghcbimaa.Pure
