/- Units one after the other: what the program's Order does. -/
import Derived.Test.YtehcdcnghcbimaaFv
import Derived.Test.YtehcdcnghcbimaaEvX
set_option linter.unusedSimpArgs false
set_option linter.unusedVariables false
namespace Go.Proofs.Ytehcdcnghcbimaa.Code
open Go.Proofs.Ytehcdcnghcbimaa.Ev

theorem f44F (F : Int) (rows : List Row) (hl : rows.length ≤ 1000000) (hv : ∀ r ∈ rows, r.2 ≠ [] ∧ r.2.length ≤ 1000000) (hG : GoodRows F rows) (hF : 0 < F) (l : List Fld) (hu : l.length < 9223372036854775807) (H : Heap) :
    cal (evC cprog) true 44 [.agg [.int .i64 F, .lst (rows.map rRow)], eUnit l] H = some (.tup [eTab (F, (runUnit F rows l).2), .int .i64 (runUnit F rows l).1], H) := by
  obtain ⟨rv, N, H', h1, hO, hG'⟩ := f44 F rows hl hv hG l hu H
  obtain ⟨ids, hf, hi⟩ := fz_tab hO fun r hr e => by have := (hG' r hr).1; rw [e] at this; simp at this; omega
  refine cal_frz h1 (ids := ids) ?_ (by rfl) hO.pre hi
  have e1 : fz1 H' (.agg [.int .i64 F, rv]) = some (eTab (F, (runUnit F rows l).2), ids) := by
    show (fzCells (fz H' 8) [.int .i64 F, rv]).map _ = _
    have e0 : fz H' 8 (.int .i64 F) = some (.int .i64 F, []) := rfl
    simp only [fzCells, e0, hf, Option.map_some, List.nil_append, List.append_nil]
    rfl
  have e2 : fz1 H' (.int .i64 (runUnit F rows l).1) = some (.int .i64 (runUnit F rows l).1, []) := rfl
  show (fzCells (fz1 H') [.agg [.int .i64 F, rv], .int .i64 (runUnit F rows l).1]).map _ = _
  simp only [fzCells, e1, e2, Option.map_some, List.append_nil]
theorem frz_tab {g : Nat} {vs : List AV} {H G : Heap} {F : Int} {rows : List Row} {rv : AV} {N : Nat} (h : cal (evC cprog) false g vs H = some (.agg [.int .i64 F, rv], H ++ G)) (hO : Own H N rv rows (H ++ G)) (hv : ∀ r ∈ rows, r.2 ≠ []) :
    cal (evC cprog) true g vs H = some (eTab (F, rows), H) := by
  obtain ⟨ids, hf, hi⟩ := fz_tab hO hv
  refine cal_frz h (ids := ids) ?_ (by rfl) hO.pre hi
  show (fzCells (fz (H ++ G) 8) [.int .i64 F, rv]).map _ = _
  have e0 : fz (H ++ G) 8 (.int .i64 F) = some (.int .i64 F, []) := rfl
  simp only [fzCells, e0, hf, Option.map_some, List.nil_append, List.append_nil]
  rfl
theorem f58F (F : Int) (rows : List Row) (hl : rows.length ≤ 1000000) (hv : ∀ r ∈ rows, r.2 ≠ [] ∧ r.2.length ≤ 1000000) (H : Heap) : cal (evC cprog) true 58 [.agg [.int .i64 F, .lst (rows.map rRow)]] H = some (eTab (F, rows), H) := by
  obtain ⟨rv, G, N, h, hO⟩ := f58' F rows hl hv H
  exact frz_tab h hO fun r hr => (hv r hr).1
theorem f59F (F : Int) (rows : List Row) (hl : rows.length ≤ 1000000) (hv : ∀ r ∈ rows, r.2 ≠ [] ∧ r.2.length ≤ 1000000) (H : Heap) : cal (evC cprog) true 59 [.agg [.int .i64 F, .lst (rows.map rRow)]] H = some (eTab (F, rows), H) := by
  obtain ⟨rv, G, N, h, hO⟩ := f59 F rows hl hv H
  exact frz_tab h hO fun r hr => (hv r hr).1

/-- the rows behind units, and which stood -/
noncomputable def ordered (F : Int) : List Row → List (List Fld) → List Row × List Bool
  | rows, [] => (rows, [])
  | rows, l :: us => ((ordered F (if (runUnit F rows l).1 < 0 then (runUnit F rows l).2 else rows) us).1, decide ((runUnit F rows l).1 < 0) :: (ordered F (if (runUnit F rows l).1 < 0 then (runUnit F rows l).2 else rows) us).2)
def rUnit (l : List Fld) : List AV := [eUnit l]
def rBool (b : Bool) : List AV := [.bool b]
/-- a table under way -/
structure Fine (F : Int) (m : Nat) (rows : List Row) : Prop where
  good : GoodRows F rows
  len : rows.length = m
  apart : Apart rows
theorem Fine.run {F : Int} {m : Nat} {rows : List Row} (h : Fine F m rows) (l : List Fld) : Fine F m (runUnit F rows l).2 :=
  ⟨runIdx_inv (F := F) (fun r => GoodRows F r) (fun r c h => h.doOne c) l rows 0 h.good, by rw [run_len]; exact h.len, run_apart F h.apart l⟩
theorem Fine.step {F : Int} {m : Nat} {rows : List Row} (h : Fine F m rows) (l : List Fld) : Fine F m (if (runUnit F rows l).1 < 0 then (runUnit F rows l).2 else rows) := by
  split
  · exact h.run l
  · exact h
theorem Fine.vals {F : Int} {m : Nat} {rows : List Row} (h : Fine F m rows) (hF : 0 < F) (hF2 : F ≤ 1000000) : ∀ r ∈ rows, r.2 ≠ [] ∧ r.2.length ≤ 1000000 := fun r hr => by
  have := (h.good r hr).1
  exact ⟨fun e => by rw [e] at this; simp at this; omega, by omega⟩
theorem l23 {F : Int} {m : Nat} (hF : 0 < F) (hF2 : F ≤ 1000000) (hm : m ≤ 1000000) (uv : AV) (H : Heap) (us : List (List Fld)) (hs : SlAt H 1 uv (us.map rUnit)) (hu : ∀ l ∈ us, l.length < 9223372036854775807) (hul : us.length ≤ 1000000) (B2 B4 : Blk) (rows : List Row) (hR : Fine F m rows)
    (st : St) (hE : keepEnv st.1 [4, 8, 9, 27, 28, 29] = [(4, .ptr (H.length + 1) 0 2 0 0), (8, .ptr (H.length + 2) 0 2 0 0), (9, .nils), (27, uv), (28, .int .i64 us.length), (29, .int .i64 0)])
    (hH : st.2 = H ++ (B2 :: B4 :: [⟨0, true, 24, 2, [[.int .i64 F, .lst (rows.map rRow)]]⟩])) (z : Option (CX × St)) (hz : itLim (evCode (evC cprog) itLim c23_l0) st = z) :
    ∃ T X sv, z = some (.exit 0, T, H ++ (B2 :: B4 :: ⟨0, true, 24, 2, [[.int .i64 F, .lst ((ordered F rows us).1.map rRow)]]⟩ :: X)) ∧ keepEnv T [4, 8, 9] = [(4, .ptr (H.length + 1) 0 2 0 0), (8, .ptr (H.length + 2) 0 2 0 0), (9, sv)] ∧
      Out (H.length + 3) 1 4 X sv ((ordered F rows us).2.map rBool) := by
  have L := loop_rule (σ := Nat × List Row × List Bool × Heap × AV) (m := [4, 8, 9, 27, 28, 29]) (env := fun i => [(4, .ptr (H.length + 1) 0 2 0 0), (8, .ptr (H.length + 2) 0 2 0 0), (9, i.2.2.2.2), (27, uv), (28, .int .i64 us.length), (29, .int .i64 (i.1 : Int))])
    (hp := fun i => H ++ (B2 :: B4 :: ⟨0, true, 24, 2, [[.int .i64 F, .lst (i.2.1.map rRow)]]⟩ :: i.2.2.2.1))
    (P := fun i r => ∃ T X sv, r = (.exit 0, T, H ++ (B2 :: B4 :: ⟨0, true, 24, 2, [[.int .i64 F, .lst ((ordered F i.2.1 (us.drop i.1)).1.map rRow)]]⟩ :: X)) ∧ keepEnv T [4, 8, 9] = [(4, .ptr (H.length + 1) 0 2 0 0), (8, .ptr (H.length + 2) 0 2 0 0), (9, sv)] ∧
      Out (H.length + 3) 1 4 X sv ((i.2.2.1 ++ (ordered F i.2.1 (us.drop i.1)).2).map rBool))
    (mu := fun i => us.length - i.1) (I := fun i => i.1 ≤ us.length ∧ Fine F m i.2.1 ∧ i.2.2.1.length = i.1 ∧ Out (H.length + 3) 1 4 i.2.2.2.1 i.2.2.2.2 (i.2.2.1.map rBool)) (evCode (evC cprog) itLim c23_l0) ?_ (0, rows, [], [], .nils) st ⟨Nat.zero_le _, hR, rfl, .nils ..⟩ hE hH z hz
  · obtain ⟨r, rfl, T, X, sv, rfl, h2, h3⟩ := L
    exact ⟨T, X, sv, rfl, h2, h3⟩
  · intro ⟨i, rows, bs, X, sv⟩ ⟨hi, hI, hbl, hO⟩ E hE
    simp only at hi hI hbl hO hE ⊢
    by_cases hlt : i < us.length
    · obtain ⟨l, hx⟩ : ∃ l, us[i]? = some l := ⟨_, List.getElem?_eq_getElem hlt⟩
      have hd : us.drop i = l :: us.drop (i + 1) := by
        rw [List.drop_eq_getElem_cons hlt]
        rw [List.getElem?_eq_getElem hlt] at hx
        cases hx; rfl
      have hi1 : (i : Int) < (us.length : Int) := by omega
      obtain ⟨_, p, hp, hat⟩ := hs.get i (rUnit l) (by rw [List.getElem?_map, hx]; rfl)
      have h44 := fun H => f44F F rows (by have := hI.len; omega) (hI.vals hF hF2) hI.good hF l (hu l (List.mem_of_getElem? hx)) H
      have hap := fun B8 Y a => out_app (hO.more Y) 1 (H ++ [B2, B4, B8]) (by simp) a
      simp only [List.append_assoc, List.cons_append, List.nil_append] at hap
      have hbnd : (bs.map rBool).length + 1 ≤ reach := by simp only [List.length_map, reach]; omega
      have e : ordered F rows (us.drop i) = ((ordered F (if (runUnit F rows l).1 < 0 then (runUnit F rows l).2 else rows) (us.drop (i + 1))).1, decide ((runUnit F rows l).1 < 0) :: (ordered F (if (runUnit F rows l).1 < 0 then (runUnit F rows l).2 else rows) (us.drop (i + 1))).2) := by
        rw [hd]; rfl
      have hfin := hI.step l
      by_cases hq : (runUnit F rows l).1 < 0
      all_goals
        simp only [hq, if_true, if_false, decide_true, decide_false] at e hfin
        simp only [c23_l0, hE, hi1, hp, hat.onex, h44, cells_tab, isTup_tab, hq, hap, src_ref, apO_cons, Nat.mul_one, hbnd, wrapS (Nat.lt_of_lt_of_le hlt (Nat.le_refl _)) (by omega : us.length < 9223372036854775807), evW, fn_eq, evR, Nat.reduceAdd, Nat.reduceLT, Nat.reduceLeDiff, reduceIte, Nat.reduceEqDiff, reduceCtorEq, argEnv, eq_self, if_true, if_false]
        repeat' (first | (rw [guardK_cases]; split <;> simp only [c23_l0, hE, hi1, hp, hat.onex, h44, cells_tab, isTup_tab, hq, hap, src_ref, apO_cons, Nat.mul_one, hbnd, wrapS (Nat.lt_of_lt_of_le hlt (Nat.le_refl _)) (by omega : us.length < 9223372036854775807), evW, evR, Nat.reduceAdd, Nat.reduceLT, Nat.reduceLeDiff, reduceIte, Nat.reduceEqDiff, reduceCtorEq, argEnv, eq_self, if_true, if_false, *]) | (rw [condK_bool]; split <;> simp only [c23_l0, hE, hi1, hp, hat.onex, h44, cells_tab, isTup_tab, hq, hap, src_ref, apO_cons, Nat.mul_one, hbnd, wrapS (Nat.lt_of_lt_of_le hlt (Nat.le_refl _)) (by omega : us.length < 9223372036854775807), evW, evR, Nat.reduceAdd, Nat.reduceLT, Nat.reduceLeDiff, reduceIte, Nat.reduceEqDiff, reduceCtorEq, argEnv, eq_self, if_true, if_false, *]) | (rw [guardD_cases]; split <;> simp only [c23_l0, hE, hi1, hp, hat.onex, h44, cells_tab, isTup_tab, hq, hap, src_ref, apO_cons, Nat.mul_one, hbnd, wrapS (Nat.lt_of_lt_of_le hlt (Nat.le_refl _)) (by omega : us.length < 9223372036854775807), evW, evR, Nat.reduceAdd, Nat.reduceLT, Nat.reduceLeDiff, reduceIte, Nat.reduceEqDiff, reduceCtorEq, argEnv, eq_self, if_true, if_false, *]))
      · exact q_next (i + 1, (runUnit F rows l).2, bs ++ [true], _, _) (by rfl) rfl ⟨by omega, hfin, by simp [hbl], by rw [List.map_append]; exact (hO.more _).step (by simp)⟩ (by simp only; omega) (fun r h => by simp only [e]; simpa using h)
      · exact q_next (i + 1, rows, bs ++ [false], _, _) (by rfl) rfl ⟨by omega, hfin, by simp [hbl], by rw [List.map_append]; exact (hO.more _).step (by simp)⟩ (by simp only; omega) (fun r h => by simp only [e]; simpa using h)
    · have : i = us.length := by omega
      subst this
      simp only [c23_l0, hE, Int.lt_irrefl, fn_eq, evR, Nat.reduceAdd, Nat.reduceLT, Nat.reduceLeDiff, reduceIte, Nat.reduceEqDiff, reduceCtorEq, argEnv, eq_self, if_true, if_false]
      repeat' (first | (rw [guardK_cases]; split <;> simp only [c23_l0, hE, Int.lt_irrefl, evR, Nat.reduceAdd, Nat.reduceLT, Nat.reduceLeDiff, reduceIte, Nat.reduceEqDiff, reduceCtorEq, argEnv, eq_self, if_true, if_false, *]) | (rw [condK_bool]; split <;> simp only [c23_l0, hE, Int.lt_irrefl, evR, Nat.reduceAdd, Nat.reduceLT, Nat.reduceLeDiff, reduceIte, Nat.reduceEqDiff, reduceCtorEq, argEnv, eq_self, if_true, if_false, *]))
      refine q_exit ?_
      simp only [List.drop_length, ordered, List.append_nil]
      exact ⟨_, X, sv, rfl, by rfl, hO⟩
end Go.Proofs.Ytehcdcnghcbimaa.Code
