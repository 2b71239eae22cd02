/- Texts of ours, joined into one file; each begins with its own remark. -/
import Derived.Test.YtcbmakanokmdjaaU2
/- plain: the items with some types alone, of the program and of the document. -/
set_option linter.unusedSimpArgs false
set_option linter.unusedVariables false
namespace Go.Proofs.Ytcbmakanokmdjaa.Code
open Go.Proofs.Ytcbmakanokmdjaa.Ev

def partI (l : List Int) (x : Item) : Item := ⟨at_ l x.type, x.data⟩
def partL (l : List Int) (f : List Item) : List Item := (f.filter fun x => decide (x.type ∈ l)).map (partI l)
theorem partL_step (l : List Int) {xs : List Item} {i : Nat} {x : Item} (hx : xs[i]? = some x) : partL l (xs.take (i + 1)) = partL l (xs.take i) ++ (if x.type ∈ l then [partI l x] else []) := by
  unfold partL
  rw [List.take_add_one, hx, Option.toList_some, List.filter_append, List.map_append]
  congr 1
  by_cases h : x.type ∈ l
  · simp [h]
  · simp [h]
theorem partL_len (l : List Int) (xs : List Item) : (partL l xs).length ≤ xs.length := by
  unfold partL
  rw [List.length_map]
  exact List.length_filter_le _ _
theorem parts_lt {ts : List Ty} {l : List Int} (hp : partsOk ts l = true) : ∀ (j i : Nat) (a c : Int), i < j → l[i]? = some a → l[j]? = some c → a < c := by
  intro j
  induction j with
  | zero => intro i a c h; omega
  | succ j ih =>
    intro i a c hij ha hc
    have h := tell_true.1 hp (j + 1) c hc
    simp only [partAt, rises, Bool.and_eq_true, Nat.add_sub_cancel] at h
    have hr := h.1.2
    rw [if_neg (by omega)] at hr
    split at hr
    · rename_i p hp'
      have h2 := of_decide_eq_true hr
      by_cases e : i = j
      · subst e; rw [hp'] at ha; cases ha; exact h2
      · have := ih i a p (by omega) ha hp'; omega
    · cases hr
theorem at_at {ts : List Ty} {l : List Int} (hp : partsOk ts l = true) {k : Nat} {t : Int} (h : l[k]? = some t) : at_ l t = (k : Int) := by
  obtain ⟨m, h1, h2, h3⟩ := at_some (List.mem_of_getElem? h)
  rw [h1]
  rcases Nat.lt_trichotomy m k with hm | hm | hm
  · have := parts_lt hp k m t t hm h3 h; omega
  · rw [hm]
  · have := parts_lt hp m k t t hm h h3; omega
noncomputable def errL (b : Base) (f : List Item) (l : List Int) : Int := if errF b f [] = 0 then errP b l else errF b f []
noncomputable def partLR (b : Base) (f : List Item) (l : List Int) : List Item := if errL b f l = 0 then partL l f else []
theorem l19 (f : List Item) (hf : f.length ≤ 1000) (l : List Int) (hl : l.length < 9223372036854775807) (H : Heap) (st : St) (hE : keepEnv st.1 [2, 11, 30, 31, 32] = [(2, eIs l), (11, .nils), (30, eItems f), (31, .int .i64 (f.length : Int)), (32, .int .i64 0)]) (hH : st.2 = H ++ [])
    (z : Option (CX × St)) (hz : itLim (evCode (evC cprog) itLim c19_l0) st = z) : ∃ T X rv, z = some (.exit 0, T, H ++ X) ∧ keepEnv T [11] = [(11, rv)] ∧ Out H.length 2 50 X rv ((partL l f).map rItem) := by
  have L := loop_rule (σ := Nat × Heap × AV) (m := [2, 11, 30, 31, 32]) (env := fun s => [(2, eIs l), (11, s.2.2), (30, eItems f), (31, .int .i64 (f.length : Int)), (32, .int .i64 (s.1 : Int))]) (hp := fun s => H ++ s.2.1)
    (P := fun _ r => ∃ T X rv, r = (.exit 0, T, H ++ X) ∧ keepEnv T [11] = [(11, rv)] ∧ Out H.length 2 50 X rv ((partL l f).map rItem))
    (mu := fun s => f.length - s.1) (I := fun s => s.1 ≤ f.length ∧ Out H.length 2 50 s.2.1 s.2.2 ((partL l (f.take s.1)).map rItem)) (evCode (evC cprog) itLim c19_l0) ?_ (0, [], .nils) st ⟨by simp, .nils ..⟩ hE hH z hz
  · obtain ⟨_, rfl, T, X, rv, rfl, h⟩ := L
    exact ⟨T, X, rv, rfl, h⟩
  · intro ⟨i, X, rv⟩ ⟨hi, hO⟩ E hE
    simp only at hi hO hE ⊢
    by_cases hlt : i < f.length
    · obtain ⟨x, hx⟩ : ∃ x, f[i]? = some x := ⟨_, List.getElem?_eq_getElem hlt⟩
      have hi1 : (i : Int) < (f.length : Int) := by omega
      have ha := aItem hx
      have h47 := f47' x.type l hl
      have hw := wrapS hlt (by omega)
      have hstep := partL_step l hx
      by_cases hm : x.type ∈ l
      · have hge : 0 ≤ at_ l x.type := Int.not_lt.1 fun h => at_neg.1 h hm
        rw [if_pos hm] at hstep
        have hlen := partL_len l (f.take i)
        rw [List.length_take] at hlen
        obtain ⟨rv', X', a1, a2, a3, a4, a5⟩ := app_row (hO.more [bItem x]) H rfl 24 (rItem (partI l x)) rfl (by simp only [List.length_map, reach]; omega)
        simp only [List.append_assoc, List.cons_append, List.nil_append, bItem, rItem, partI, List.length_append, List.length_cons, List.length_nil, Nat.zero_add] at a1
        simp only [c19_l0, hE, hi1, ha, rItem, h47, hge, a1, a2, hw, evX, Int.reduceEq, Int.reduceLT, Int.reduceLE, Nat.reduceMul, Nat.reduceMod, evW, fn_eq, evR, Nat.reduceAdd, Nat.reduceLT, Nat.reduceLeDiff, reduceIte, Nat.reduceEqDiff, reduceCtorEq, argEnv, eq_self, if_true, if_false]
        repeat' ((first | rw [guardK_cases] | rw [condK_bool] | rw [guardD_cases]); split <;> simp only [c19_l0, hE, hi1, ha, rItem, h47, hge, a1, a2, hw, evX, Int.reduceEq, Int.reduceLT, Int.reduceLE, Nat.reduceMul, Nat.reduceMod, evW, evR, Nat.reduceAdd, Nat.reduceLT, Nat.reduceLeDiff, reduceIte, Nat.reduceEqDiff, reduceCtorEq, argEnv, eq_self, if_true, if_false, *])
        exact q_next (i + 1, X', rv') (by rfl) rfl ⟨by omega, by simp only [hstep, List.map_append]; exact a3⟩ (by simp only; omega) fun r h => h
      · have hlt0 : ¬ 0 ≤ at_ l x.type := by have := at_neg.2 hm; omega
        rw [if_neg hm, List.append_nil] at hstep
        simp only [c19_l0, hE, hi1, ha, rItem, h47, hlt0, hw, evX, Int.reduceEq, Int.reduceLT, Int.reduceLE, Nat.reduceMul, Nat.reduceMod, evW, fn_eq, evR, Nat.reduceAdd, Nat.reduceLT, Nat.reduceLeDiff, reduceIte, Nat.reduceEqDiff, reduceCtorEq, argEnv, eq_self, if_true, if_false]
        repeat' ((first | rw [guardK_cases] | rw [condK_bool] | rw [guardD_cases]); split <;> simp only [c19_l0, hE, hi1, ha, rItem, h47, hlt0, hw, evX, Int.reduceEq, Int.reduceLT, Int.reduceLE, Nat.reduceMul, Nat.reduceMod, evW, evR, Nat.reduceAdd, Nat.reduceLT, Nat.reduceLeDiff, reduceIte, Nat.reduceEqDiff, reduceCtorEq, argEnv, eq_self, if_true, if_false, *])
        exact q_next (i + 1, X ++ [bItem x], rv) (by rfl) rfl ⟨by omega, by simp only [hstep]; exact hO.more _⟩ (by simp only; omega) fun r h => h
    · have hi1 : ¬ (i : Int) < (f.length : Int) := by omega
      simp only [c19_l0, hE, hi1, evX, Int.reduceEq, Int.reduceLT, Int.reduceLE, Nat.reduceMul, Nat.reduceMod, evW, fn_eq, evR, Nat.reduceAdd, Nat.reduceLT, Nat.reduceLeDiff, reduceIte, Nat.reduceEqDiff, reduceCtorEq, argEnv, eq_self, if_true, if_false]
      repeat' ((first | rw [guardK_cases] | rw [condK_bool] | rw [guardD_cases]); split <;> simp only [c19_l0, hE, hi1, evX, Int.reduceEq, Int.reduceLT, Int.reduceLE, Nat.reduceMul, Nat.reduceMod, evW, evR, Nat.reduceAdd, Nat.reduceLT, Nat.reduceLeDiff, reduceIte, Nat.reduceEqDiff, reduceCtorEq, argEnv, eq_self, if_true, if_false, *])
      rw [List.take_of_length_le (by omega)] at hO
      exact q_exit ⟨_, _, _, rfl, by rfl, hO⟩
theorem nil_slat (H : Heap) : SlAt H 1 .nils (([] : List Int).map rI) := out_slat (.nils 0 1 3 H) [] rfl (by simp)
theorem f19 (b : Base) (hb : b.Ok) (f : List Item) (hfl : f.length < 9223372036854775807) (l : List Int) (hl : l.length ≤ 1000) (H : Heap) : cal (evC cprog) true 19 [eBase b, eItems f, eIs l] H = some (eLE (partLR b f l) (errL b f l), H) := by
  rw [cal_of at19]
  have h37 := fun H => f37 b hb f .nils rfl [] (by simp) H (nil_slat H)
  have h46 := f46 b hb l hl
  have hlen := (sItems [] f).len
  simp only [List.length_map] at hlen
  simp only [eBase] at h37 h46
  by_cases he : errF b f [] = 0
  · obtain ⟨hr, _⟩ := errF_zero hb he
    have hel : errL b f l = errP b l := by unfold errL; rw [if_pos he]
    have hfl := hr.len
    by_cases hp : errP b l = 0
    · rw [show partLR b f l = partL l f from if_pos (by rw [hel]; exact hp), hel, hp]
      simp only [c19, eBase, cells_eItems, isTup_eItems, h37, he, h46, hp, hlen, evX, Int.reduceEq, Int.reduceLT, Int.reduceLE, Nat.reduceMul, Nat.reduceMod, evW, fn_eq, evR, Nat.reduceAdd, Nat.reduceLT, Nat.reduceLeDiff, reduceIte, Nat.reduceEqDiff, reduceCtorEq, argEnv, eq_self, if_true, if_false]
      repeat' ((first | rw [guardK_cases] | rw [condK_bool] | rw [guardD_cases]); split <;> simp only [c19, eBase, cells_eItems, isTup_eItems, h37, he, h46, hp, hlen, evX, Int.reduceEq, Int.reduceLT, Int.reduceLE, Nat.reduceMul, Nat.reduceMod, evW, evR, Nat.reduceAdd, Nat.reduceLT, Nat.reduceLeDiff, reduceIte, Nat.reduceEqDiff, reduceCtorEq, argEnv, eq_self, if_true, if_false, *])
      generalize hz : itLim _ _ = z
      obtain ⟨T, X, rv, rfl, hT, hO⟩ := l19 f (by omega) l (by omega) (H ++ [bBase b, bBase (partR b l)]) _ (by rfl) (by simp [bBase]) z hz
      simp only [hT, bBase, out_tup hO, evX, Int.reduceEq, Int.reduceLT, Int.reduceLE, Nat.reduceMul, Nat.reduceMod, evW, fn_eq, evR, Nat.reduceAdd, Nat.reduceLT, Nat.reduceLeDiff, reduceIte, Nat.reduceEqDiff, reduceCtorEq, argEnv, eq_self, if_true, if_false]
      repeat' ((first | rw [guardK_cases] | rw [condK_bool] | rw [guardD_cases]); split <;> simp only [hT, bBase, out_tup hO, evX, Int.reduceEq, Int.reduceLT, Int.reduceLE, Nat.reduceMul, Nat.reduceMod, evW, evR, Nat.reduceAdd, Nat.reduceLT, Nat.reduceLeDiff, reduceIte, Nat.reduceEqDiff, reduceCtorEq, argEnv, eq_self, if_true, if_false, *])
      obtain ⟨ids, g1, g2, g3⟩ := fz_out' hO (H ++ [bBase b, bBase (partR b l)]) rfl (plain_items _)
      exact frz_two (ids := ids) (by simp only [bBase, List.append_assoc, List.cons_append, List.nil_append] at g1; exact g1) g3 (by simp) (fun x hx => by have := g2 x hx; simp at this; omega) _ _
    · rw [show partLR b f l = [] from if_neg (by rw [hel]; exact hp), hel]
      simp only [c19, eBase, cells_eItems, isTup_eItems, h37, he, h46, hp, evX, Int.reduceEq, Int.reduceLT, Int.reduceLE, Nat.reduceMul, Nat.reduceMod, evW, fn_eq, evR, Nat.reduceAdd, Nat.reduceLT, Nat.reduceLeDiff, reduceIte, Nat.reduceEqDiff, reduceCtorEq, argEnv, eq_self, if_true, if_false]
      repeat' ((first | rw [guardK_cases] | rw [condK_bool] | rw [guardD_cases]); split <;> simp only [c19, eBase, cells_eItems, isTup_eItems, h37, he, h46, hp, evX, Int.reduceEq, Int.reduceLT, Int.reduceLE, Nat.reduceMul, Nat.reduceMod, evW, evR, Nat.reduceAdd, Nat.reduceLT, Nat.reduceLeDiff, reduceIte, Nat.reduceEqDiff, reduceCtorEq, argEnv, eq_self, if_true, if_false, *])
      exact frz_two (fz_nils _) rfl (by simp) (by simp) _ _
  · have hel : errL b f l = errF b f [] := by unfold errL; rw [if_neg he]
    rw [show partLR b f l = [] from if_neg (by rw [hel]; exact he), hel]
    simp only [c19, eBase, cells_eItems, isTup_eItems, h37, he, evX, Int.reduceEq, Int.reduceLT, Int.reduceLE, Nat.reduceMul, Nat.reduceMod, evW, fn_eq, evR, Nat.reduceAdd, Nat.reduceLT, Nat.reduceLeDiff, reduceIte, Nat.reduceEqDiff, reduceCtorEq, argEnv, eq_self, if_true, if_false]
    repeat' ((first | rw [guardK_cases] | rw [condK_bool] | rw [guardD_cases]); split <;> simp only [c19, eBase, cells_eItems, isTup_eItems, h37, he, evX, Int.reduceEq, Int.reduceLT, Int.reduceLE, Nat.reduceMul, Nat.reduceMod, evW, evR, Nat.reduceAdd, Nat.reduceLT, Nat.reduceLeDiff, reduceIte, Nat.reduceEqDiff, reduceCtorEq, argEnv, eq_self, if_true, if_false, *])
    exact frz_two (fz_nils _) rfl (by simp) (by simp) _ _
theorem l20a (f : List Item) (i : Nat) (x : Item) (hx : f[i]? = some x) (l : List Int) (hl : l.length ≤ 1000) (ts : List Ty) (hp : partsOk ts l = true) (H : Heap) (X0 : Heap) (rv0 : AV) (rows : List Item) (hrl : rows.length ≤ 1000) (hO0 : Out H.length 2 50 X0 rv0 (rows.map rItem)) (st : St)
    (hE : keepEnv st.1 [1, 2, 9, 10, 11] = [(1, eItems f), (2, eIs l), (9, rv0), (10, .int .i64 (i : Int)), (11, .int .i64 0)]) (hH : st.2 = H ++ X0)
    (z : Option (CX × St)) (hz : itLim (evCode (evC cprog) itLim c20_l0) st = z) : ∃ T X rv, z = some (.exit 2, T, H ++ X) ∧ keepEnv T [1, 2, 9, 10] = [(1, eItems f), (2, eIs l), (9, rv), (10, .int .i64 (i : Int))] ∧ Out H.length 2 50 X rv ((rows ++ if x.type ∈ l then [partI l x] else []).map rItem) := by
  have hlen := (sIs [] l).len
  simp only [List.length_map] at hlen
  have L := loop_rule (σ := Nat × Heap × AV) (m := [1, 2, 9, 10, 11]) (env := fun s => [(1, eItems f), (2, eIs l), (9, s.2.2), (10, .int .i64 (i : Int)), (11, .int .i64 (s.1 : Int))]) (hp := fun s => H ++ s.2.1)
    (P := fun _ r => ∃ T X rv, r = (.exit 2, T, H ++ X) ∧ keepEnv T [1, 2, 9, 10] = [(1, eItems f), (2, eIs l), (9, rv), (10, .int .i64 (i : Int))] ∧ Out H.length 2 50 X rv ((rows ++ if x.type ∈ l then [partI l x] else []).map rItem))
    (mu := fun s => l.length - s.1) (I := fun s => s.1 ≤ l.length ∧ Out H.length 2 50 s.2.1 s.2.2 ((rows ++ if x.type ∈ l.take s.1 then [partI l x] else []).map rItem)) (evCode (evC cprog) itLim c20_l0) ?_ (0, X0, rv0) st ⟨by simp, by simpa using hO0⟩ hE hH z hz
  · obtain ⟨_, rfl, T, X, rv, rfl, h⟩ := L
    exact ⟨T, X, rv, rfl, h⟩
  · intro ⟨k, X, rv⟩ ⟨hk, hO⟩ E hE
    simp only at hk hO hE ⊢
    by_cases hlt : k < l.length
    · obtain ⟨t, ht⟩ : ∃ t, l[k]? = some t := ⟨_, List.getElem?_eq_getElem hlt⟩
      have hk1 : (k : Int) < (l.length : Int) := by omega
      have ha := aI ht
      have ha' := aItem hx
      have hw := wrapS hlt (by omega)
      have hmem : x.type ∈ l.take (k + 1) ↔ x.type ∈ l.take k ∨ t = x.type := by
        rw [List.take_add_one, ht, Option.toList_some, List.mem_append, List.mem_singleton]
        constructor <;> (rintro (h | h); exact .inl h; exact .inr h.symm)
      by_cases e : t = x.type
      · have hno : x.type ∉ l.take k := fun hm => by
          obtain ⟨j, hj⟩ := List.getElem?_of_mem hm
          rw [List.getElem?_take] at hj
          split at hj
          · have := parts_lt hp k j _ _ (by assumption) hj ht; omega
          · cases hj
        rw [if_neg hno, List.append_nil] at hO
        have hpi : partI l x = ⟨(k : Int), x.data⟩ := by unfold partI; rw [← e, at_at hp ht]
        obtain ⟨rv', X', a1, a2, a3, a4, a5⟩ := app_row hO H rfl 24 (rItem ⟨(k : Int), x.data⟩) rfl (by simp only [List.length_map, reach]; omega)
        simp only [rItem] at a1
        simp only [c20_l0, hE, hk1, hlen, ha, ha', rI, rItem, e, a1, a2, hw, evX, Int.reduceEq, Int.reduceLT, Int.reduceLE, Nat.reduceMul, Nat.reduceMod, evW, fn_eq, evR, Nat.reduceAdd, Nat.reduceLT, Nat.reduceLeDiff, reduceIte, Nat.reduceEqDiff, reduceCtorEq, argEnv, eq_self, if_true, if_false]
        repeat' ((first | rw [guardK_cases] | rw [condK_bool] | rw [guardD_cases]); split <;> simp only [c20_l0, hE, hk1, hlen, ha, ha', rI, rItem, e, a1, a2, hw, evX, Int.reduceEq, Int.reduceLT, Int.reduceLE, Nat.reduceMul, Nat.reduceMod, evW, evR, Nat.reduceAdd, Nat.reduceLT, Nat.reduceLeDiff, reduceIte, Nat.reduceEqDiff, reduceCtorEq, argEnv, eq_self, if_true, if_false, *])
        refine q_next (k + 1, X', rv') (by rfl) rfl ⟨by omega, ?_⟩ (by simp only; omega) fun r h => h
        simp only
        rw [if_pos (hmem.2 (.inr e)), List.map_append, List.map_singleton, hpi]
        exact a3
      · simp only [c20_l0, hE, hk1, hlen, ha, ha', rI, rItem, e, hw, evX, Int.reduceEq, Int.reduceLT, Int.reduceLE, Nat.reduceMul, Nat.reduceMod, evW, fn_eq, evR, Nat.reduceAdd, Nat.reduceLT, Nat.reduceLeDiff, reduceIte, Nat.reduceEqDiff, reduceCtorEq, argEnv, eq_self, if_true, if_false]
        repeat' ((first | rw [guardK_cases] | rw [condK_bool] | rw [guardD_cases]); split <;> simp only [c20_l0, hE, hk1, hlen, ha, ha', rI, rItem, e, hw, evX, Int.reduceEq, Int.reduceLT, Int.reduceLE, Nat.reduceMul, Nat.reduceMod, evW, evR, Nat.reduceAdd, Nat.reduceLT, Nat.reduceLeDiff, reduceIte, Nat.reduceEqDiff, reduceCtorEq, argEnv, eq_self, if_true, if_false, *])
        refine q_next (k + 1, X, rv) (by rfl) rfl ⟨by omega, ?_⟩ (by simp only; omega) fun r h => h
        simp only
        have : (x.type ∈ l.take (k + 1)) = (x.type ∈ l.take k) := propext (by rw [hmem]; simp [e])
        simp only [this]; exact hO
    · have hk1 : ¬ (k : Int) < (l.length : Int) := by omega
      simp only [c20_l0, hE, hk1, hlen, evX, Int.reduceEq, Int.reduceLT, Int.reduceLE, Nat.reduceMul, Nat.reduceMod, evW, fn_eq, evR, Nat.reduceAdd, Nat.reduceLT, Nat.reduceLeDiff, reduceIte, Nat.reduceEqDiff, reduceCtorEq, argEnv, eq_self, if_true, if_false]
      repeat' ((first | rw [guardK_cases] | rw [condK_bool] | rw [guardD_cases]); split <;> simp only [c20_l0, hE, hk1, hlen, evX, Int.reduceEq, Int.reduceLT, Int.reduceLE, Nat.reduceMul, Nat.reduceMod, evW, evR, Nat.reduceAdd, Nat.reduceLT, Nat.reduceLeDiff, reduceIte, Nat.reduceEqDiff, reduceCtorEq, argEnv, eq_self, if_true, if_false, *])
      rw [List.take_of_length_le (by omega)] at hO
      exact q_exit ⟨_, _, _, rfl, by rfl, hO⟩
theorem l20 (f : List Item) (hf : f.length ≤ 900) (l : List Int) (hl : l.length ≤ 1000) (ts : List Ty) (hp : partsOk ts l = true) (H : Heap) (st : St) (hE : keepEnv st.1 [1, 2, 9, 10] = [(1, eItems f), (2, eIs l), (9, .nils), (10, .int .i64 0)]) (hH : st.2 = H ++ [])
    (z : Option (CX × St)) (hz : itLim (evCode (evC cprog) itLim c20_l1) st = z) : ∃ T X rv, z = some (.exit 0, T, H ++ X) ∧ keepEnv T [9] = [(9, rv)] ∧ Out H.length 2 50 X rv ((partL l f).map rItem) := by
  have hlen := (sItems [] f).len
  simp only [List.length_map] at hlen
  have L := loop_rule (σ := Nat × Heap × AV) (m := [1, 2, 9, 10]) (env := fun s => [(1, eItems f), (2, eIs l), (9, s.2.2), (10, .int .i64 (s.1 : Int))]) (hp := fun s => H ++ s.2.1)
    (P := fun _ r => ∃ T X rv, r = (.exit 0, T, H ++ X) ∧ keepEnv T [9] = [(9, rv)] ∧ Out H.length 2 50 X rv ((partL l f).map rItem))
    (mu := fun s => f.length - s.1) (I := fun s => s.1 ≤ f.length ∧ Out H.length 2 50 s.2.1 s.2.2 ((partL l (f.take s.1)).map rItem)) (evCode (evC cprog) itLim c20_l1) ?_ (0, [], .nils) st ⟨by simp, .nils ..⟩ hE hH z hz
  · obtain ⟨_, rfl, T, X, rv, rfl, h⟩ := L
    exact ⟨T, X, rv, rfl, h⟩
  · intro ⟨i, X, rv⟩ ⟨hi, hO⟩ E hE
    simp only at hi hO hE ⊢
    by_cases hlt : i < f.length
    · obtain ⟨x, hx⟩ : ∃ x, f[i]? = some x := ⟨_, List.getElem?_eq_getElem hlt⟩
      have hi1 : (i : Int) < (f.length : Int) := by omega
      have hw := wrapS hlt (by omega)
      have hll := partL_len l (f.take i)
      rw [List.length_take] at hll
      simp only [c20_l1, hE, hi1, hlen, evX, Int.reduceEq, Int.reduceLT, Int.reduceLE, Nat.reduceMul, Nat.reduceMod, evW, fn_eq, evR, Nat.reduceAdd, Nat.reduceLT, Nat.reduceLeDiff, reduceIte, Nat.reduceEqDiff, reduceCtorEq, argEnv, eq_self, if_true, if_false]
      repeat' ((first | rw [guardK_cases] | rw [condK_bool] | rw [guardD_cases]); split <;> simp only [c20_l1, hE, hi1, hlen, evX, Int.reduceEq, Int.reduceLT, Int.reduceLE, Nat.reduceMul, Nat.reduceMod, evW, evR, Nat.reduceAdd, Nat.reduceLT, Nat.reduceLeDiff, reduceIte, Nat.reduceEqDiff, reduceCtorEq, argEnv, eq_self, if_true, if_false, *])
      generalize hz : itLim _ _ = z
      obtain ⟨T, X', rv', rfl, hT, hO'⟩ := l20a f i x hx l hl ts hp H X rv (partL l (f.take i)) (by omega) hO _ (by rfl) rfl z hz
      simp only [hT, hw, evX, Int.reduceEq, Int.reduceLT, Int.reduceLE, Nat.reduceMul, Nat.reduceMod, evW, fn_eq, evR, Nat.reduceAdd, Nat.reduceLT, Nat.reduceLeDiff, reduceIte, Nat.reduceEqDiff, reduceCtorEq, argEnv, eq_self, if_true, if_false]
      repeat' ((first | rw [guardK_cases] | rw [condK_bool] | rw [guardD_cases]); split <;> simp only [hT, hw, evX, Int.reduceEq, Int.reduceLT, Int.reduceLE, Nat.reduceMul, Nat.reduceMod, evW, evR, Nat.reduceAdd, Nat.reduceLT, Nat.reduceLeDiff, reduceIte, Nat.reduceEqDiff, reduceCtorEq, argEnv, eq_self, if_true, if_false, *])
      exact q_next (i + 1, X', rv') (by rfl) rfl ⟨by omega, by simp only [partL_step l hx]; exact hO'⟩ (by simp only; omega) fun r h => h
    · have hi1 : ¬ (i : Int) < (f.length : Int) := by omega
      simp only [c20_l1, hE, hi1, hlen, evX, Int.reduceEq, Int.reduceLT, Int.reduceLE, Nat.reduceMul, Nat.reduceMod, evW, fn_eq, evR, Nat.reduceAdd, Nat.reduceLT, Nat.reduceLeDiff, reduceIte, Nat.reduceEqDiff, reduceCtorEq, argEnv, eq_self, if_true, if_false]
      repeat' ((first | rw [guardK_cases] | rw [condK_bool] | rw [guardD_cases]); split <;> simp only [c20_l1, hE, hi1, hlen, evX, Int.reduceEq, Int.reduceLT, Int.reduceLE, Nat.reduceMul, Nat.reduceMod, evW, evR, Nat.reduceAdd, Nat.reduceLT, Nat.reduceLeDiff, reduceIte, Nat.reduceEqDiff, reduceCtorEq, argEnv, eq_self, if_true, if_false, *])
      rw [List.take_of_length_le (by omega)] at hO
      exact q_exit ⟨_, _, _, rfl, by rfl, hO⟩
theorem f20 (b : Base) (hb : b.Ok) (f : List Item) (hfl : f.length < 9223372036854775807) (l : List Int) (hl : l.length ≤ 1000) (H : Heap) : cal (evC cprog) true 20 [eBase b, eItems f, eIs l] H = some (eLE (partLR b f l) (errL b f l), H) := by
  rw [cal_of at20]
  have h22 := fun H => f22 b hb f hfl .nils [] (by simp) H (nil_slat H)
  have h23 := f23 b l (by omega)
  simp only [eBase] at h22 h23
  by_cases he : errF b f [] = 0
  · obtain ⟨hr, _⟩ := errF_zero hb he
    have hel : errL b f l = errP b l := by unfold errL; rw [if_pos he]
    have hfl := hr.len
    cases hq : isPart b.types l with
    | true =>
      have hp : errP b l = 0 := by unfold errP; rw [if_pos hr.valid, if_pos hq]
      have hpo : partsOk b.types l = true := by simp only [isPart, Bool.and_eq_true] at hq; exact hq.1
      rw [show partLR b f l = partL l f from if_pos (by rw [hel]; exact hp), hel, hp]
      simp only [c20, eBase, h22, he, h23, hq, evX, Int.reduceEq, Int.reduceLT, Int.reduceLE, Nat.reduceMul, Nat.reduceMod, evW, fn_eq, evR, Nat.reduceAdd, Nat.reduceLT, Nat.reduceLeDiff, reduceIte, Nat.reduceEqDiff, reduceCtorEq, argEnv, eq_self, if_true, if_false]
      repeat' ((first | rw [guardK_cases] | rw [condK_bool] | rw [guardD_cases]); split <;> simp only [c20, eBase, h22, he, h23, hq, evX, Int.reduceEq, Int.reduceLT, Int.reduceLE, Nat.reduceMul, Nat.reduceMod, evW, evR, Nat.reduceAdd, Nat.reduceLT, Nat.reduceLeDiff, reduceIte, Nat.reduceEqDiff, reduceCtorEq, argEnv, eq_self, if_true, if_false, *])
      generalize hz : itLim _ _ = z
      obtain ⟨T, X, rv, rfl, hT, hO⟩ := l20 f (by omega) l hl b.types hpo (H ++ [bBase b]) _ (by rfl) (by simp [bBase]) z hz
      simp only [hT, bBase, out_tup hO, evX, Int.reduceEq, Int.reduceLT, Int.reduceLE, Nat.reduceMul, Nat.reduceMod, evW, fn_eq, evR, Nat.reduceAdd, Nat.reduceLT, Nat.reduceLeDiff, reduceIte, Nat.reduceEqDiff, reduceCtorEq, argEnv, eq_self, if_true, if_false]
      repeat' ((first | rw [guardK_cases] | rw [condK_bool] | rw [guardD_cases]); split <;> simp only [hT, bBase, out_tup hO, evX, Int.reduceEq, Int.reduceLT, Int.reduceLE, Nat.reduceMul, Nat.reduceMod, evW, evR, Nat.reduceAdd, Nat.reduceLT, Nat.reduceLeDiff, reduceIte, Nat.reduceEqDiff, reduceCtorEq, argEnv, eq_self, if_true, if_false, *])
      obtain ⟨ids, g1, g2, g3⟩ := fz_out' hO (H ++ [bBase b]) rfl (plain_items _)
      exact frz_two (ids := ids) (by simp only [bBase, List.append_assoc, List.cons_append, List.nil_append] at g1; exact g1) g3 (by simp) (fun x hx => by have := g2 x hx; simp at this; omega) _ _
    | false =>
      have hp : errP b l = 2 := by unfold errP; rw [if_pos hr.valid, if_neg (by simp [hq])]
      rw [show partLR b f l = [] from if_neg (by rw [hel, hp]; omega), hel, hp]
      simp only [c20, eBase, h22, he, h23, hq, evX, Int.reduceEq, Int.reduceLT, Int.reduceLE, Nat.reduceMul, Nat.reduceMod, evW, fn_eq, evR, Nat.reduceAdd, Nat.reduceLT, Nat.reduceLeDiff, reduceIte, Nat.reduceEqDiff, reduceCtorEq, argEnv, eq_self, if_true, if_false]
      repeat' ((first | rw [guardK_cases] | rw [condK_bool] | rw [guardD_cases]); split <;> simp only [c20, eBase, h22, he, h23, hq, evX, Int.reduceEq, Int.reduceLT, Int.reduceLE, Nat.reduceMul, Nat.reduceMod, evW, evR, Nat.reduceAdd, Nat.reduceLT, Nat.reduceLeDiff, reduceIte, Nat.reduceEqDiff, reduceCtorEq, argEnv, eq_self, if_true, if_false, *])
      exact frz_two (fz_nils _) rfl (by simp) (by simp) _ _
  · have hel : errL b f l = errF b f [] := by unfold errL; rw [if_neg he]
    rw [show partLR b f l = [] from if_neg (by rw [hel]; exact he), hel]
    simp only [c20, eBase, h22, he, evX, Int.reduceEq, Int.reduceLT, Int.reduceLE, Nat.reduceMul, Nat.reduceMod, evW, fn_eq, evR, Nat.reduceAdd, Nat.reduceLT, Nat.reduceLeDiff, reduceIte, Nat.reduceEqDiff, reduceCtorEq, argEnv, eq_self, if_true, if_false]
    repeat' ((first | rw [guardK_cases] | rw [condK_bool] | rw [guardD_cases]); split <;> simp only [c20, eBase, h22, he, evX, Int.reduceEq, Int.reduceLT, Int.reduceLE, Nat.reduceMul, Nat.reduceMod, evW, evR, Nat.reduceAdd, Nat.reduceLT, Nat.reduceLeDiff, reduceIte, Nat.reduceEqDiff, reduceCtorEq, argEnv, eq_self, if_true, if_false, *])
    exact frz_two (fz_nils _) rfl (by simp) (by simp) _ _
end Go.Proofs.Ytcbmakanokmdjaa.Code

/- plain: a base with some types alone is valid (mathematics). -/
set_option linter.unusedSimpArgs false
set_option linter.unusedVariables false
namespace Go.Proofs.Ytcbmakanokmdjaa.Code
open Go.Proofs.Ytcbmakanokmdjaa.Ev

theorem nodup_take {α : Type} (g : α → ByteArray) (l : List α) : (∀ (i : Nat) (x : α), l[i]? = some x → ((l.take i).any fun y => decide (g y = g x)) = false) ↔ (l.map g).Nodup := by
  unfold List.Nodup
  rw [List.pairwise_iff_getElem]
  constructor
  · intro h i j hi hj hij e
    rw [List.length_map] at hi hj
    rw [List.getElem_map, List.getElem_map] at e
    have h1 := List.any_eq_false.1 (h j l[j] (List.getElem?_eq_getElem hj)) l[i] (List.mem_of_getElem? (i := i) (by rw [List.getElem?_take, if_pos hij, List.getElem?_eq_getElem (by omega)]))
    simp [e] at h1
  · intro h i x hx
    rw [List.any_eq_false]
    intro y hy hyx
    obtain ⟨j, hj⟩ := List.getElem?_of_mem hy
    rw [List.getElem?_take] at hj
    split at hj
    · rename_i hji
      obtain ⟨hi, rfl⟩ := List.getElem?_eq_some_iff.1 hx
      obtain ⟨hj', rfl⟩ := List.getElem?_eq_some_iff.1 hj
      refine h j i (by rw [List.length_map]; exact hj') (by rw [List.length_map]; exact hi) hji ?_
      rw [List.getElem_map, List.getElem_map]
      exact of_decide_eq_true hyx
    · cases hj
structure Part (b : Base) (l : List Int) : Prop where
  base : b.Ok
  valid : validB b = true
  parts : partsOk b.types l = true
  ne : l ≠ []
theorem Part.tys {b : Base} {l : List Int} (h : Part b l) : tysOk b.types = true := valid_tys h.valid
theorem Part.at {b : Base} {l : List Int} (h : Part b l) {i : Nat} {t : Int} (hx : l[i]? = some t) : ∃ (k : Nat) (u : Ty), t = (k : Int) ∧ k < b.types.length ∧ b.types[k]? = some u ∧ tyAt b.types k u = true := by
  obtain ⟨k, u, h1, h2, h3⟩ := in_types (isPart_range h.parts t (List.mem_of_getElem? hx))
  exact ⟨k, u, h1, h2, h3, tell_true.1 h.tys k u h3⟩
theorem Part.ge {b : Base} {l : List Int} (h : Part b l) : ∀ (i : Nat) (t : Int), l[i]? = some t → (i : Int) ≤ t := by
  intro i
  induction i with
  | zero => intro t ht; obtain ⟨k, u, rfl, _⟩ := h.at ht; omega
  | succ i ih =>
    intro t ht
    have hlt := (List.getElem?_eq_some_iff.1 ht).1
    have := ih l[i] (List.getElem?_eq_getElem (by omega))
    have := parts_lt h.parts (i + 1) i l[i] t (by omega) (List.getElem?_eq_getElem (by omega)) ht
    omega
theorem Part.len {b : Base} {l : List Int} (h : Part b l) : l.length ≤ b.types.length := by
  have hpos := List.length_pos_iff.2 h.ne
  have h1 := h.ge (l.length - 1) l[l.length - 1] (List.getElem?_eq_getElem (by omega))
  obtain ⟨k, u, h2, h3, _⟩ := h.at (List.getElem?_eq_getElem (show l.length - 1 < l.length by omega))
  omega
theorem at_none {l : List Int} {n : Int} (h : n ∉ l) : at_ l n = -1 := by
  unfold at_ idxOf
  rw [List.findIdx?_eq_none_iff.2 fun x hx => by simp; rintro rfl; exact h hx]
/-- the first type of a part is the root; a later one's parent stands ahead -/
theorem Part.par {b : Base} {l : List Int} (h : Part b l) {i k : Nat} {u : Ty} (hx : l[i]? = some (k : Int)) (hu : b.types[k]? = some u) :
    (i = 0 ∧ k = 0 ∧ u.parent = -1 ∧ at_ l u.parent = -1) ∨ ∃ (p m : Nat), 0 < i ∧ 0 < k ∧ u.parent = (p : Int) ∧ m < i ∧ l[m]? = some (p : Int) ∧ at_ l u.parent = (m : Int) := by
  have hp := tell_true.1 h.parts i _ hx
  have ht := tell_true.1 h.tys k u hu
  simp only [partAt, Bool.and_eq_true, Bool.or_eq_true, decide_eq_true_eq, tpar_at hu] at hp
  by_cases hk : k = 0
  · subst hk
    have h1 := parent_root ht
    have hi : i = 0 := by have := h.ge i _ hx; omega
    refine .inl ⟨hi, rfl, h1, ?_⟩
    rw [h1]
    refine at_none fun hm => ?_
    obtain ⟨j, hj⟩ := List.getElem?_of_mem hm
    have := h.ge j _ hj; omega
  · obtain ⟨p, h1, h2, _⟩ := parent_of ht hk
    have hm : u.parent ∈ l.take i := by rcases hp.2 with h | h; (· omega); exact h
    obtain ⟨m, hm⟩ := List.getElem?_of_mem hm
    rw [List.getElem?_take] at hm
    split at hm
    · rename_i hmi
      exact .inr ⟨p, m, by omega, by omega, h1, hmi, by rw [hm, h1], at_at h.parts hm⟩
    · cases hm
theorem tys_between {ts : List Ty} (ht : tysOk ts = true) : ∀ (j : Nat), j < ts.length → ∀ a ∈ anc ts j, ∀ j' : Nat, a ≤ (j' : Int) → j' ≤ j → a ∈ anc ts j' := by
  intro j
  induction j with
  | zero =>
    intro hj a ha j' _ h2
    have e : j' = 0 := by omega
    subst e; exact ha
  | succ j ih =>
    intro hj a ha j' h1 h2
    by_cases e : j' = j + 1
    · subst e; exact ha
    · obtain ⟨t, htt⟩ : ∃ t, ts[j + 1]? = some t := ⟨_, List.getElem?_eq_getElem hj⟩
      obtain ⟨p, h3, h4, h5⟩ := parent_of (tell_true.1 ht (j + 1) t htt) (by omega)
      refine ih (by omega) a ?_ j' h1 (by omega)
      rw [anc_up htt h3 h4] at ha
      rcases List.mem_append.1 ha with ha | ha
      · exact anc_trans ts h5 ha
      · simp at ha; omega
def pTys (b : Base) (l : List Int) : List Ty := l.map (partTy b.types l)
theorem pTys_at {b : Base} {l : List Int} {i k : Nat} {u : Ty} (hx : l[i]? = some (k : Int)) (hu : b.types[k]? = some u) : (pTys b l)[i]? = some (upTy u (at_ l u.parent)) := by
  unfold pTys
  rw [List.getElem?_map, hx, Option.map_some, partTy, tyOf_at hu, tpar_at hu]
theorem pTys_anc {b : Base} {l : List Int} (h : Part b l) : ∀ (n i : Nat), i ≤ n → ∀ k : Nat, l[i]? = some (k : Int) → anc (pTys b l) i = (anc b.types k).map (at_ l) := by
  intro n
  induction n with
  | zero =>
    intro i hi k hx
    obtain rfl : i = 0 := by omega
    obtain ⟨k', u, h1, h2, hu, _⟩ := h.at hx
    obtain rfl : k' = k := by omega
    rcases h.par hx hu with ⟨_, hk, h3, h4⟩ | ⟨p, m, h3, _⟩
    · subst hk
      rw [anc_root (ts := pTys b l) fun t' ht' => by rw [pTys_at hx hu] at ht'; cases ht'; show at_ l u.parent < 0; omega, anc_root fun t' ht' => by rw [hu] at ht'; cases ht'; omega]
      rw [List.map_singleton, at_at h.parts hx]
    · omega
  | succ n ih =>
    intro i hi k hx
    obtain ⟨k', u, h1, h2, hu, _⟩ := h.at hx
    obtain rfl : k' = k := by omega
    rcases h.par hx hu with ⟨rfl, _⟩ | ⟨p, m, h3, h4, h5, h6, h7, h8⟩
    · exact ih 0 (by omega) k' hx
    · have hgt := tys_good h.tys k' u h2 hu
      rw [anc_up (pTys_at hx hu) (p := m) (by rw [upTy, h8]) h6, anc_up hu h5 (by omega), List.map_append, List.map_singleton, at_at h.parts hx, ih m (by omega) p h7]
theorem Part.tyAt {b : Base} {l : List Int} (h : Part b l) {i k : Nat} {u : Ty} (hx : l[i]? = some (k : Int)) (hu : b.types[k]? = some u) : Code.tyAt (pTys b l) i (upTy u (at_ l u.parent)) = true := by
  have ht := tell_true.1 h.tys k u hu
  have hkl := (List.getElem?_eq_some_iff.1 hu).1
  have hil := (List.getElem?_eq_some_iff.1 hx).1
  have h0 := ht
  simp only [Code.tyAt, Bool.and_eq_true, decide_eq_true_eq] at h0
  obtain ⟨⟨⟨a1, a2⟩, a3⟩, a4⟩ := h0
  unfold Code.tyAt
  simp only [Bool.and_eq_true, decide_eq_true_eq]
  refine ⟨⟨⟨a1, ?_⟩, ?_⟩, ?_⟩
  · rw [Bool.not_eq_true', List.any_eq_false]
    intro y hy hyn
    obtain ⟨j, hj⟩ := List.getElem?_of_mem hy
    rw [List.getElem?_take] at hj
    split at hj
    · rename_i hji
      obtain ⟨q, w, g1, g2, g3, _⟩ := h.at (List.getElem?_eq_getElem (show j < l.length by omega))
      have hjq : l[j]? = some (q : Int) := by rw [← g1]; exact List.getElem?_eq_getElem _
      rw [pTys_at hjq g3] at hj
      cases hj
      have hlt := parts_lt h.parts i j _ _ hji hjq hx
      rw [Bool.not_eq_true', List.any_eq_false] at a2
      exact a2 w (List.mem_of_getElem? (i := q) (by rw [List.getElem?_take, if_pos (by omega)]; exact g3)) hyn
    · cases hj
  · rcases h.par hx hu with ⟨rfl, rfl, h3, h4⟩ | ⟨p, m, h3, h4, h5, h6, h7, h8⟩
    · rw [if_pos rfl] at a3 ⊢
      have e : upTy u (at_ l u.parent) = u := by rw [h4, ← h3]; rfl
      rw [e]; exact a3
    · rw [if_neg (by omega)] at a3 ⊢
      have a3 := of_decide_eq_true a3
      obtain ⟨j, rfl⟩ : ∃ j, i = j + 1 := ⟨i - 1, by omega⟩
      obtain ⟨r, rfl⟩ : ∃ r, k = r + 1 := ⟨k - 1, by omega⟩
      obtain ⟨v, w, g1, g2, g3, _⟩ := h.at (List.getElem?_eq_getElem (show j < l.length by omega))
      have hjv : l[j]? = some (v : Int) := by rw [← g1]; exact List.getElem?_eq_getElem _
      have hv := parts_lt h.parts (j + 1) j _ _ (by omega) hjv hx
      have hpv : (p : Int) ≤ (v : Int) := by
        by_cases e : m = j
        · subst e; rw [h7] at hjv; cases hjv; exact Int.le_refl _
        · have := parts_lt h.parts j m _ _ (by omega) h7 hjv; omega
      change u.parent ∈ anc b.types r at a3
      rw [h5] at a3
      have hm := tys_between h.tys r (by omega) _ a3 v hpv (by omega)
      refine decide_eq_true ?_
      show at_ l u.parent ∈ anc (pTys b l) j
      rw [pTys_anc h j j (Nat.le_refl _) v hjv, h5]
      exact List.mem_map_of_mem hm
  · rw [pTys_anc h i i (Nat.le_refl _) k hx, List.length_map]
    exact a4
theorem Part.tysOk {b : Base} {l : List Int} (h : Part b l) : Code.tysOk (pTys b l) = true := tell_pos fun i t ht => by
  unfold pTys at ht
  rw [List.getElem?_map] at ht
  cases hx : l[i]? with
  | none => rw [hx] at ht; cases ht
  | some x =>
    obtain ⟨k, u, rfl, _, hu, _⟩ := h.at hx
    rw [hx, Option.map_some, partTy, tyOf_at hu, tpar_at hu] at ht
    cases ht
    exact h.tyAt hx hu
end Go.Proofs.Ytcbmakanokmdjaa.Code

/- plain: a base with some types alone is valid; siblings that stand further apart (mathematics). -/
set_option linter.unusedSimpArgs false
set_option linter.unusedVariables false
namespace Go.Proofs.Ytcbmakanokmdjaa.Code
open Go.Proofs.Ytcbmakanokmdjaa.Ev

theorem ses_at {b : Base} (h : validB b = true) {q : Nat} {x : Se} (hx : b.indexes[q]? = some x) : seOk b.types b.indexes q x = true := by
  simp only [validB, Bool.and_eq_true] at h
  exact tell_true.1 h.1.2 q x hx
theorem Part.ses {b : Base} {l : List Int} (h : Part b l) : sesOk (pTys b l) (partSes l b.indexes) = true := by
  have hn : (b.indexes.map (·.name)).Nodup := (nodup_take (·.name) b.indexes).1 fun i x hx => by
    have := ses_at h.valid hx
    simp only [seOk, Bool.and_eq_true, Bool.not_eq_true'] at this
    exact this.1.2
  have hn' : ((partSes l b.indexes).map (·.name)).Nodup := by
    unfold partSes
    rw [List.map_map]
    exact hn.sublist ((List.filter_sublist (l := b.indexes)).map (·.name))
  have hn2 := (nodup_take (·.name) (partSes l b.indexes)).2 hn'
  refine tell_pos fun i x' hx' => ?_
  have hm := List.mem_of_getElem? hx'
  unfold partSes at hm
  obtain ⟨x, hx, rfl⟩ := List.mem_map.1 hm
  obtain ⟨hxi, hxl⟩ := List.mem_filter.1 hx
  have hxl := of_decide_eq_true hxl
  obtain ⟨q, hq⟩ := List.getElem?_of_mem hxi
  have hs := ses_at h.valid hq
  simp only [seOk, Bool.and_eq_true, Bool.not_eq_true'] at hs ⊢
  refine ⟨⟨hs.1.1, hn2 i _ hx'⟩, ?_⟩
  obtain ⟨m, g1, g2, g3⟩ := at_some hxl
  obtain ⟨k, u, g4, g5, g6, _⟩ := h.at g3
  have e : fldOf (pTys b l) (partSe l x) = fldOf b.types x := by
    rw [g4] at g1 g3
    unfold fldOf partSe
    simp only [g4, g1, Int.toNat_natCast]
    rw [pTys_at g3 g6, g6]
    by_cases hf : 0 ≤ x.field
    · rw [if_pos ⟨by omega, hf⟩, if_pos ⟨by omega, hf⟩]; rfl
    · rw [if_neg (by omega), if_neg (by omega)]
  rw [e]; exact hs.2
theorem Part.validB {b : Base} {l : List Int} (h : Part b l) : Code.validB (partB b l) = true := by
  have hv := h.valid
  have h8 := (h.base.lens h.valid).1
  have h3 := (h.base.lens h.valid).2
  have hl := h.len
  have hpos := List.length_pos_iff.2 h.ne
  have hps := partSes_len l b.indexes
  simp only [Code.validB, areTys, Bool.and_eq_true, decide_eq_true_eq] at hv ⊢
  refine ⟨⟨⟨hv.1.1.1, ⟨?_, ?_⟩, h.tysOk⟩, h.ses⟩, ?_⟩
  · show (1 : Int) ≤ ((l.map (partTy b.types l)).length : Int)
    rw [List.length_map]; omega
  · show ((l.map (partTy b.types l)).length : Int) ≤ 8
    rw [List.length_map]; omega
  · show ((partSes l b.indexes).length : Int) ≤ 3
    omega
theorem Part.ok {b : Base} {l : List Int} (h : Part b l) : (partB b l).Ok := by
  have hl := h.len
  have h8 := (h.base.lens h.valid).1
  refine ⟨h.base.name, ?_, ?_, ?_, ?_⟩
  · show (l.map (partTy b.types l)).length < _
    rw [List.length_map]; omega
  · intro t ht
    obtain ⟨x, hx, rfl⟩ := List.mem_map.1 ht
    obtain ⟨i, hi⟩ := List.getElem?_of_mem hx
    obtain ⟨k, u, rfl, _, hu, _⟩ := h.at hi
    have := h.base.type u (List.mem_of_getElem? hu)
    unfold partTy
    rw [tyOf_at hu]
    exact ⟨this.name, this.fields, this.field⟩
  · have := partSes_len l b.indexes
    have h3 := (h.base.lens h.valid).2
    show (partSes l b.indexes).length < _
    omega
  · intro x hx
    have hx : x ∈ partSes l b.indexes := hx
    unfold partSes at hx
    obtain ⟨y, hy, rfl⟩ := List.mem_map.1 hx
    have := h.base.index y ((List.mem_filter.1 hy).1)
    exact ⟨this.name, this.sparse⟩

/-! siblings -/
theorem less_trans : ∀ x y z : List UInt8, Op.bytesLess x y = true → Op.bytesLess y z = true → Op.bytesLess x z = true
  | x, y, [], _, h2 => by cases y <;> simp [Op.bytesLess] at h2
  | [], _, c :: z, _, _ => by simp [Op.bytesLess]
  | a :: x, [], c :: z, h1, _ => by simp [Op.bytesLess] at h1
  | a :: x, b :: y, c :: z, h1, h2 => by
    simp only [Op.bytesLess, Bool.or_eq_true, decide_eq_true_eq, Bool.and_eq_true, beq_iff_eq] at h1 h2 ⊢
    rcases h1 with h1 | ⟨rfl, h1⟩ <;> rcases h2 with h2 | ⟨rfl, h2⟩
    · exact .inl (by rw [UInt8.lt_iff_toNat_lt] at *; omega)
    · exact .inl h1
    · exact .inl h2
    · exact .inr ⟨rfl, less_trans x y z h1 h2⟩
theorem inOrd_trans {t : Ty} {a c d : ByteArray} (h1 : inOrd t a c = true) (h2 : inOrd t c d = true) : inOrd t a d = true := by
  simp only [inOrd, Bool.or_eq_true, decide_eq_true_eq, Bool.and_eq_true] at *
  rcases h1 with (h1 | h1) | ⟨h1, h1'⟩
  · exact .inl (.inl h1)
  · rcases h2 with (h2 | h2) | ⟨h2, _⟩
    · exact .inl (.inl h2)
    · exact .inl (.inr (less_trans _ _ _ h1 h2))
    · rw [← h2]; exact .inl (.inr h1)
  · rcases h2 with (h2 | h2) | ⟨h2, h2'⟩
    · exact .inl (.inl h2)
    · rw [h1]; exact .inl (.inr h2)
    · exact .inr ⟨h1.trans h2, h1'⟩
theorem ord_trans {ts : List Ty} {f : List Item} {c : Int} {j : Nat} {y x : Item} (hy : f[j]? = some y) (h1 : ordOk ts f c y = true) (h2 : ordOk ts f (j : Int) x = true) : ordOk ts f c x = true := by
  simp only [ordOk, Bool.or_eq_true, decide_eq_true_eq, Bool.and_eq_true, typ_at hy, dat_at hy] at *
  rcases h1 with h1 | ⟨h1, h1'⟩ <;> rcases h2 with h2 | ⟨h2, h2'⟩
  · exact .inl (by omega)
  · exact .inl (by omega)
  · exact .inl (by omega)
  · exact .inr ⟨by omega, by rw [h2] at h1'; exact inOrd_trans h1' h2'⟩
/-- the child of an item's parent on an earlier way may stand ahead of it -/
theorem sib_far {b : Base} {f : List Item} (h : Right b f) {i : Nat} {x : Item} (hx : f[i]? = some x) : ∀ (n j : Nat), i - 1 - j = n → j < i → (par b.types f i < 0 ∨ par b.types f i ∈ pth b.types f j) → ∀ c, (pth b.types f j)[nOf b.types f i]? = some c → ordOk b.types f c x = true := by
  have hi := (List.getElem?_eq_some_iff.1 hx).1
  have hok := h.ok i x hi hx
  intro n
  induction n with
  | zero =>
    intro j hn hj _ c hc
    obtain ⟨i, rfl⟩ : ∃ i', i = i' + 1 := ⟨i - 1, by omega⟩
    obtain rfl : j = i := by omega
    simp only [okAt, Bool.and_eq_true] at hok
    have := hok.2
    have hw : (way b.types f (j + 1))[nOf b.types f (j + 1)]? = some c := hc
    simpa only [sibOk, hw] using this
  | succ n ih =>
    intro j hn hj hp c hc
    have hj1 : j + 1 < f.length := by omega
    obtain ⟨y, hy⟩ : ∃ y, f[j + 1]? = some y := ⟨_, List.getElem?_eq_getElem hj1⟩
    obtain ⟨hcut, hle⟩ := way_cut h hj1
    change pth b.types f (j + 1) = (pth b.types f j).take _ ++ _ at hcut
    change _ ≤ (pth b.types f j).length at hle
    have hb := par_lt b.types f i
    -- the parent is on the next way too
    have hp' : par b.types f i < 0 ∨ par b.types f i ∈ pth b.types f (j + 1) := by
      rcases hp with hp | hp
      · exact .inl hp
      · by_cases h0 : par b.types f i < 0
        · exact .inl h0
        · have hbp := pth_bound hp
          have hm := ok_par hx hok (by omega)
          obtain ⟨i', rfl⟩ : ∃ i', i = i' + 1 := ⟨i - 1, by omega⟩
          exact .inr (way_between (Nat.le_refl _) h.ok i' (by omega) _ hm (j + 1) (by omega) (by omega))
    have hS := ih (j + 1) (by omega) (by omega) hp'
    rcases Nat.lt_trichotomy (nOf b.types f i) (nOf b.types f (j + 1)) with hlt | heq | hgt
    · refine hS c ?_
      rw [hcut, List.getElem?_append_left (by rw [List.length_take]; omega), List.getElem?_take, if_pos hlt]; exact hc
    · have h1 : ordOk b.types f ((j + 1 : Nat) : Int) x = true := hS _ (by
        rw [hcut, List.getElem?_append_right (by rw [List.length_take]; omega), List.length_take, Nat.min_eq_left hle, heq]; simp)
      have h2 := h.ok (j + 1) y hj1 hy
      simp only [okAt, Bool.and_eq_true] at h2
      have h3 := h2.2
      have hw : (way b.types f (j + 1))[nOf b.types f (j + 1)]? = some c := by rw [← heq]; exact hc
      simp only [sibOk, hw] at h3
      exact ord_trans hy h3 h1
    · exfalso
      rcases hp' with h0 | hm
      · have : nOf b.types f i = 0 := by unfold nOf; rw [pthI_neg _ _ h0]; rfl
        omega
      · have hbp := pth_bound hm
        rcases hp with hp | hp
        · omega
        have hbj := pth_bound hp
        obtain ⟨q, hq⟩ : ∃ q : Nat, par b.types f i = (q : Int) := ⟨(par b.types f i).toNat, by omega⟩
        have hno : nOf b.types f i = (pth b.types f q).length := by unfold nOf; rw [hq, pthI_nat]
        rw [hq] at hm
        obtain ⟨m, hmm⟩ := List.getElem?_of_mem hm
        have ht : (pth b.types f (j + 1)).take (m + 1) = pth b.types f q := take_anc (pts b.types f) (good_pts b.types f) (by rw [pts_len]; exact Nat.le_refl _) (j + 1) (j + 1) (Nat.le_refl _) (by omega) m _ hmm
        have hml := (List.getElem?_eq_some_iff.1 hmm).1
        have hmn : (pth b.types f q).length = m + 1 := by rw [← ht, List.length_take]; omega
        rw [hcut] at hml hmm
        simp only [List.length_append, List.length_take, Nat.min_eq_left hle, List.length_singleton] at hml
        have e : m = nOf b.types f (j + 1) := by omega
        rw [List.getElem?_append_right (by rw [List.length_take]; omega), List.length_take, Nat.min_eq_left hle, e] at hmm
        simp at hmm
        omega
end Go.Proofs.Ytcbmakanokmdjaa.Code

/- plain: the items with some types alone are a forest (mathematics). -/
set_option linter.unusedSimpArgs false
set_option linter.unusedVariables false
set_option linter.unusedSectionVars false
namespace Go.Proofs.Ytcbmakanokmdjaa.Code
open Go.Proofs.Ytcbmakanokmdjaa.Ev

/-- how many items of a part stand ahead of a place -/
def cnt (l : List Int) (f : List Item) (i : Nat) : Nat := (partL l (f.take i)).length
theorem cnt_succ (l : List Int) {f : List Item} {i : Nat} {x : Item} (hx : f[i]? = some x) : cnt l f (i + 1) = cnt l f i + if x.type ∈ l then 1 else 0 := by
  unfold cnt
  rw [partL_step l hx, List.length_append]
  split <;> rfl
theorem cnt_mono (l : List Int) (f : List Item) : ∀ (n i : Nat), i + n ≤ f.length → cnt l f i ≤ cnt l f (i + n)
  | 0, i, _ => Nat.le_refl _
  | n + 1, i, h => by
    have h1 := cnt_mono l f n i (by omega)
    have h2 := cnt_succ l (f := f) (List.getElem?_eq_getElem (show i + n < f.length by omega))
    rw [show i + (n + 1) = i + n + 1 by omega]; omega
theorem cnt_lt {l : List Int} {f : List Item} {i j : Nat} {x : Item} (hx : f[i]? = some x) (hm : x.type ∈ l) (hij : i < j) (hj : j ≤ f.length) : cnt l f i < cnt l f j := by
  have h1 := cnt_succ l hx
  rw [if_pos hm] at h1
  have h2 := cnt_mono l f (j - (i + 1)) (i + 1) (by omega)
  rw [show i + 1 + (j - (i + 1)) = j by omega] at h2
  omega
theorem cnt_inv {l : List Int} {f : List Item} {i j : Nat} {x : Item} (hx : f[j]? = some x) (hm : x.type ∈ l) (hi : i ≤ f.length) (h : cnt l f i ≤ cnt l f j) : i ≤ j := by
  by_cases hc : j < i
  · have := cnt_lt hx hm hc hi; omega
  · omega
theorem part_at {l : List Int} {f : List Item} {i : Nat} {x : Item} (hx : f[i]? = some x) (hm : x.type ∈ l) : (partL l f)[cnt l f i]? = some (partI l x) := by
  have hi := (List.getElem?_eq_some_iff.1 hx).1
  have e : f = f.take i ++ x :: f.drop (i + 1) := by
    rw [List.getElem?_eq_getElem hi] at hx
    cases hx
    rw [List.getElem_cons_drop, List.take_append_drop]
  have h2 : partL l f = partL l (f.take i) ++ (partI l x :: partL l (f.drop (i + 1))) := by
    conv => lhs; rw [e]
    unfold partL
    rw [List.filter_append, List.map_append, List.filter_cons, if_pos (by simpa using hm), List.map_cons]
  rw [h2, List.getElem?_append_right (by unfold cnt; exact Nat.le_refl _)]
  simp [cnt]
theorem part_of {l : List Int} {f : List Item} : ∀ (n : Nat), n ≤ f.length → ∀ (j : Nat), j < cnt l f n → ∃ (i : Nat) (x : Item), i < n ∧ f[i]? = some x ∧ x.type ∈ l ∧ cnt l f i = j
  | 0, _, j, h => by simp [cnt, partL] at h
  | n + 1, hn, j, h => by
    obtain ⟨x, hx⟩ : ∃ x, f[n]? = some x := ⟨_, List.getElem?_eq_getElem (by omega)⟩
    rw [cnt_succ l hx] at h
    by_cases hlt : j < cnt l f n
    · obtain ⟨i, y, h1, h2⟩ := part_of n (by omega) j hlt
      exact ⟨i, y, by omega, h2⟩
    · by_cases hm : x.type ∈ l
      · rw [if_pos hm] at h
        exact ⟨n, x, by omega, hx, hm, by omega⟩
      · rw [if_neg hm] at h; omega
theorem cnt_all (l : List Int) (f : List Item) : cnt l f f.length = (partL l f).length := by unfold cnt; rw [List.take_length]
theorem lastTo_last {f : List Item} {p : Int} : ∀ (n : Nat), ∀ j : Nat, lastTo f p n < (j : Int) → j < n → typ f (j : Int) ≠ p
  | 0, j, _, h => by omega
  | n + 1, j, h, hj => by
    unfold lastTo at h
    split at h
    · omega
    · rename_i h1
      by_cases e : j = n
      · subst e; exact h1
      · exact lastTo_last n j h (by omega)
section
variable {b : Base} {l : List Int} {f : List Item} (hP : Part b l) (hR : Right b f)
include hP hR
theorem typ_part {i : Nat} {x : Item} (hx : f[i]? = some x) (hm : x.type ∈ l) : typ (partL l f) (cnt l f i : Int) = at_ l x.type := by
  rw [typ_at (part_at hx hm)]; rfl
/-- the parent of a part's item is one of the part -/
theorem par_in {i : Nat} {x : Item} (hx : f[i]? = some x) (hm : x.type ∈ l) {p : Nat} (hp : par b.types f i = (p : Int)) : ∃ y, f[p]? = some y ∧ y.type ∈ l := by
  have hi := (List.getElem?_eq_some_iff.1 hx).1
  obtain ⟨_, k, u, h0, hk, hkl, hu, _⟩ := hR.item hi
  rw [hx] at h0; cases h0
  rcases hR.par hx hk hu with ⟨h1, h2, _⟩ | ⟨q, h1, h2, _, h4, h5, h6⟩
  · omega
  · obtain rfl : q = p := by omega
    obtain ⟨y, hy⟩ : ∃ y, f[q]? = some y := ⟨_, List.getElem?_eq_getElem (by omega)⟩
    refine ⟨y, hy, ?_⟩
    rw [← typ_at hy, h6]
    obtain ⟨m, _, _, hm'⟩ := at_some hm
    rw [hk] at hm'
    rcases hP.par hm' hu with ⟨_, _, h7, _⟩ | ⟨p', m', _, _, h7, _, h8, _⟩
    · omega
    · rw [h7]; exact List.mem_of_getElem? h8
theorem par_part {i : Nat} {x : Item} (hx : f[i]? = some x) (hm : x.type ∈ l) : (par b.types f i = -1 ∧ par (pTys b l) (partL l f) (cnt l f i) = -1) ∨ ∃ p : Nat, par b.types f i = (p : Int) ∧ p < i ∧ par (pTys b l) (partL l f) (cnt l f i) = (cnt l f p : Int) ∧ cnt l f p < cnt l f i := by
  have hi := (List.getElem?_eq_some_iff.1 hx).1
  obtain ⟨_, k, u, h0, hk, hkl, hu, _⟩ := hR.item hi
  rw [hx] at h0; cases h0
  obtain ⟨m, g1, g2, g3⟩ := at_some hm
  rw [hk] at g3
  have htp : tpar (pTys b l) (typ (partL l f) (cnt l f i : Int)) = at_ l u.parent := by
    rw [typ_part hP hR hx hm, g1, tpar_at (pTys_at g3 hu)]; rfl
  rcases hR.par hx hk hu with ⟨h1, h2, hk0⟩ | ⟨p, h1, h2, _, h4, h5, h6⟩
  · refine .inl ⟨h2, ?_⟩
    unfold par
    rw [htp]
    rcases hP.par g3 hu with ⟨_, _, _, h8⟩ | ⟨p', m', _, h7, _⟩
    · rw [h8, if_pos (by omega)]
    · omega
  · obtain ⟨y, hy, hym⟩ := par_in hP hR hx hm h1
    have hlt := cnt_lt hy hym h2 (by omega)
    refine .inr ⟨p, h1, h2, ?_, hlt⟩
    rcases hP.par g3 hu with ⟨_, _, h7, _⟩ | ⟨p', m', _, _, h7, _, h8, h9⟩
    · omega
    · unfold par
      rw [htp, h9, if_neg (by omega)]
      refine lastTo_is ?_ _ hlt fun j' h10 h11 he => ?_
      · rw [typ_part hP hR hy hym, ← typ_at hy, h6, h9]
      · obtain ⟨j, z, e1, e2, e3, rfl⟩ := part_of (l := l) (f := f) i (by omega) j' h11
        rw [typ_part hP hR e2 e3] at he
        obtain ⟨q, q1, q2, q3⟩ := at_some e3
        rw [q1] at he
        obtain rfl : q = m' := by omega
        rw [h8] at q3
        have hjp : p < j := by
          by_cases hc : j ≤ p
          · by_cases e : j = p
            · subst e; omega
            · have := cnt_lt e2 e3 (show j < p by omega) (by omega); omega
          · omega
        have hpar : par b.types f i = lastTo f u.parent i := by unfold par; rw [typ_at hx, hk, tpar_at hu, if_neg (by omega)]
        refine lastTo_last i j (p := u.parent) (f := f) (by rw [← hpar, h1]; omega) e1 ?_
        rw [typ_at e2, h7]
        exact (Option.some.inj q3).symm
/-- the way of an item of the part -/
theorem pth_part : ∀ (n i : Nat), i ≤ n → ∀ x, f[i]? = some x → x.type ∈ l → pth (pTys b l) (partL l f) (cnt l f i) = (pth b.types f i).map fun a => (cnt l f a.toNat : Int) := by
  intro n
  induction n with
  | zero =>
    intro i hi x hx hm
    obtain rfl : i = 0 := by omega
    have hlt := (List.getElem?_eq_some_iff.1 hx).1
    have hc := (List.getElem?_eq_some_iff.1 (part_at hx hm)).1
    rcases par_part hP hR hx hm with ⟨h1, h2⟩ | ⟨p, _, h2, _⟩
    · rw [pth_eq _ _ hlt, pth_eq _ _ hc, h1, h2, pthI_neg _ _ (by omega), pthI_neg _ _ (by omega)]; simp
    · omega
  | succ n ih =>
    intro i hi x hx hm
    have hlt := (List.getElem?_eq_some_iff.1 hx).1
    have hc := (List.getElem?_eq_some_iff.1 (part_at hx hm)).1
    rcases par_part hP hR hx hm with ⟨h1, h2⟩ | ⟨p, h1, h2, h3, _⟩
    · rw [pth_eq _ _ hlt, pth_eq _ _ hc, h1, h2, pthI_neg _ _ (by omega), pthI_neg _ _ (by omega)]; simp
    · obtain ⟨y, hy, hym⟩ := par_in hP hR hx hm h1
      rw [pth_eq _ _ hlt, pth_eq _ _ hc, h1, h3, pthI_nat, pthI_nat, ih p (by omega) y hy hym]; simp
/-- all on the way of an item of the part are of the part -/
theorem pth_in : ∀ (n i : Nat), i ≤ n → ∀ x, f[i]? = some x → x.type ∈ l → ∀ a ∈ pth b.types f i, ∃ (q : Nat) (y : Item), a = (q : Int) ∧ f[q]? = some y ∧ y.type ∈ l := by
  intro n
  induction n with
  | zero =>
    intro i hi x hx hm a ha
    obtain rfl : i = 0 := by omega
    have hb := pth_bound ha
    exact ⟨0, x, by omega, hx, hm⟩
  | succ n ih =>
    intro i hi x hx hm a ha
    have hlt := (List.getElem?_eq_some_iff.1 hx).1
    rw [pth_eq _ _ hlt] at ha
    rcases List.mem_append.1 ha with ha | ha
    · by_cases h0 : par b.types f i < 0
      · rw [pthI_neg _ _ h0] at ha; cases ha
      · obtain ⟨p, hp⟩ : ∃ p : Nat, par b.types f i = (p : Int) := ⟨(par b.types f i).toNat, by omega⟩
        obtain ⟨y, hy, hym⟩ := par_in hP hR hx hm hp
        rw [hp, pthI_nat] at ha
        have := (par_lt b.types f i).2
        exact ih p (by omega) y hy hym a ha
    · simp at ha
      exact ⟨i, x, ha, hx, hm⟩
theorem ok_part {i : Nat} {x : Item} (hx : f[i]? = some x) (hm : x.type ∈ l) : okAt (pTys b l) (partL l f) (cnt l f i) (partI l x) = true := by
  have hi := (List.getElem?_eq_some_iff.1 hx).1
  obtain ⟨_, k, u, h0, hk, hkl, hu, _, hmin, hmax⟩ := hR.item hi
  rw [hx] at h0; cases h0
  obtain ⟨m, g1, g2, g3⟩ := at_some hm
  rw [hk] at g3
  have hpu := pTys_at g3 hu
  have hft : fits (pTys b l) (partI l x) = true := by
    rw [fits_at (x := partI l x) (k := m) (by rw [← g1]; rfl) hpu]
    show (decide (u.min ≤ (x.data.size : Int)) && decide ((x.data.size : Int) ≤ u.size)) = true
    rw [decide_eq_true hmin, decide_eq_true hmax]; rfl
  have htp : tpar (pTys b l) (partI l x).type = at_ l u.parent := by
    show tpar (pTys b l) (at_ l x.type) = _
    rw [g1, tpar_at hpu]; rfl
  -- the item of the part ahead
  have hprev : ∀ c, cnt l f i = c + 1 → ∃ (j : Nat) (z : Item), j < i ∧ f[j]? = some z ∧ z.type ∈ l ∧ cnt l f j = c ∧ way (pTys b l) (partL l f) (cnt l f i) = (pth b.types f j).map fun a => (cnt l f a.toNat : Int) := by
    intro c hc
    obtain ⟨j, z, e1, e2, e3, e4⟩ := part_of (l := l) (f := f) i (by omega) c (by omega)
    refine ⟨j, z, e1, e2, e3, e4, ?_⟩
    rw [hc, ← e4]
    exact pth_part hP hR j j (Nat.le_refl _) z e2 e3
  have hpc := par_part hP hR hx hm
  have hpar : (decide (tpar (pTys b l) (partI l x).type < 0) || tell (par (pTys b l) (partL l f) (cnt l f i) ∈ way (pTys b l) (partL l f) (cnt l f i))) = true := by
    rcases hpc with ⟨h1, h2⟩ | ⟨p, h1, h2, h3, h4⟩
    · rcases hP.par g3 hu with ⟨_, _, _, h8⟩ | ⟨p', m', _, hk0, h7, _⟩
      · rw [htp, h8]; rfl
      · rcases hR.par hx hk hu with ⟨_, _, h9⟩ | ⟨q, h9, _⟩
        · omega
        · omega
    · obtain ⟨j, z, e1, e2, e3, e4, e5⟩ := hprev (cnt l f i - 1) (by omega)
      obtain ⟨y, hy, hym⟩ := par_in hP hR hx hm h1
      have hpj : p ≤ j := cnt_inv e2 e3 (by omega) (by omega)
      have hmw := ok_par hx (hR.ok i x hi hx) (by omega)
      rw [h1] at hmw
      obtain ⟨i, rfl⟩ : ∃ i', i = i' + 1 := ⟨i - 1, by omega⟩
      have hmj := way_between (Nat.le_refl _) hR.ok i (by omega) _ hmw j (by omega) (by omega)
      rw [e5, h3, tell_pos (List.mem_map.2 ⟨_, hmj, by simp⟩)]; simp
  have hsib : sibOk (pTys b l) (partL l f) (cnt l f i) (partI l x) = true := by
    unfold sibOk
    cases hc : cnt l f i with
    | zero => simp [way, wayTo]
    | succ c =>
      obtain ⟨j, z, e1, e2, e3, e4, e5⟩ := hprev c hc
      rw [← hc, e5]
      have hno : nOf (pTys b l) (partL l f) (cnt l f i) = nOf b.types f i := by
        unfold nOf
        rcases hpc with ⟨h1, h2⟩ | ⟨p, h1, h2, h3, h4⟩
        · rw [h1, h2, pthI_neg _ _ (by omega), pthI_neg _ _ (by omega)]
        · obtain ⟨y, hy, hym⟩ := par_in hP hR hx hm h1
          rw [h1, h3, pthI_nat, pthI_nat, pth_part hP hR p p (Nat.le_refl _) y hy hym, List.length_map]
      rw [hno, List.getElem?_map]
      cases hn : (pth b.types f j)[nOf b.types f i]? with
      | none => rfl
      | some a =>
        simp only [Option.map_some]
        obtain ⟨q, y, rfl, hy, hym⟩ := pth_in hP hR j j (Nat.le_refl _) z e2 e3 a (List.mem_of_getElem? hn)
        have hfar := sib_far hR hx (i - 1 - j) j rfl e1 (by
          rcases hpc with ⟨h1, _⟩ | ⟨p, h1, h2, h3, h4⟩
          · exact .inl (by omega)
          · obtain ⟨y', hy', hym'⟩ := par_in hP hR hx hm h1
            have hpj : p ≤ j := cnt_inv e2 e3 (by omega) (by omega)
            have hmw := ok_par hx (hR.ok i x hi hx) (by omega)
            rw [h1] at hmw
            obtain ⟨i, rfl⟩ : ∃ i', i = i' + 1 := ⟨i - 1, by omega⟩
            exact .inr (by rw [h1]; exact way_between (Nat.le_refl _) hR.ok i (by omega) _ hmw j (by omega) (by omega))) _ hn
        simp only [Int.toNat_natCast]
        have hyt := typ_at (part_at hy hym)
        have hyd := dat_at (part_at hy hym)
        simp only [ordOk, Bool.or_eq_true, decide_eq_true_eq, Bool.and_eq_true, typ_at hy, dat_at hy, hyt, hyd] at hfar ⊢
        have hto : tyOf (pTys b l) (partI l x).type = upTy u (at_ l u.parent) := by
          show tyOf (pTys b l) (at_ l x.type) = _
          rw [g1, tyOf_at hpu]
        have hto' : tyOf b.types x.type = u := by rw [hk, tyOf_at hu]
        obtain ⟨m', q1, q2, q3⟩ := at_some hym
        rcases hfar with hfar | ⟨hfar, hin⟩
        · refine .inl ?_
          show at_ l y.type < at_ l x.type
          rw [q1, g1]
          by_cases hlt : m' < m
          · omega
          · exfalso
            by_cases e : m' = m
            · subst e; rw [g3] at q3; have := Option.some.inj q3; omega
            · have := parts_lt hP.parts m' m _ _ (by omega) g3 q3; omega
        · refine .inr ⟨?_, ?_⟩
          · show at_ l y.type = at_ l x.type
            rw [hfar]
          · rw [hto]
            rw [hto'] at hin
            exact hin
  rw [okAt, hft, hpar, hsib]; rfl
theorem Part.forest : forestOk (partB b l).types (partL l f) = true := by
  have hl := partL_len l f
  have h2 := hR.len
  show forestOk (pTys b l) (partL l f) = true
  unfold forestOk
  rw [decide_eq_true (by omega), Bool.true_and]
  refine tell_pos fun j y hy => ?_
  have hj := (List.getElem?_eq_some_iff.1 hy).1
  obtain ⟨i, x, e1, e2, e3, rfl⟩ := part_of (l := l) (f := f) f.length (Nat.le_refl _) j (by rw [cnt_all]; exact hj)
  rw [part_at e2 e3] at hy
  cases hy
  exact ok_part hP hR e2 e3
end
end Go.Proofs.Ytcbmakanokmdjaa.Code

/- The law PlainParts is true. -/
set_option linter.unusedSimpArgs false
set_option linter.unusedVariables false
namespace Go.Proofs.Ytcbmakanokmdjaa.Code
open Go.Proofs.Ytcbmakanokmdjaa.Ev

theorem errL_zero {b : Base} {f : List Item} {l : List Int} (hb : b.Ok) (h : errL b f l = 0) : Right b f ∧ Part b l ∧ errP b l = 0 := by
  unfold errL at h
  split at h
  · rename_i he
    obtain ⟨hr, _⟩ := errF_zero hb he
    refine ⟨hr, ?_, h⟩
    unfold errP at h
    rw [if_pos hr.valid] at h
    split at h
    · rename_i hp
      simp only [isPart, Bool.and_eq_true, decide_eq_true_eq] at hp
      exact ⟨hb, hr.valid, hp.1, fun e => by have := hp.2; rw [e] at this; simp at this⟩
    · cases h
  · exact absurd h (by assumption)
theorem partLR_len (b : Base) (f : List Item) (l : List Int) : (partLR b f l).length ≤ f.length := by
  unfold partLR
  split
  · exact partL_len l f
  · simp
theorem f5 (b : Base) (hb : b.Ok) (f : List Item) (hf : f.length < 9223372036854775807) (l : List Int) (hl : l.length < 9223372036854775807) : ∃ H', evC cprog 5 [eBase b, eItems f, eIs l] [] = some (.bool true, H') := by
  have h9 := f9 b hb f hf
  have h10 := f10
  have hlen := (sIs [] l).len
  simp only [List.length_map] at hlen
  simp only [eBase] at h9
  rw [evC_fn at5]
  cases hs : small b f with
  | false =>
    simp only [c5, eBase, cells_eItems, isTup_eItems, h9, h10, hs, evX, Int.reduceEq, Int.reduceLT, Int.reduceLE, Nat.reduceMul, Nat.reduceMod, evW, fn_eq, evR, Nat.reduceAdd, Nat.reduceLT, Nat.reduceLeDiff, reduceIte, Nat.reduceEqDiff, reduceCtorEq, argEnv, eq_self, if_true, if_false]
    repeat' ((first | rw [guardK_cases] | rw [condK_bool] | rw [guardD_cases]); split <;> simp only [c5, eBase, cells_eItems, isTup_eItems, h9, h10, hs, evX, Int.reduceEq, Int.reduceLT, Int.reduceLE, Nat.reduceMul, Nat.reduceMod, evW, evR, Nat.reduceAdd, Nat.reduceLT, Nat.reduceLeDiff, reduceIte, Nat.reduceEqDiff, reduceCtorEq, argEnv, eq_self, if_true, if_false, *])
    exact ⟨_, rfl⟩
  | true =>
    have hl60 := small_len hs
    by_cases h20 : (20 : Int) < (l.length : Int)
    · simp only [c5, eBase, cells_eItems, isTup_eItems, h9, h10, hs, hlen, h20, evX, Int.reduceEq, Int.reduceLT, Int.reduceLE, Nat.reduceMul, Nat.reduceMod, evW, fn_eq, evR, Nat.reduceAdd, Nat.reduceLT, Nat.reduceLeDiff, reduceIte, Nat.reduceEqDiff, reduceCtorEq, argEnv, eq_self, if_true, if_false]
      repeat' ((first | rw [guardK_cases] | rw [condK_bool] | rw [guardD_cases]); split <;> simp only [c5, eBase, cells_eItems, isTup_eItems, h9, h10, hs, hlen, h20, evX, Int.reduceEq, Int.reduceLT, Int.reduceLE, Nat.reduceMul, Nat.reduceMod, evW, evR, Nat.reduceAdd, Nat.reduceLT, Nat.reduceLeDiff, reduceIte, Nat.reduceEqDiff, reduceCtorEq, argEnv, eq_self, if_true, if_false, *])
      exact ⟨_, rfl⟩
    have h19 := f19 b hb f hf l (by omega)
    have h20' := f20 b hb f hf l (by omega)
    have hsame : same (partLR b f l) (partLR b f l) = true := tell_pos rfl
    have h14 := f14 (partLR b f l) (partLR b f l) (by have := partLR_len b f l; omega)
    rw [hsame] at h14
    simp only [eBase, eLE] at h19 h20'
    by_cases he : errL b f l = 0
    · obtain ⟨hr, hp, hep⟩ := errL_zero hb he
      have h21 := f21 b hb l (by omega)
      have hpr : partR b l = partB b l := if_pos hep
      have hpl : partLR b f l = partL l f := if_pos he
      rw [hpr, hep] at h21
      have h11 := f11 (partB b l) hp.ok (partL l f)
      rw [hp.validB, hp.forest hr] at h11
      rw [hpl, he] at h19 h20'
      rw [hpl] at h14
      simp only [eBase, bEr, Bool.and_self, if_true] at h21 h11
      simp only [c5, eBase, cells_eItems, isTup_eItems, h9, h10, hs, hlen, h20, h19, h20', h14, h21, h11, evX, Int.reduceEq, Int.reduceLT, Int.reduceLE, Nat.reduceMul, Nat.reduceMod, evW, fn_eq, evR, Nat.reduceAdd, Nat.reduceLT, Nat.reduceLeDiff, reduceIte, Nat.reduceEqDiff, reduceCtorEq, argEnv, eq_self, if_true, if_false]
      repeat' ((first | rw [guardK_cases] | rw [condK_bool] | rw [guardD_cases]); split <;> simp only [c5, eBase, cells_eItems, isTup_eItems, h9, h10, hs, hlen, h20, h19, h20', h14, h21, h11, evX, Int.reduceEq, Int.reduceLT, Int.reduceLE, Nat.reduceMul, Nat.reduceMod, evW, evR, Nat.reduceAdd, Nat.reduceLT, Nat.reduceLeDiff, reduceIte, Nat.reduceEqDiff, reduceCtorEq, argEnv, eq_self, if_true, if_false, *])
      all_goals exact ⟨_, rfl⟩
    · simp only [c5, eBase, cells_eItems, isTup_eItems, h9, h10, hs, hlen, h20, h19, h20', h14, he, evX, Int.reduceEq, Int.reduceLT, Int.reduceLE, Nat.reduceMul, Nat.reduceMod, evW, fn_eq, evR, Nat.reduceAdd, Nat.reduceLT, Nat.reduceLeDiff, reduceIte, Nat.reduceEqDiff, reduceCtorEq, argEnv, eq_self, if_true, if_false]
      repeat' ((first | rw [guardK_cases] | rw [condK_bool] | rw [guardD_cases]); split <;> simp only [c5, eBase, cells_eItems, isTup_eItems, h9, h10, hs, hlen, h20, h19, h20', h14, he, evX, Int.reduceEq, Int.reduceLT, Int.reduceLE, Nat.reduceMul, Nat.reduceMod, evW, evR, Nat.reduceAdd, Nat.reduceLT, Nat.reduceLeDiff, reduceIte, Nat.reduceEqDiff, reduceCtorEq, argEnv, eq_self, if_true, if_false, *])
      all_goals exact ⟨_, rfl⟩
end Go.Proofs.Ytcbmakanokmdjaa.Code
namespace Go.Proofs.Ytcbmakanokmdjaa.Pure
open Go.Proofs.Ytcbmakanokmdjaa.Ev Go.Proofs.Ytcbmakanokmdjaa.Code
theorem PlainParts (a0 : AV) (t0 : ArgTy true [.str, .int .i64, .sl [.str, .int .i64, .int .i64, .int .i64, .sl [.str, .int .i64, .int .i64], .int .i64, .bool, .bool], .sl [.str, .int .i64, .int .i64, .str]] a0)
    (a1 : AV) (t1 : ArgTy false [.sl [.int .i64, .str]] a1) (a2 : AV) (t2 : ArgTy false [.sl [.int .i64]] a2) : ∃ H', evC cprog 5 [a0, a1, a2] [] = some (.bool true, H') := by
  obtain ⟨b, rfl, hb⟩ := open_Base t0
  obtain ⟨f, rfl, hf⟩ := open_Items t1
  obtain ⟨l, rfl, hl⟩ := open_Ints t2
  exact f5 b hb f hf l hl
end Go.Proofs.Ytcbmakanokmdjaa.Pure

/- plain: items that are kept are a forest, if their parents are kept; Delete (mathematics). -/
set_option linter.unusedSimpArgs false
set_option linter.unusedVariables false
set_option linter.unusedSectionVars false
namespace Go.Proofs.Ytcbmakanokmdjaa.Code
open Go.Proofs.Ytcbmakanokmdjaa.Ev

/-- some items of a forest are kept, in their order -/
structure Kept (ts : List Ty) (f g : List Item) (keep : Nat → Prop) (pos : Nat → Nat) : Prop where
  at' : ∀ (k : Nat) (x : Item), keep k → f[k]? = some x → g[pos k]? = some x
  of : ∀ j : Nat, j < g.length → ∃ (k : Nat) (x : Item), keep k ∧ f[k]? = some x ∧ pos k = j
  lt : ∀ k k' : Nat, keep k → keep k' → k < k' → k' < f.length → pos k < pos k'
  par : ∀ (k p : Nat), keep k → k < f.length → Code.par ts f k = (p : Int) → keep p
section
variable {b : Base} {f g : List Item} {keep : Nat → Prop} {pos : Nat → Nat} (hR : Right b f) (hK : Kept b.types f g keep pos)
include hR hK
theorem Kept.inv {i j : Nat} (hi : keep i) (hj : keep j) (hil : i < f.length) (h : pos i ≤ pos j) : i ≤ j := by
  by_cases hc : j < i
  · have := hK.lt j i hj hi hc hil; omega
  · omega
theorem Kept.below {i : Nat} (hi : keep i) (hil : i < f.length) {j : Nat} (hj : j < pos i) : ∃ (k : Nat) (x : Item), k < i ∧ keep k ∧ f[k]? = some x ∧ pos k = j := by
  obtain ⟨x, hx⟩ : ∃ x, f[i]? = some x := ⟨_, List.getElem?_eq_getElem hil⟩
  have hg := (List.getElem?_eq_some_iff.1 (hK.at' i x hi hx)).1
  obtain ⟨k, y, h1, h2, h3⟩ := hK.of j (by omega)
  refine ⟨k, y, ?_, h1, h2, h3⟩
  by_cases hc : k < i
  · exact hc
  · by_cases e : k = i
    · subst e; omega
    · have := hK.lt i k hi h1 (by omega) (List.getElem?_eq_some_iff.1 h2).1; omega
theorem Kept.typ' {i : Nat} {x : Item} (hx : f[i]? = some x) (hi : keep i) : typ g (pos i : Int) = x.type := typ_at (hK.at' i x hi hx)
theorem Kept.par' {i : Nat} {x : Item} (hx : f[i]? = some x) (hi : keep i) : (Code.par b.types f i = -1 ∧ Code.par b.types g (pos i) = -1) ∨ ∃ p : Nat, Code.par b.types f i = (p : Int) ∧ p < i ∧ keep p ∧ Code.par b.types g (pos i) = (pos p : Int) ∧ pos p < pos i := by
  have hil := (List.getElem?_eq_some_iff.1 hx).1
  obtain ⟨_, k, u, h0, hk, hkl, hu, _⟩ := hR.item hil
  rw [hx] at h0; cases h0
  have htp : tpar b.types (typ g (pos i : Int)) = u.parent := by rw [Kept.typ' hR hK hx hi, hk, tpar_at hu]
  rcases hR.par hx hk hu with ⟨h1, h2, hk0⟩ | ⟨p, h1, h2, _, h4, h5, h6⟩
  · exact .inl ⟨h2, by unfold Code.par; rw [htp, if_pos h1]⟩
  · have hp := hK.par i p hi hil h1
    obtain ⟨y, hy⟩ : ∃ y, f[p]? = some y := ⟨_, List.getElem?_eq_getElem (by omega)⟩
    have hlt := hK.lt p i hp hi h2 hil
    refine .inr ⟨p, h1, h2, hp, ?_, hlt⟩
    unfold Code.par
    rw [htp, if_neg (by omega)]
    refine lastTo_is ?_ _ hlt fun j' h10 h11 he => ?_
    · rw [Kept.typ' hR hK hy hp, ← typ_at hy, h6]
    · obtain ⟨j, z, e1, e2, e3, rfl⟩ := Kept.below hR hK hi hil h11
      rw [Kept.typ' hR hK e3 e2] at he
      have hjp : p < j := by
        by_cases hc : j ≤ p
        · by_cases e : j = p
          · subst e; omega
          · have := hK.lt j p e2 hp (by omega) (by omega); omega
        · omega
      have hpar : Code.par b.types f i = lastTo f u.parent i := by unfold Code.par; rw [typ_at hx, hk, tpar_at hu, if_neg (by omega)]
      exact lastTo_last i j (p := u.parent) (f := f) (by rw [← hpar, h1]; omega) e1 (by rw [typ_at e3]; exact he)
theorem Kept.pth' : ∀ (n i : Nat), i ≤ n → ∀ x, f[i]? = some x → keep i → pth b.types g (pos i) = (pth b.types f i).map fun a => (pos a.toNat : Int) := by
  intro n
  induction n with
  | zero =>
    intro i hi x hx hm
    obtain rfl : i = 0 := by omega
    have hlt := (List.getElem?_eq_some_iff.1 hx).1
    have hc := (List.getElem?_eq_some_iff.1 (hK.at' 0 x hm hx)).1
    rcases Kept.par' hR hK hx hm with ⟨h1, h2⟩ | ⟨p, _, h2, _⟩
    · rw [pth_eq _ _ hlt, pth_eq _ _ hc, h1, h2, pthI_neg _ _ (by omega), pthI_neg _ _ (by omega)]; simp
    · omega
  | succ n ih =>
    intro i hi x hx hm
    have hlt := (List.getElem?_eq_some_iff.1 hx).1
    have hc := (List.getElem?_eq_some_iff.1 (hK.at' i x hm hx)).1
    rcases Kept.par' hR hK hx hm with ⟨h1, h2⟩ | ⟨p, h1, h2, h3, h4, _⟩
    · rw [pth_eq _ _ hlt, pth_eq _ _ hc, h1, h2, pthI_neg _ _ (by omega), pthI_neg _ _ (by omega)]; simp
    · obtain ⟨y, hy⟩ : ∃ y, f[p]? = some y := ⟨_, List.getElem?_eq_getElem (by omega)⟩
      rw [pth_eq _ _ hlt, pth_eq _ _ hc, h1, h4, pthI_nat, pthI_nat, ih p (by omega) y hy h3]; simp
theorem Kept.in : ∀ (n i : Nat), i ≤ n → i < f.length → keep i → ∀ a ∈ pth b.types f i, ∃ (q : Nat) (y : Item), a = (q : Int) ∧ f[q]? = some y ∧ keep q := by
  intro n
  induction n with
  | zero =>
    intro i hi hil hm a ha
    obtain rfl : i = 0 := by omega
    have hb := pth_bound ha
    exact ⟨0, _, by omega, List.getElem?_eq_getElem hil, hm⟩
  | succ n ih =>
    intro i hi hil hm a ha
    rw [pth_eq _ _ hil] at ha
    rcases List.mem_append.1 ha with ha | ha
    · by_cases h0 : Code.par b.types f i < 0
      · rw [pthI_neg _ _ h0] at ha; cases ha
      · obtain ⟨p, hp⟩ : ∃ p : Nat, Code.par b.types f i = (p : Int) := ⟨(Code.par b.types f i).toNat, by omega⟩
        have hpk := hK.par i p hm hil hp
        rw [hp, pthI_nat] at ha
        have := (par_lt b.types f i).2
        exact ih p (by omega) (by omega) hpk a ha
    · simp at ha
      exact ⟨i, _, ha, List.getElem?_eq_getElem hil, hm⟩
theorem Kept.ok {i : Nat} {x : Item} (hx : f[i]? = some x) (hm : keep i) : okAt b.types g (pos i) x = true := by
  have hi := (List.getElem?_eq_some_iff.1 hx).1
  have hok := hR.ok i x hi hx
  have hprev : ∀ c, pos i = c + 1 → ∃ (j : Nat) (z : Item), j < i ∧ keep j ∧ f[j]? = some z ∧ pos j = c ∧ way b.types g (pos i) = (pth b.types f j).map fun a => (pos a.toNat : Int) := by
    intro c hc
    obtain ⟨j, z, e1, e2, e3, e4⟩ := Kept.below hR hK hm hi (show c < pos i by omega)
    refine ⟨j, z, e1, e2, e3, e4, ?_⟩
    rw [hc, ← e4]
    exact Kept.pth' hR hK j j (Nat.le_refl _) z e3 e2
  have hpc := Kept.par' hR hK hx hm
  simp only [okAt, Bool.and_eq_true] at hok
  obtain ⟨⟨hft, hpk⟩, _⟩ := hok
  have hpar : (decide (tpar b.types x.type < 0) || tell (Code.par b.types g (pos i) ∈ way b.types g (pos i))) = true := by
    rcases hpc with ⟨h1, h2⟩ | ⟨p, h1, h2, h3, h4, h5⟩
    · have hno : Code.par b.types f i ∉ way b.types f i := fun h => by have := way_bound h; omega
      rw [tell_neg hno, Bool.or_false] at hpk
      rw [hpk]; rfl
    · obtain ⟨j, z, e1, e2, e3, e4, e5⟩ := hprev (pos i - 1) (by omega)
      have hpj : p ≤ j := Kept.inv hR hK h3 e2 (by omega) (by omega)
      have hmw := ok_par hx (hR.ok i x hi hx) (by omega)
      rw [h1] at hmw
      obtain ⟨i, rfl⟩ : ∃ i', i = i' + 1 := ⟨i - 1, by omega⟩
      have hmj := way_between (Nat.le_refl _) hR.ok i (by omega) _ hmw j (by omega) (by omega)
      rw [e5, h4, tell_pos (List.mem_map.2 ⟨_, hmj, by simp⟩)]; simp
  have hsib : sibOk b.types g (pos i) x = true := by
    unfold sibOk
    cases hc : pos i with
    | zero => simp [way, wayTo]
    | succ c =>
      obtain ⟨j, z, e1, e2, e3, e4, e5⟩ := hprev c hc
      rw [← hc, e5]
      have hno : nOf b.types g (pos i) = nOf b.types f i := by
        unfold nOf
        rcases hpc with ⟨h1, h2⟩ | ⟨p, h1, h2, h3, h4, h5⟩
        · rw [h1, h2, pthI_neg _ _ (by omega), pthI_neg _ _ (by omega)]
        · obtain ⟨y, hy⟩ : ∃ y, f[p]? = some y := ⟨_, List.getElem?_eq_getElem (by omega)⟩
          rw [h1, h4, pthI_nat, pthI_nat, Kept.pth' hR hK p p (Nat.le_refl _) y hy h3, List.length_map]
      rw [hno, List.getElem?_map]
      cases hn : (pth b.types f j)[nOf b.types f i]? with
      | none => rfl
      | some a =>
        simp only [Option.map_some]
        obtain ⟨q, y, rfl, hy, hym⟩ := Kept.in hR hK j j (Nat.le_refl _) (List.getElem?_eq_some_iff.1 e3).1 e2 a (List.mem_of_getElem? hn)
        have hfar := sib_far hR hx (i - 1 - j) j rfl e1 (by
          rcases hpc with ⟨h1, _⟩ | ⟨p, h1, h2, h3, h4, h5⟩
          · exact .inl (by omega)
          · have hpj : p ≤ j := Kept.inv hR hK h3 e2 (by omega) (by omega)
            have hmw := ok_par hx (hR.ok i x hi hx) (by omega)
            rw [h1] at hmw
            obtain ⟨i, rfl⟩ : ∃ i', i = i' + 1 := ⟨i - 1, by omega⟩
            exact .inr (by rw [h1]; exact way_between (Nat.le_refl _) hR.ok i (by omega) _ hmw j (by omega) (by omega))) _ hn
        simp only [Int.toNat_natCast]
        have hyt := typ_at (hK.at' q y hym hy)
        have hyd := dat_at (hK.at' q y hym hy)
        simp only [ordOk, typ_at hy, dat_at hy, hyt, hyd] at hfar ⊢
        exact hfar
  rw [okAt, hft, hpar, hsib]; rfl
theorem Kept.forest (hl : g.length ≤ 200) : Right b g := by
  refine ⟨hR.base, hR.valid, ?_⟩
  unfold forestOk
  rw [decide_eq_true (by omega), Bool.true_and]
  refine tell_pos fun j y hy => ?_
  have hj := (List.getElem?_eq_some_iff.1 hy).1
  obtain ⟨i, x, e1, e2, rfl⟩ := hK.of j hj
  rw [hK.at' i x e1 e2] at hy
  cases hy
  exact Kept.ok hR hK e2 e1
end
/-- what Delete leaves -/
theorem del_kept {b : Base} {f : List Item} (hR : Right b f) {i : Nat} (hi : i < f.length) : Kept b.types f (f.take i ++ f.drop (endOf b.types f i)) (fun k => k < i ∨ endOf b.types f i ≤ k) (fun k => if k < i then k else k - (endOf b.types f i - i)) := by
  have hend := endOf_is b.types f hi
  have hlt := hend.lt
  have hle := hend.le
  have ht : (f.take i).length = i := by rw [List.length_take]; omega
  refine ⟨fun k x hk hx => ?_, fun j hj => ?_, fun k k' hk hk' hkk hkl => ?_, fun k p hk hkl hp => ?_⟩
  · by_cases h : k < i
    · simp only [if_pos h]
      rw [List.getElem?_append_left (by omega), List.getElem?_take, if_pos h]; exact hx
    · simp only [if_neg h]
      rw [List.getElem?_append_right (by omega), ht, List.getElem?_drop]
      rw [show endOf b.types f i + (k - (endOf b.types f i - i) - i) = k by omega]; exact hx
  · rw [List.length_append, ht, List.length_drop] at hj
    by_cases h : j < i
    · exact ⟨j, f[j], .inl h, List.getElem?_eq_getElem (by omega), if_pos h⟩
    · refine ⟨j + (endOf b.types f i - i), _, .inr (by omega), List.getElem?_eq_getElem (by omega), ?_⟩
      show (if j + (endOf b.types f i - i) < i then _ else _) = j
      rw [if_neg (by omega)]; omega
  · show (if k < i then _ else _) < (if k' < i then _ else _)
    split <;> split <;> omega
  · -- the parent of what is kept is kept
    have hpl := par_lt b.types f k
    by_cases h : p < i ∨ endOf b.types f i ≤ p
    · exact h
    · exfalso
      have hke : endOf b.types f i ≤ k := by rcases hk with h | h <;> omega
      have hip : (i : Int) ∈ pth b.types f p := by
        by_cases e : p = i
        · subst e; exact pth_self _ _ _
        · exact hend.all p (by omega) (by omega)
      have hik : (i : Int) ∈ pth b.types f k := by
        rw [pth_eq _ _ hkl, hp, pthI_nat]
        exact List.mem_append_left _ hip
      exact hend.no (by omega) (way_between (Nat.le_refl _) hR.ok k hkl _ hik (endOf b.types f i) (by omega) hke)
theorem del_right {b : Base} {f : List Item} (hR : Right b f) {i : Nat} (hi : i < f.length) : Right b (f.take i ++ f.drop (endOf b.types f i)) := by
  have h2 := hR.len
  have hend := endOf_is b.types f hi
  have hlt := hend.lt
  have hle := hend.le
  exact Kept.forest hR (del_kept hR hi) (by rw [List.length_append, List.length_take, List.length_drop]; omega)
/-- the end of a subtree in a part -/
theorem part_end {b : Base} {l : List Int} {f : List Item} (hP : Part b l) (hR : Right b f) {i : Nat} {x : Item} (hx : f[i]? = some x) (hm : x.type ∈ l) : endOf (pTys b l) (partL l f) (cnt l f i) = cnt l f (endOf b.types f i) := by
  have hi := (List.getElem?_eq_some_iff.1 hx).1
  have hend := endOf_is b.types f hi
  have hlt := hend.lt
  have hle := hend.le
  have hci := (List.getElem?_eq_some_iff.1 (part_at hx hm)).1
  refine (endOf_is (pTys b l) (partL l f) hci).uniq ⟨cnt_lt hx hm hlt hle, ?_, fun k' h1 h2 => ?_, fun h1 h2 => ?_⟩
  · rw [← cnt_all]
    have := cnt_mono l f (f.length - endOf b.types f i) (endOf b.types f i) (by omega)
    rw [show endOf b.types f i + (f.length - endOf b.types f i) = f.length by omega] at this
    exact this
  · obtain ⟨k, z, e1, e2, e3, rfl⟩ := part_of (l := l) (f := f) (endOf b.types f i) hle k' h2
    have hik : i < k := by
      by_cases hc : k ≤ i
      · by_cases e : k = i
        · subst e; omega
        · have := cnt_lt e2 e3 (show k < i by omega) (by omega); omega
      · omega
    rw [pth_part hP hR k k (Nat.le_refl _) z e2 e3]
    exact List.mem_map.2 ⟨_, hend.all k hik e1, by simp⟩
  · obtain ⟨k, z, e1, e2, e3, e4⟩ := part_of (l := l) (f := f) f.length (Nat.le_refl _) (cnt l f (endOf b.types f i)) (by rw [cnt_all]; exact h1)
    have hke : endOf b.types f i ≤ k := cnt_inv e2 e3 hle (by omega)
    rw [← e4, pth_part hP hR k k (Nat.le_refl _) z e2 e3] at h2
    obtain ⟨a, ha, hae⟩ := List.mem_map.1 h2
    obtain ⟨q, y, rfl, hy, hym⟩ := pth_in hP hR k k (Nat.le_refl _) z e2 e3 a ha
    simp only [Int.toNat_natCast] at hae
    have hqi : q = i := by
      have a1 := cnt_inv (l := l) hx hm (i := q) (by have := (List.getElem?_eq_some_iff.1 hy).1; omega) (by omega)
      have a2 := cnt_inv (l := l) hy hym (i := i) (by omega) (by omega)
      omega
    subst hqi
    exact hend.no (by omega) (way_between (Nat.le_refl _) hR.ok k e1 _ ha (endOf b.types f q) (by omega) hke)
theorem part_del {b : Base} {l : List Int} {f : List Item} (hP : Part b l) (hR : Right b f) {i : Nat} {x : Item} (hx : f[i]? = some x) (hm : x.type ∈ l) :
    partL l (f.take i ++ f.drop (endOf b.types f i)) = (partL l f).take (cnt l f i) ++ (partL l f).drop (endOf (pTys b l) (partL l f) (cnt l f i)) := by
  have happ : ∀ u v : List Item, partL l (u ++ v) = partL l u ++ partL l v := fun u v => by unfold partL; rw [List.filter_append, List.map_append]
  have hsplit : ∀ n, partL l f = partL l (f.take n) ++ partL l (f.drop n) := fun n => by rw [← happ, List.take_append_drop]
  rw [part_end hP hR hx hm, happ]
  congr 1
  · conv => rhs; rw [hsplit i]
    exact (List.take_left' rfl).symm
  · conv => rhs; rw [hsplit (endOf b.types f i)]
    exact (List.drop_left' rfl).symm
end Go.Proofs.Ytcbmakanokmdjaa.Code

/- The law PlainCommutes is true. -/
set_option linter.unusedSimpArgs false
set_option linter.unusedVariables false
namespace Go.Proofs.Ytcbmakanokmdjaa.Code
open Go.Proofs.Ytcbmakanokmdjaa.Ev Go.RowKit

theorem open_Some {a : AV} (h : ArgTy true [.sl [.int .i64], .int .i64] a) : ∃ (l : List Int) (i : Int), a = .agg [eIs l, .int .i64 i] ∧ l.length < 9223372036854775807 := by
  obtain ⟨bs, rfl, h⟩ := h
  simp only [HasL.eq_2, HasL.eq_1, Has] at h
  obtain ⟨_, _, rfl, ⟨l, rfl, hl, hr⟩, _, _, rfl, ⟨i, rfl, _⟩, rfl⟩ := h
  obtain ⟨us, rfl, _⟩ := typed (P := HasL [.int .i64]) (fun r h => open_int h) l (fun r h => by simpa only [HasL.eq_2, HasL.eq_1, Has] using hr r h)
  exact ⟨us, i, rfl, reach_lt (by simpa using hl)⟩
theorem l6a (f : List Item) (k : Nat) (x : Item) (hx : f[k]? = some x) (l : List Int) (hl : l.length ≤ 1000) (v3 v8 v9 v11 v13 : AV) (H : Heap) (st : St)
    (hE : keepEnv st.1 [1, 3, 7, 8, 9, 11, 13, 14, 15, 16] = [(1, eItems f), (3, v3), (7, eIs l), (8, v8), (9, v9), (11, v11), (13, v13), (14, .bool false), (15, .int .i64 (k : Int)), (16, .int .i64 0)]) (hH : st.2 = H) (z : Option (CX × St)) (hz : itLim (evCode (evC cprog) itLim c6_l0) st = z) :
    ∃ T, z = some (.exit 2, T, H) ∧ keepEnv T [1, 3, 7, 8, 9, 11, 13, 14, 15] = [(1, eItems f), (3, v3), (7, eIs l), (8, v8), (9, v9), (11, v11), (13, v13), (14, .bool (decide (x.type ∈ l))), (15, .int .i64 (k : Int))] := by
  have hlen := (sIs [] l).len
  simp only [List.length_map] at hlen
  have ha := aItem hx
  have L := loop_rule (σ := Nat) (m := [1, 3, 7, 8, 9, 11, 13, 14, 15, 16]) (env := fun j => [(1, eItems f), (3, v3), (7, eIs l), (8, v8), (9, v9), (11, v11), (13, v13), (14, .bool (decide (x.type ∈ l.take j))), (15, .int .i64 (k : Int)), (16, .int .i64 (j : Int))]) (hp := fun _ => H)
    (P := fun _ r => ∃ T, r = (.exit 2, T, H) ∧ keepEnv T [1, 3, 7, 8, 9, 11, 13, 14, 15] = [(1, eItems f), (3, v3), (7, eIs l), (8, v8), (9, v9), (11, v11), (13, v13), (14, .bool (decide (x.type ∈ l))), (15, .int .i64 (k : Int))])
    (mu := fun j => l.length - j) (I := fun j => j ≤ l.length) (evCode (evC cprog) itLim c6_l0) ?_ 0 st (Nat.zero_le _) (by simpa using hE) hH z hz
  · obtain ⟨_, rfl, T, rfl, h⟩ := L
    exact ⟨T, rfl, h⟩
  · intro j hj E hE
    by_cases hlt : j < l.length
    · obtain ⟨t, ht⟩ : ∃ t, l[j]? = some t := ⟨_, List.getElem?_eq_getElem hlt⟩
      have hj1 : (j : Int) < (l.length : Int) := by omega
      have hat := aI ht
      have hw := wrapS hlt (by omega)
      have hmem : x.type ∈ l.take (j + 1) ↔ x.type ∈ l.take j ∨ t = x.type := by
        rw [List.take_add_one, ht, Option.toList_some, List.mem_append, List.mem_singleton]
        constructor <;> (rintro (h | h); exact .inl h; exact .inr h.symm)
      by_cases h1 : x.type ∈ l.take j
      · have h2 : decide (x.type ∈ l.take (j + 1)) = true := decide_eq_true (hmem.2 (.inl h1))
        simp only [c6_l0, hE, hj1, hlen, h1, hw, evX, Int.reduceEq, Int.reduceLT, Int.reduceLE, Nat.reduceMul, Nat.reduceMod, evW, fn_eq, evR, Nat.reduceAdd, Nat.reduceLT, Nat.reduceLeDiff, reduceIte, Nat.reduceEqDiff, reduceCtorEq, argEnv, eq_self, if_true, if_false]
        repeat' ((first | rw [guardK_cases] | rw [condK_bool] | rw [guardD_cases]); split <;> simp only [c6_l0, hE, hj1, hlen, h1, hw, evX, Int.reduceEq, Int.reduceLT, Int.reduceLE, Nat.reduceMul, Nat.reduceMod, evW, evR, Nat.reduceAdd, Nat.reduceLT, Nat.reduceLeDiff, reduceIte, Nat.reduceEqDiff, reduceCtorEq, argEnv, eq_self, if_true, if_false, *])
        exact q_next (j + 1) (by rw [h2]; rfl) rfl (by omega) (by omega) fun r h => h
      · by_cases e : t = x.type
        · have h2 : decide (x.type ∈ l.take (j + 1)) = true := decide_eq_true (hmem.2 (.inr e))
          simp only [c6_l0, hE, hj1, hlen, h1, hat, ha, rI, rItem, e, hw, evX, Int.reduceEq, Int.reduceLT, Int.reduceLE, Nat.reduceMul, Nat.reduceMod, evW, fn_eq, evR, Nat.reduceAdd, Nat.reduceLT, Nat.reduceLeDiff, reduceIte, Nat.reduceEqDiff, reduceCtorEq, argEnv, eq_self, if_true, if_false]
          repeat' ((first | rw [guardK_cases] | rw [condK_bool] | rw [guardD_cases]); split <;> simp only [c6_l0, hE, hj1, hlen, h1, hat, ha, rI, rItem, e, hw, evX, Int.reduceEq, Int.reduceLT, Int.reduceLE, Nat.reduceMul, Nat.reduceMod, evW, evR, Nat.reduceAdd, Nat.reduceLT, Nat.reduceLeDiff, reduceIte, Nat.reduceEqDiff, reduceCtorEq, argEnv, eq_self, if_true, if_false, *])
          exact q_next (j + 1) (by rw [h2]; rfl) rfl (by omega) (by omega) fun r h => h
        · have h2 : decide (x.type ∈ l.take (j + 1)) = false := decide_eq_false fun h => by rcases hmem.1 h with h | h; exact h1 h; exact e h
          simp only [c6_l0, hE, hj1, hlen, h1, hat, ha, rI, rItem, e, hw, evX, Int.reduceEq, Int.reduceLT, Int.reduceLE, Nat.reduceMul, Nat.reduceMod, evW, fn_eq, evR, Nat.reduceAdd, Nat.reduceLT, Nat.reduceLeDiff, reduceIte, Nat.reduceEqDiff, reduceCtorEq, argEnv, eq_self, if_true, if_false]
          repeat' ((first | rw [guardK_cases] | rw [condK_bool] | rw [guardD_cases]); split <;> simp only [c6_l0, hE, hj1, hlen, h1, hat, ha, rI, rItem, e, hw, evX, Int.reduceEq, Int.reduceLT, Int.reduceLE, Nat.reduceMul, Nat.reduceMod, evW, evR, Nat.reduceAdd, Nat.reduceLT, Nat.reduceLeDiff, reduceIte, Nat.reduceEqDiff, reduceCtorEq, argEnv, eq_self, if_true, if_false, *])
          exact q_next (j + 1) (by rw [h2]; rfl) rfl (by omega) (by omega) fun r h => h
    · have hj1 : ¬ (j : Int) < (l.length : Int) := by omega
      rw [List.take_of_length_le (by omega)] at hE
      simp only [c6_l0, hE, hj1, hlen, evX, Int.reduceEq, Int.reduceLT, Int.reduceLE, Nat.reduceMul, Nat.reduceMod, evW, fn_eq, evR, Nat.reduceAdd, Nat.reduceLT, Nat.reduceLeDiff, reduceIte, Nat.reduceEqDiff, reduceCtorEq, argEnv, eq_self, if_true, if_false]
      repeat' ((first | rw [guardK_cases] | rw [condK_bool] | rw [guardD_cases]); split <;> simp only [c6_l0, hE, hj1, hlen, evX, Int.reduceEq, Int.reduceLT, Int.reduceLE, Nat.reduceMul, Nat.reduceMod, evW, evR, Nat.reduceAdd, Nat.reduceLT, Nat.reduceLeDiff, reduceIte, Nat.reduceEqDiff, reduceCtorEq, argEnv, eq_self, if_true, if_false, *])
      exact q_exit ⟨_, rfl, by rfl⟩
def hasK (l : List Int) (f : List Item) : Nat → Bool
  | 0 => false
  | k + 1 => decide (typ f (k : Int) ∈ l)
theorem cnt_le (l : List Int) (f : List Item) (i : Nat) (hi : i ≤ f.length) : cnt l f i ≤ i := by
  unfold cnt
  have := partL_len l (f.take i)
  rw [List.length_take] at this; omega
theorem l6 (f : List Item) (hf : f.length ≤ 1000) (i : Nat) (hi : i < f.length) (l : List Int) (hl : l.length ≤ 1000) (v3 v9 v11 : AV) (H : Heap) (st : St)
    (hE : keepEnv st.1 [1, 3, 7, 8, 9, 11, 13, 14, 15] = [(1, eItems f), (3, v3), (7, eIs l), (8, .int .i64 (i : Int)), (9, v9), (11, v11), (13, .int .i64 0), (14, .bool false), (15, .int .i64 0)]) (hH : st.2 = H) (z : Option (CX × St)) (hz : itLim (evCode (evC cprog) itLim c6_l1) st = z) :
    ∃ T, z = some (.exit 0, T, H) ∧ keepEnv T [1, 3, 7, 8, 9, 11, 13, 14] = [(1, eItems f), (3, v3), (7, eIs l), (8, .int .i64 (i : Int)), (9, v9), (11, v11), (13, .int .i64 (cnt l f i : Int)), (14, .bool (decide (typ f (i : Int) ∈ l)))] := by
  have L := loop_rule (σ := Nat) (m := [1, 3, 7, 8, 9, 11, 13, 14, 15]) (env := fun k => [(1, eItems f), (3, v3), (7, eIs l), (8, .int .i64 (i : Int)), (9, v9), (11, v11), (13, .int .i64 (cnt l f (min k i) : Int)), (14, .bool (hasK l f k)), (15, .int .i64 (k : Int))]) (hp := fun _ => H)
    (P := fun _ r => ∃ T, r = (.exit 0, T, H) ∧ keepEnv T [1, 3, 7, 8, 9, 11, 13, 14] = [(1, eItems f), (3, v3), (7, eIs l), (8, .int .i64 (i : Int)), (9, v9), (11, v11), (13, .int .i64 (cnt l f i : Int)), (14, .bool (decide (typ f (i : Int) ∈ l)))])
    (mu := fun k => i + 1 - k) (I := fun k => k ≤ i + 1) (evCode (evC cprog) itLim c6_l1) ?_ 0 st (Nat.zero_le _) (by rw [Nat.zero_min]; exact hE) hH z hz
  · obtain ⟨_, rfl, T, rfl, h⟩ := L
    exact ⟨T, rfl, h⟩
  · intro k hk E hE
    by_cases hlt : k ≤ i
    · obtain ⟨x, hx⟩ : ∃ x, f[k]? = some x := ⟨_, List.getElem?_eq_getElem (by omega)⟩
      have hk1 : (k : Int) ≤ (i : Int) := by omega
      have hw := wrapS (i := k) (n := 2000) (by omega) (by omega)
      have hcl := cnt_le l f (min k i) (by omega)
      have hwc := wrapS (i := cnt l f (min k i)) (n := 2000) (by omega) (by omega)
      simp only [c6_l1, hE, hk1, evX, Int.reduceEq, Int.reduceLT, Int.reduceLE, Nat.reduceMul, Nat.reduceMod, evW, fn_eq, evR, Nat.reduceAdd, Nat.reduceLT, Nat.reduceLeDiff, reduceIte, Nat.reduceEqDiff, reduceCtorEq, argEnv, eq_self, if_true, if_false]
      repeat' ((first | rw [guardK_cases] | rw [condK_bool] | rw [guardD_cases]); split <;> simp only [c6_l1, hE, hk1, evX, Int.reduceEq, Int.reduceLT, Int.reduceLE, Nat.reduceMul, Nat.reduceMod, evW, evR, Nat.reduceAdd, Nat.reduceLT, Nat.reduceLeDiff, reduceIte, Nat.reduceEqDiff, reduceCtorEq, argEnv, eq_self, if_true, if_false, *])
      generalize hz : itLim _ _ = z
      obtain ⟨T, rfl, hT⟩ := l6a f k x hx l hl v3 (.int .i64 (i : Int)) v9 v11 (.int .i64 (cnt l f (min k i) : Int)) H _ (by rfl) rfl z hz
      have hh : hasK l f (k + 1) = decide (x.type ∈ l) := by simp only [hasK, typ_at hx]
      have hc := cnt_succ l hx
      by_cases hm : x.type ∈ l
      · rw [decide_eq_true hm] at hh hT
        by_cases hki : (k : Int) < (i : Int)
        · have hcn : cnt l f (min (k + 1) i) = cnt l f (min k i) + 1 := by
            rw [show min (k + 1) i = k + 1 by omega, show min k i = k by omega, hc, if_pos hm]
          simp only [hT, hki, hw, hwc, evX, Int.reduceEq, Int.reduceLT, Int.reduceLE, Nat.reduceMul, Nat.reduceMod, evW, fn_eq, evR, Nat.reduceAdd, Nat.reduceLT, Nat.reduceLeDiff, reduceIte, Nat.reduceEqDiff, reduceCtorEq, argEnv, eq_self, if_true, if_false]
          repeat' ((first | rw [guardK_cases] | rw [condK_bool] | rw [guardD_cases]); split <;> simp only [hT, hki, hw, hwc, evX, Int.reduceEq, Int.reduceLT, Int.reduceLE, Nat.reduceMul, Nat.reduceMod, evW, evR, Nat.reduceAdd, Nat.reduceLT, Nat.reduceLeDiff, reduceIte, Nat.reduceEqDiff, reduceCtorEq, argEnv, eq_self, if_true, if_false, *])
          exact q_next (k + 1) (by rw [hh, hcn]; rfl) rfl (by omega) (by omega) fun r h => h
        · have hcn : cnt l f (min (k + 1) i) = cnt l f (min k i) := by
            rw [show min (k + 1) i = i by omega, show min k i = i by omega]
          simp only [hT, hki, hw, hwc, evX, Int.reduceEq, Int.reduceLT, Int.reduceLE, Nat.reduceMul, Nat.reduceMod, evW, fn_eq, evR, Nat.reduceAdd, Nat.reduceLT, Nat.reduceLeDiff, reduceIte, Nat.reduceEqDiff, reduceCtorEq, argEnv, eq_self, if_true, if_false]
          repeat' ((first | rw [guardK_cases] | rw [condK_bool] | rw [guardD_cases]); split <;> simp only [hT, hki, hw, hwc, evX, Int.reduceEq, Int.reduceLT, Int.reduceLE, Nat.reduceMul, Nat.reduceMod, evW, evR, Nat.reduceAdd, Nat.reduceLT, Nat.reduceLeDiff, reduceIte, Nat.reduceEqDiff, reduceCtorEq, argEnv, eq_self, if_true, if_false, *])
          exact q_next (k + 1) (by rw [hh, hcn]; rfl) rfl (by omega) (by omega) fun r h => h
      · rw [decide_eq_false hm] at hh hT
        have hcn : cnt l f (min (k + 1) i) = cnt l f (min k i) := by
          by_cases hki : k < i
          · rw [show min (k + 1) i = k + 1 by omega, show min k i = k by omega, hc, if_neg hm]; rfl
          · rw [show min (k + 1) i = i by omega, show min k i = i by omega]
        simp only [hT, hw, hwc, evX, Int.reduceEq, Int.reduceLT, Int.reduceLE, Nat.reduceMul, Nat.reduceMod, evW, fn_eq, evR, Nat.reduceAdd, Nat.reduceLT, Nat.reduceLeDiff, reduceIte, Nat.reduceEqDiff, reduceCtorEq, argEnv, eq_self, if_true, if_false]
        repeat' ((first | rw [guardK_cases] | rw [condK_bool] | rw [guardD_cases]); split <;> simp only [hT, hw, hwc, evX, Int.reduceEq, Int.reduceLT, Int.reduceLE, Nat.reduceMul, Nat.reduceMod, evW, evR, Nat.reduceAdd, Nat.reduceLT, Nat.reduceLeDiff, reduceIte, Nat.reduceEqDiff, reduceCtorEq, argEnv, eq_self, if_true, if_false, *])
        exact q_next (k + 1) (by rw [hh, hcn]; rfl) rfl (by omega) (by omega) fun r h => h
    · have hk1 : ¬ (k : Int) ≤ (i : Int) := by omega
      obtain rfl : k = i + 1 := by omega
      rw [show min (i + 1) i = i by omega] at hE
      simp only [c6_l1, hE, hk1, evX, Int.reduceEq, Int.reduceLT, Int.reduceLE, Nat.reduceMul, Nat.reduceMod, evW, fn_eq, evR, Nat.reduceAdd, Nat.reduceLT, Nat.reduceLeDiff, reduceIte, Nat.reduceEqDiff, reduceCtorEq, argEnv, eq_self, if_true, if_false]
      repeat' ((first | rw [guardK_cases] | rw [condK_bool] | rw [guardD_cases]); split <;> simp only [c6_l1, hE, hk1, evX, Int.reduceEq, Int.reduceLT, Int.reduceLE, Nat.reduceMul, Nat.reduceMod, evW, evR, Nat.reduceAdd, Nat.reduceLT, Nat.reduceLeDiff, reduceIte, Nat.reduceEqDiff, reduceCtorEq, argEnv, eq_self, if_true, if_false, *])
      exact q_exit ⟨_, rfl, by rfl⟩
theorem errF_in {b : Base} {f : List Item} (hr : Right b f) {i : Nat} (hi : i < f.length) : errF b f [(i : Int)] = 0 := by
  unfold errF
  rw [if_pos hr.valid, if_pos hr.forest, if_neg]
  simp [outOf]; omega
theorem errF_nil {b : Base} {f : List Item} (hr : Right b f) : errF b f [] = 0 := by
  unfold errF
  rw [if_pos hr.valid, if_pos hr.forest]; rfl
theorem errP_zero {b : Base} {l : List Int} (hp : Part b l) : errP b l = 0 := by
  unfold errP
  rw [if_pos hp.valid, if_pos]
  have := List.length_pos_iff.2 hp.ne
  simp [isPart, hp.parts]; omega
theorem f6 (b : Base) (hb : b.Ok) (f : List Item) (hf : f.length < 9223372036854775807) (l : List Int) (hl : l.length < 9223372036854775807) (i : Int) : ∃ H', evC cprog 6 [eBase b, eItems f, .agg [eIs l, .int .i64 i]] [] = some (.bool true, H') := by
  have h9 := f9 b hb f hf
  have h10 := f10
  have h22 := fun H => f22 b hb f hf .nils [] (by simp) H (nil_slat H)
  have h23 := f23 b l hl
  have hlen := (sIs [] l).len
  have hlen' := (sItems [] f).len
  simp only [List.length_map] at hlen hlen'
  simp only [eBase] at h9 h22 h23
  rw [evC_fn at6]
  cases hs : small b f with
  | false =>
    simp only [c6, eBase, cells_eItems, isTup_eItems, h9, h10, hs, evX, Int.reduceEq, Int.reduceLT, Int.reduceLE, Nat.reduceMul, Nat.reduceMod, evW, fn_eq, evR, Nat.reduceAdd, Nat.reduceLT, Nat.reduceLeDiff, reduceIte, Nat.reduceEqDiff, reduceCtorEq, argEnv, eq_self, if_true, if_false]
    repeat' ((first | rw [guardK_cases] | rw [condK_bool] | rw [guardD_cases]); split <;> simp only [c6, eBase, cells_eItems, isTup_eItems, h9, h10, hs, evX, Int.reduceEq, Int.reduceLT, Int.reduceLE, Nat.reduceMul, Nat.reduceMod, evW, evR, Nat.reduceAdd, Nat.reduceLT, Nat.reduceLeDiff, reduceIte, Nat.reduceEqDiff, reduceCtorEq, argEnv, eq_self, if_true, if_false, *])
    exact ⟨_, rfl⟩
  | true =>
  have hl60 := small_len hs
  by_cases h20 : (20 : Int) < (l.length : Int)
  · simp only [c6, eBase, cells_eItems, isTup_eItems, h9, h10, hs, hlen, h20, evX, Int.reduceEq, Int.reduceLT, Int.reduceLE, Nat.reduceMul, Nat.reduceMod, evW, fn_eq, evR, Nat.reduceAdd, Nat.reduceLT, Nat.reduceLeDiff, reduceIte, Nat.reduceEqDiff, reduceCtorEq, argEnv, eq_self, if_true, if_false]
    repeat' ((first | rw [guardK_cases] | rw [condK_bool] | rw [guardD_cases]); split <;> simp only [c6, eBase, cells_eItems, isTup_eItems, h9, h10, hs, hlen, h20, evX, Int.reduceEq, Int.reduceLT, Int.reduceLE, Nat.reduceMul, Nat.reduceMod, evW, evR, Nat.reduceAdd, Nat.reduceLT, Nat.reduceLeDiff, reduceIte, Nat.reduceEqDiff, reduceCtorEq, argEnv, eq_self, if_true, if_false, *])
    exact ⟨_, rfl⟩
  by_cases he : errF b f [] = 0
  · obtain ⟨hr, _⟩ := errF_zero hb he
    cases hq : isPart b.types l with
    | false =>
      simp only [c6, eBase, cells_eItems, isTup_eItems, h9, h10, hs, hlen, h20, h22, he, h23, hq, evX, Int.reduceEq, Int.reduceLT, Int.reduceLE, Nat.reduceMul, Nat.reduceMod, evW, fn_eq, evR, Nat.reduceAdd, Nat.reduceLT, Nat.reduceLeDiff, reduceIte, Nat.reduceEqDiff, reduceCtorEq, argEnv, eq_self, if_true, if_false]
      repeat' ((first | rw [guardK_cases] | rw [condK_bool] | rw [guardD_cases]); split <;> simp only [c6, eBase, cells_eItems, isTup_eItems, h9, h10, hs, hlen, h20, h22, he, h23, hq, evX, Int.reduceEq, Int.reduceLT, Int.reduceLE, Nat.reduceMul, Nat.reduceMod, evW, evR, Nat.reduceAdd, Nat.reduceLT, Nat.reduceLeDiff, reduceIte, Nat.reduceEqDiff, reduceCtorEq, argEnv, eq_self, if_true, if_false, *])
      exact ⟨_, rfl⟩
    | true =>
      have hp : Part b l := by
        simp only [isPart, Bool.and_eq_true, decide_eq_true_eq] at hq
        exact ⟨hb, hr.valid, hq.1, fun e => by have := hq.2; rw [e] at this; simp at this⟩
      by_cases n1 : i < 0
      · simp only [c6, eBase, cells_eItems, isTup_eItems, h9, h10, hs, hlen, h20, h22, he, h23, hq, n1, evX, Int.reduceEq, Int.reduceLT, Int.reduceLE, Nat.reduceMul, Nat.reduceMod, evW, fn_eq, evR, Nat.reduceAdd, Nat.reduceLT, Nat.reduceLeDiff, reduceIte, Nat.reduceEqDiff, reduceCtorEq, argEnv, eq_self, if_true, if_false]
        repeat' ((first | rw [guardK_cases] | rw [condK_bool] | rw [guardD_cases]); split <;> simp only [c6, eBase, cells_eItems, isTup_eItems, h9, h10, hs, hlen, h20, h22, he, h23, hq, n1, evX, Int.reduceEq, Int.reduceLT, Int.reduceLE, Nat.reduceMul, Nat.reduceMod, evW, evR, Nat.reduceAdd, Nat.reduceLT, Nat.reduceLeDiff, reduceIte, Nat.reduceEqDiff, reduceCtorEq, argEnv, eq_self, if_true, if_false, *])
        exact ⟨_, rfl⟩
      by_cases n2 : (f.length : Int) ≤ i
      · simp only [c6, eBase, cells_eItems, isTup_eItems, h9, h10, hs, hlen, hlen', h20, h22, he, h23, hq, n1, n2, evX, Int.reduceEq, Int.reduceLT, Int.reduceLE, Nat.reduceMul, Nat.reduceMod, evW, fn_eq, evR, Nat.reduceAdd, Nat.reduceLT, Nat.reduceLeDiff, reduceIte, Nat.reduceEqDiff, reduceCtorEq, argEnv, eq_self, if_true, if_false]
        repeat' ((first | rw [guardK_cases] | rw [condK_bool] | rw [guardD_cases]); split <;> simp only [c6, eBase, cells_eItems, isTup_eItems, h9, h10, hs, hlen, hlen', h20, h22, he, h23, hq, n1, n2, evX, Int.reduceEq, Int.reduceLT, Int.reduceLE, Nat.reduceMul, Nat.reduceMod, evW, evR, Nat.reduceAdd, Nat.reduceLT, Nat.reduceLeDiff, reduceIte, Nat.reduceEqDiff, reduceCtorEq, argEnv, eq_self, if_true, if_false, *])
        exact ⟨_, rfl⟩
      obtain ⟨i, rfl⟩ : ∃ j : Nat, i = (j : Int) := ⟨i.toNat, by omega⟩
      have hi : i < f.length := by omega
      obtain ⟨x, hx⟩ : ∃ x, f[i]? = some x := ⟨_, List.getElem?_eq_getElem hi⟩
      have hep := errP_zero hp
      have hel : errL b f l = 0 := by unfold errL; rw [if_pos he, hep]
      have h21 := f21 b hb l (by omega)
      rw [show partR b l = partB b l from if_pos hep, hep] at h21
      have h19 := f19 b hb f hf l (by omega)
      rw [show partLR b f l = partL l f from if_pos hel, hel] at h19
      simp only [eBase, eLE] at h21 h19
      simp only [c6, eBase, cells_eItems, isTup_eItems, h9, h10, hs, hlen, hlen', h20, h22, he, h23, hq, n1, n2, h21, h19, evX, Int.reduceEq, Int.reduceLT, Int.reduceLE, Nat.reduceMul, Nat.reduceMod, evW, fn_eq, evR, Nat.reduceAdd, Nat.reduceLT, Nat.reduceLeDiff, reduceIte, Nat.reduceEqDiff, reduceCtorEq, argEnv, eq_self, if_true, if_false]
      repeat' ((first | rw [guardK_cases] | rw [condK_bool] | rw [guardD_cases]); split <;> simp only [c6, eBase, cells_eItems, isTup_eItems, h9, h10, hs, hlen, hlen', h20, h22, he, h23, hq, n1, n2, h21, h19, evX, Int.reduceEq, Int.reduceLT, Int.reduceLE, Nat.reduceMul, Nat.reduceMod, evW, evR, Nat.reduceAdd, Nat.reduceLT, Nat.reduceLeDiff, reduceIte, Nat.reduceEqDiff, reduceCtorEq, argEnv, eq_self, if_true, if_false, *])
      generalize hz : itLim _ _ = z
      obtain ⟨T, rfl, hT⟩ := l6 f (by omega) i hi l (by omega) _ _ _ _ _ (by rfl) rfl z hz
      rw [typ_at hx] at hT
      by_cases hm : x.type ∈ l
      · rw [decide_eq_true hm] at hT
        have hrd := del_right hr hi
        have h15 := f15 b hb f hf (i : Int)
        rw [errF_in hr hi, show delR b f (i : Int) = f.take i ++ f.drop (endOf b.types f i) by unfold delR; rw [if_pos (errF_in hr hi), Int.toNat_natCast]] at h15
        have hel' : errL b (f.take i ++ f.drop (endOf b.types f i)) l = 0 := by unfold errL; rw [if_pos (errF_nil hrd), hep]
        have h19' := f19 b hb (f.take i ++ f.drop (endOf b.types f i)) (by have := hrd.len; omega) l (by omega)
        rw [show partLR b (f.take i ++ f.drop (endOf b.types f i)) l = partL l (f.take i ++ f.drop (endOf b.types f i)) from if_pos hel', hel'] at h19'
        have hrp : Right (partB b l) (partL l f) := ⟨hp.ok, hp.validB, hp.forest hr⟩
        have hci := (List.getElem?_eq_some_iff.1 (part_at hx hm)).1
        have hpl := partL_len l f
        have h15' := f15 (partB b l) hp.ok (partL l f) (by omega) (cnt l f i : Int)
        rw [errF_in hrp hci, show delR (partB b l) (partL l f) (cnt l f i : Int) = (partL l f).take (cnt l f i) ++ (partL l f).drop (endOf (pTys b l) (partL l f) (cnt l f i)) by unfold delR; rw [if_pos (errF_in hrp hci), Int.toNat_natCast]; rfl, ← part_del hp hr hx hm] at h15'
        have hsame : same (partL l (f.take i ++ f.drop (endOf b.types f i))) (partL l (f.take i ++ f.drop (endOf b.types f i))) = true := tell_pos rfl
        have h14 := f14 (partL l (f.take i ++ f.drop (endOf b.types f i))) (partL l (f.take i ++ f.drop (endOf b.types f i))) (by
          have := partL_len l (f.take i ++ f.drop (endOf b.types f i))
          have := hrd.len; omega)
        rw [hsame] at h14
        simp only [eBase, eLE] at h15 h19' h15'
        simp only [hT, h15, h19', h15', h14, h10, evX, Int.reduceEq, Int.reduceLT, Int.reduceLE, Nat.reduceMul, Nat.reduceMod, evW, fn_eq, evR, Nat.reduceAdd, Nat.reduceLT, Nat.reduceLeDiff, reduceIte, Nat.reduceEqDiff, reduceCtorEq, argEnv, eq_self, if_true, if_false]
        repeat' ((first | rw [guardK_cases] | rw [condK_bool] | rw [guardD_cases]); split <;> simp only [hT, h15, h19', h15', h14, h10, evX, Int.reduceEq, Int.reduceLT, Int.reduceLE, Nat.reduceMul, Nat.reduceMod, evW, evR, Nat.reduceAdd, Nat.reduceLT, Nat.reduceLeDiff, reduceIte, Nat.reduceEqDiff, reduceCtorEq, argEnv, eq_self, if_true, if_false, *])
        all_goals exact ⟨_, rfl⟩
      · rw [decide_eq_false hm] at hT
        simp only [hT, h10, evX, Int.reduceEq, Int.reduceLT, Int.reduceLE, Nat.reduceMul, Nat.reduceMod, evW, fn_eq, evR, Nat.reduceAdd, Nat.reduceLT, Nat.reduceLeDiff, reduceIte, Nat.reduceEqDiff, reduceCtorEq, argEnv, eq_self, if_true, if_false]
        repeat' ((first | rw [guardK_cases] | rw [condK_bool] | rw [guardD_cases]); split <;> simp only [hT, h10, evX, Int.reduceEq, Int.reduceLT, Int.reduceLE, Nat.reduceMul, Nat.reduceMod, evW, evR, Nat.reduceAdd, Nat.reduceLT, Nat.reduceLeDiff, reduceIte, Nat.reduceEqDiff, reduceCtorEq, argEnv, eq_self, if_true, if_false, *])
        exact ⟨_, rfl⟩
  · simp only [c6, eBase, cells_eItems, isTup_eItems, h9, h10, hs, hlen, h20, h22, he, evX, Int.reduceEq, Int.reduceLT, Int.reduceLE, Nat.reduceMul, Nat.reduceMod, evW, fn_eq, evR, Nat.reduceAdd, Nat.reduceLT, Nat.reduceLeDiff, reduceIte, Nat.reduceEqDiff, reduceCtorEq, argEnv, eq_self, if_true, if_false]
    repeat' ((first | rw [guardK_cases] | rw [condK_bool] | rw [guardD_cases]); split <;> simp only [c6, eBase, cells_eItems, isTup_eItems, h9, h10, hs, hlen, h20, h22, he, evX, Int.reduceEq, Int.reduceLT, Int.reduceLE, Nat.reduceMul, Nat.reduceMod, evW, evR, Nat.reduceAdd, Nat.reduceLT, Nat.reduceLeDiff, reduceIte, Nat.reduceEqDiff, reduceCtorEq, argEnv, eq_self, if_true, if_false, *])
    exact ⟨_, rfl⟩
end Go.Proofs.Ytcbmakanokmdjaa.Code
namespace Go.Proofs.Ytcbmakanokmdjaa.Pure
open Go.Proofs.Ytcbmakanokmdjaa.Ev Go.Proofs.Ytcbmakanokmdjaa.Code
theorem PlainCommutes (a0 : AV) (t0 : ArgTy true [.str, .int .i64, .sl [.str, .int .i64, .int .i64, .int .i64, .sl [.str, .int .i64, .int .i64], .int .i64, .bool, .bool], .sl [.str, .int .i64, .int .i64, .str]] a0)
    (a1 : AV) (t1 : ArgTy false [.sl [.int .i64, .str]] a1) (a2 : AV) (t2 : ArgTy true [.sl [.int .i64], .int .i64] a2) : ∃ H', evC cprog 6 [a0, a1, a2] [] = some (.bool true, H') := by
  obtain ⟨b, rfl, hb⟩ := open_Base t0
  obtain ⟨f, rfl, hf⟩ := open_Items t1
  obtain ⟨l, i, rfl, hl⟩ := open_Some t2
  exact f6 b hb f hf l hl i
end Go.Proofs.Ytcbmakanokmdjaa.Pure

