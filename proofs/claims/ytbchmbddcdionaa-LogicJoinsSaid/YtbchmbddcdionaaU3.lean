/- Texts of ours, joined into one file; each begins with its own remark. -/
import Derived.Test.YtbchmbddcdionaaU2
/- logic: paths, of the program and of the document: the walks up. -/
set_option linter.unusedSimpArgs false
set_option linter.unusedVariables false
namespace Go.Proofs.Ytbchmbddcdionaa.Code
open Go.Proofs.Ytbchmbddcdionaa.Ev

/-- a walk up: what is ahead, and what was walked -/
structure Walks (b : Base) (f : List Item) (i : Nat) (c : Int) (acc : List Int) : Prop where
  lo : -1 ≤ c
  hi : c < (f.length : Int)
  eq : pth b.types f i = pthI b.types f c ++ acc
  len : (acc.length : Int) + c ≤ (f.length : Int)
theorem Walks.step {b : Base} {f : List Item} {i c : Nat} {acc : List Int} (w : Walks b f i (c : Int) acc) : Walks b f i (par b.types f c) ((c : Int) :: acc) := by
  have h1 := w.hi
  have hp := par_lt b.types f c
  refine ⟨hp.1, by omega, ?_, by have := w.len; simp; omega⟩
  rw [w.eq, pthI_nat, pth_eq b.types f (by omega), List.append_assoc]; rfl
theorem Walks.last {b : Base} {f : List Item} {i : Nat} {c : Int} {acc : List Int} (w : Walks b f i c acc) (h : c < 0) : acc = pth b.types f i := by
  rw [w.eq, pthI_neg _ _ h]; rfl
theorem out_src_more {n ty : Nat} {X : Heap} {rv : AV} {rows : List (List AV)} (h : Out n 1 ty X rv rows) (H : Heap) (hn : n = H.length) (Y : Heap) : srcRows (H ++ (X ++ Y)) rv = some rows := by
  subst hn
  rcases h with ⟨rfl, rfl | rfl⟩ | ⟨h1, j, v, rfl, h3⟩
  · rfl
  · rfl
  · have hl := (List.getElem?_eq_some_iff.1 h3).1
    cases hr : rows.length with
    | zero => exact absurd (List.eq_nil_of_length_eq_zero hr) h1
    | succ m =>
      have hc : curBlk (H ++ (X ++ Y)) (H.length + j) v 1 = some ⟨v, true, ty, 1, rows⟩ := by simp [curBlk, at_app, List.getElem?_append_left hl, h3]
      simp only [srcRows, rowsOf, hc, Option.map_some, List.drop_zero]
      rw [List.take_of_length_le (by omega)]
theorem rI_rows (l : List Int) : ∀ r ∈ l.map rI, r.length = 1 := fun r hr => by obtain ⟨y, _, rfl⟩ := List.mem_map.1 hr; rfl
theorem f80 (b : Base) (f : List Item) (hr : Right b f) (i : Nat) (hi : i < f.length) (H : Heap) : cal (evC cprog) true 80 [eBase b, eItems f, .int .i64 (i : Int)] H = some (eIs (pth b.types f i), H) := by
  rw [cal_of at80]
  have hfl := hr.len
  obtain ⟨K, hK⟩ : ∃ K : Heap, K = H ++ [bBase b] := ⟨_, rfl⟩
  have kl : K.length = H.length + 1 := by rw [hK]; simp
  have kt : ∀ Z, (K ++ Z).take H.length = H := fun Z => by rw [hK]; simp
  have kb : ∀ Z, (K ++ Z)[H.length]? = some (bBase b) := fun Z => by rw [hK]; simp
  have L := fun (st : St) (hE : keepEnv st.1 [1, 2, 3, 7] = [(1, eItems f), (2, .int .i64 (i : Int)), (3, .ptr H.length 0 4 0 0), (7, .nils)]) (hH : st.2 = K) (z : Option (CX × St)) (hz : itLim (evCode (evC cprog) itLim c80_l0) st = z) =>
    loop_rule (σ := Int × List Int × Heap × AV) (m := [1, 2, 3, 7]) (env := fun s => [(1, eItems f), (2, .int .i64 s.1), (3, .ptr H.length 0 4 0 0), (7, s.2.2.2)]) (hp := fun s => K ++ s.2.2.1)
    (P := fun _ r => ∃ T X rv, r = (.exit 0, T, K ++ X) ∧ keepEnv T [7] = [(7, rv)] ∧ Out K.length 1 3 X rv ((pth b.types f i).reverse.map rI))
    (mu := fun s => (s.1 + 1).toNat) (I := fun s => Walks b f i s.1 s.2.1 ∧ Out K.length 1 3 s.2.2.1 s.2.2.2 (s.2.1.reverse.map rI)) (evCode (evC cprog) itLim c80_l0) (by
      intro ⟨c, acc, X, rv⟩ ⟨w, hO⟩ E hE
      simp only at w hO hE ⊢
      have h1 := w.lo
      have h2 := w.hi
      have h3 := w.len
      by_cases hc : 0 ≤ c
      · obtain ⟨c, rfl⟩ : ∃ k : Nat, c = (k : Int) := ⟨c.toNat, by omega⟩
        have h102 := fun H => f102 b f hr c (by omega) H
        have w2 := w.step
        obtain ⟨rv1, X1, a1, t1, O1⟩ := (hO.more [⟨0, true, 3, 1, [[.int .i64 (c : Int)]]⟩]).app K rfl 8 (.ref (K.length + X.length) 0 1 0 1) [rI (c : Int)] (by simp [srcRows, rowsOf, curBlk, ← List.append_assoc, rI]) (by simp [rI]) (by simp [reach]; omega)
        have hra : acc.reverse.map rI ++ [rI (c : Int)] = ((c : Int) :: acc).reverse.map rI := by simp
        rw [hra] at O1
        simp only [bBase] at kb
        simp only [eBase] at h102
        have hpl := par_lt b.types f c
        simp only [c80_l0, hE, hc, kb, h102, a1, t1, evX, Int.reduceEq, Int.reduceLT, Int.reduceLE, Nat.reduceMul, Nat.reduceMod, evW, fn_eq, evR, Nat.reduceAdd, Nat.reduceLT, Nat.reduceLeDiff, reduceIte, Nat.reduceEqDiff, reduceCtorEq, argEnv, eq_self, if_true, if_false]
        repeat' ((first | rw [guardK_cases] | rw [condK_bool] | rw [guardD_cases]); split <;> simp only [c80_l0, hE, hc, kb, h102, a1, t1, evX, Int.reduceEq, Int.reduceLT, Int.reduceLE, Nat.reduceMul, Nat.reduceMod, evW, evR, Nat.reduceAdd, Nat.reduceLT, Nat.reduceLeDiff, reduceIte, Nat.reduceEqDiff, reduceCtorEq, argEnv, eq_self, if_true, if_false, *])
        exact q_next (par b.types f c, (c : Int) :: acc, X1, rv1) (by rfl) rfl ⟨w2, O1⟩ (by simp only; omega) fun r h => h
      · simp only [c80_l0, hE, hc, evX, Int.reduceEq, Int.reduceLT, Int.reduceLE, Nat.reduceMul, Nat.reduceMod, evW, fn_eq, evR, Nat.reduceAdd, Nat.reduceLT, Nat.reduceLeDiff, reduceIte, Nat.reduceEqDiff, reduceCtorEq, argEnv, eq_self, if_true, if_false]
        repeat' ((first | rw [guardK_cases] | rw [condK_bool] | rw [guardD_cases]); split <;> simp only [c80_l0, hE, hc, evX, Int.reduceEq, Int.reduceLT, Int.reduceLE, Nat.reduceMul, Nat.reduceMod, evW, evR, Nat.reduceAdd, Nat.reduceLT, Nat.reduceLeDiff, reduceIte, Nat.reduceEqDiff, reduceCtorEq, argEnv, eq_self, if_true, if_false, *])
        rw [w.last (by omega)] at hO
        exact q_exit ⟨_, X, rv, rfl, by rfl, hO⟩) ((i : Int), [], [], .nils) st ⟨⟨by omega, by omega, by rw [pthI_nat, List.append_nil], by simp; omega⟩, .nils ..⟩ hE (by simpa using hH) z hz
  simp only [c80, eBase, evX, Int.reduceEq, Int.reduceLT, Int.reduceLE, Nat.reduceMul, Nat.reduceMod, evW, fn_eq, evR, Nat.reduceAdd, Nat.reduceLT, Nat.reduceLeDiff, reduceIte, Nat.reduceEqDiff, reduceCtorEq, argEnv, eq_self, if_true, if_false]
  repeat' ((first | rw [guardK_cases] | rw [condK_bool] | rw [guardD_cases]); split <;> simp only [c80, eBase, evX, Int.reduceEq, Int.reduceLT, Int.reduceLE, Nat.reduceMul, Nat.reduceMod, evW, evR, Nat.reduceAdd, Nat.reduceLT, Nat.reduceLeDiff, reduceIte, Nat.reduceEqDiff, reduceCtorEq, argEnv, eq_self, if_true, if_false, *])
  generalize hz : itLim _ _ = z
  obtain ⟨_, rfl, T, X, rv, rfl, hT, hO⟩ := L _ (by rfl) (by rw [hK]; rfl) z hz
  clear hz L
  have hne : pth b.types f i ≠ [] := fun e => by have := pth_self b.types f i; rw [e] at this; cases this
  have hpl : (pth b.types f i).length ≤ 1000 := by
    have := anc_len (pts b.types f) i i (Nat.le_refl _)
    have e : (pth b.types f i).length ≤ i + 1 := this
    omega
  have hp0 := List.length_pos_iff.2 hne
  generalize pth b.types f i = l at *
  rcases hO with ⟨h1, _⟩ | ⟨_, j, v, rfl, hXj⟩
  · exact absurd (by simpa using h1) hne
  have hat : (K ++ X)[K.length + j]? = some ⟨v, true, 3, 1, l.reverse.map rI⟩ := by rw [at_app]; exact hXj
  have h103 := f103 (K ++ X) (K.length + j) v l.reverse hat (by simpa using hp0) (by simpa using hpl)
  have hbl := (List.getElem?_eq_some_iff.1 hat).1
  rw [List.reverse_reverse] at h103
  simp only [List.length_reverse] at h103
  simp only [List.length_map, List.length_reverse] at hT
  have hfz : ∃ ids, fz ((K ++ X).set (K.length + j) ⟨v, true, 3, 1, l.map rI⟩) fzDepth (.ref (K.length + j) v 1 0 l.length) = some (eIs l, ids) ∧ ∀ x ∈ ids, x = K.length + j :=
    fz_blk (k := ⟨v, true, 3, 1, l.map rI⟩) (by simp only [curBlk, List.getElem?_set_self hbl]; rfl) (rows := l.map rI) (by show (l.map rI).take l.length = _; rw [List.take_of_length_le (by simp)]) (fun r hr a ha => by
      obtain ⟨x, _, rfl⟩ := List.mem_map.1 hr
      simp only [rI, List.mem_cons, List.not_mem_nil, or_false] at ha
      subst ha; exact ⟨rfl, fun _ _ => rfl⟩) 6
  obtain ⟨ids, g1, g2⟩ := hfz
  have ht : ((K ++ X).set (K.length + j) ⟨v, true, 3, 1, l.map rI⟩).take H.length = H := by rw [List.take_set_of_le (by omega)]; exact kt X
  generalize (K ++ X).set (K.length + j) ⟨v, true, 3, 1, l.map rI⟩ = Z at *
  simp only [hT, h103, evX, Int.reduceEq, Int.reduceLT, Int.reduceLE, Nat.reduceMul, Nat.reduceMod, evW, fn_eq, evR, Nat.reduceAdd, Nat.reduceLT, Nat.reduceLeDiff, reduceIte, Nat.reduceEqDiff, reduceCtorEq, argEnv, eq_self, if_true, if_false]
  repeat' ((first | rw [guardK_cases] | rw [condK_bool] | rw [guardD_cases]); split <;> simp only [hT, h103, evX, Int.reduceEq, Int.reduceLT, Int.reduceLE, Nat.reduceMul, Nat.reduceMod, evW, evR, Nat.reduceAdd, Nat.reduceLT, Nat.reduceLeDiff, reduceIte, Nat.reduceEqDiff, reduceCtorEq, argEnv, eq_self, if_true, if_false, *])
  exact frz_one g1 rfl ht (fun k hk => by have := g2 k hk; omega)
theorem f57 (b : Base) (f : List Item) (hr : Right b f) (i : Nat) (hi : i < f.length) (H : Heap) : cal (evC cprog) true 57 [eBase b, eItems f, .int .i64 (i : Int)] H = some (eIs (pth b.types f i), H) := by
  rw [cal_of at57]
  have hfl := hr.len
  obtain ⟨K, hK⟩ : ∃ K : Heap, K = H ++ [bBase b] := ⟨_, rfl⟩
  have kl : K.length = H.length + 1 := by rw [hK]; simp
  have kt : ∀ Z, (K ++ Z).take H.length = H := fun Z => by rw [hK]; simp
  have kb : ∀ Z, (K ++ Z)[H.length]? = some (bBase b) := fun Z => by rw [hK]; simp
  have L := fun (st : St) (hE : keepEnv st.1 [1, 2, 3, 7] = [(1, eItems f), (2, .int .i64 (i : Int)), (3, .ptr H.length 0 4 0 0), (7, .nils)]) (hH : st.2 = K) (z : Option (CX × St)) (hz : itLim (evCode (evC cprog) itLim c57_l0) st = z) =>
    loop_rule (σ := Int × List Int × Heap × AV) (m := [1, 2, 3, 7]) (env := fun s => [(1, eItems f), (2, .int .i64 s.1), (3, .ptr H.length 0 4 0 0), (7, s.2.2.2)]) (hp := fun s => K ++ s.2.2.1)
    (P := fun _ r => ∃ T X rv, r = (.exit 0, T, K ++ X) ∧ keepEnv T [7] = [(7, rv)] ∧ Out K.length 1 3 X rv ((pth b.types f i).map rI))
    (mu := fun s => (s.1 + 1).toNat) (I := fun s => Walks b f i s.1 s.2.1 ∧ Out K.length 1 3 s.2.2.1 s.2.2.2 (s.2.1.map rI)) (evCode (evC cprog) itLim c57_l0) (by
      intro ⟨c, acc, X, rv⟩ ⟨w, hO⟩ E hE
      simp only at w hO hE ⊢
      have h1 := w.lo
      have h2 := w.hi
      have h3 := w.len
      by_cases hc : 0 ≤ c
      · obtain ⟨c, rfl⟩ : ∃ k : Nat, c = (k : Int) := ⟨c.toNat, by omega⟩
        have h82 := fun H => f82r b f hr c (by omega) H
        have w2 := w.step
        have hnew : Out K.length 1 3 (X ++ [⟨0, true, 3, 1, [[.int .i64 (c : Int)]]⟩]) (.ref (K.length + X.length) 0 1 0 1) [[.int .i64 (c : Int)]] := .inr ⟨by simp, X.length, 0, rfl, by simp⟩
        obtain ⟨rv1, X1, a1, t1, O1⟩ := hnew.app K rfl 8 rv (acc.map rI) (out_src_more hO K rfl _) (rI_rows acc) (by simp [reach]; omega)
        have hra : [[AV.int .i64 (c : Int)]] ++ acc.map rI = ((c : Int) :: acc).map rI := by simp [rI]
        rw [hra] at O1
        simp only [bBase] at kb
        simp only [eBase] at h82
        have hpl := par_lt b.types f c
        simp only [c57_l0, hE, hc, kb, h82, a1, t1, evX, Int.reduceEq, Int.reduceLT, Int.reduceLE, Nat.reduceMul, Nat.reduceMod, evW, fn_eq, evR, Nat.reduceAdd, Nat.reduceLT, Nat.reduceLeDiff, reduceIte, Nat.reduceEqDiff, reduceCtorEq, argEnv, eq_self, if_true, if_false]
        repeat' ((first | rw [guardK_cases] | rw [condK_bool] | rw [guardD_cases]); split <;> simp only [c57_l0, hE, hc, kb, h82, a1, t1, evX, Int.reduceEq, Int.reduceLT, Int.reduceLE, Nat.reduceMul, Nat.reduceMod, evW, evR, Nat.reduceAdd, Nat.reduceLT, Nat.reduceLeDiff, reduceIte, Nat.reduceEqDiff, reduceCtorEq, argEnv, eq_self, if_true, if_false, *])
        exact q_next (par b.types f c, (c : Int) :: acc, X1, rv1) (by rfl) rfl ⟨w2, O1⟩ (by simp only; omega) fun r h => h
      · simp only [c57_l0, hE, hc, evX, Int.reduceEq, Int.reduceLT, Int.reduceLE, Nat.reduceMul, Nat.reduceMod, evW, fn_eq, evR, Nat.reduceAdd, Nat.reduceLT, Nat.reduceLeDiff, reduceIte, Nat.reduceEqDiff, reduceCtorEq, argEnv, eq_self, if_true, if_false]
        repeat' ((first | rw [guardK_cases] | rw [condK_bool] | rw [guardD_cases]); split <;> simp only [c57_l0, hE, hc, evX, Int.reduceEq, Int.reduceLT, Int.reduceLE, Nat.reduceMul, Nat.reduceMod, evW, evR, Nat.reduceAdd, Nat.reduceLT, Nat.reduceLeDiff, reduceIte, Nat.reduceEqDiff, reduceCtorEq, argEnv, eq_self, if_true, if_false, *])
        rw [w.last (by omega)] at hO
        exact q_exit ⟨_, X, rv, rfl, by rfl, hO⟩) ((i : Int), [], [], .nils) st ⟨⟨by omega, by omega, by rw [pthI_nat, List.append_nil], by simp; omega⟩, .nils ..⟩ hE (by simpa using hH) z hz
  simp only [c57, eBase, evX, Int.reduceEq, Int.reduceLT, Int.reduceLE, Nat.reduceMul, Nat.reduceMod, evW, fn_eq, evR, Nat.reduceAdd, Nat.reduceLT, Nat.reduceLeDiff, reduceIte, Nat.reduceEqDiff, reduceCtorEq, argEnv, eq_self, if_true, if_false]
  repeat' ((first | rw [guardK_cases] | rw [condK_bool] | rw [guardD_cases]); split <;> simp only [c57, eBase, evX, Int.reduceEq, Int.reduceLT, Int.reduceLE, Nat.reduceMul, Nat.reduceMod, evW, evR, Nat.reduceAdd, Nat.reduceLT, Nat.reduceLeDiff, reduceIte, Nat.reduceEqDiff, reduceCtorEq, argEnv, eq_self, if_true, if_false, *])
  generalize hz : itLim _ _ = z
  obtain ⟨_, rfl, T, X, rv, rfl, hT, hO⟩ := L _ (by rfl) (by rw [hK]; rfl) z hz
  clear hz L
  obtain ⟨ids, g1, g2, g3⟩ := fz_out' hO K rfl (plain_ints _)
  have ht := kt X
  have hsc := out_tup hO
  generalize K ++ X = Z at *
  simp only [hT, hsc, evX, Int.reduceEq, Int.reduceLT, Int.reduceLE, Nat.reduceMul, Nat.reduceMod, evW, fn_eq, evR, Nat.reduceAdd, Nat.reduceLT, Nat.reduceLeDiff, reduceIte, Nat.reduceEqDiff, reduceCtorEq, argEnv, eq_self, if_true, if_false]
  repeat' ((first | rw [guardK_cases] | rw [condK_bool] | rw [guardD_cases]); split <;> simp only [hT, hsc, evX, Int.reduceEq, Int.reduceLT, Int.reduceLE, Nat.reduceMul, Nat.reduceMod, evW, evR, Nat.reduceAdd, Nat.reduceLT, Nat.reduceLeDiff, reduceIte, Nat.reduceEqDiff, reduceCtorEq, argEnv, eq_self, if_true, if_false, *])
  exact frz_one g1 g3 ht (fun k hk => by have := g2 k hk; omega)
end Go.Proofs.Ytbchmbddcdionaa.Code

/- logic: the data of an item with those of its logical parent; the roots across. -/
set_option linter.unusedSimpArgs false
set_option linter.unusedVariables false
namespace Go.Proofs.Ytbchmbddcdionaa.Code
open Go.Proofs.Ytbchmbddcdionaa.Ev

theorem f56 (n : Int) (H : Heap) (a : AV) (l : List Int) (ha : SlAt H 1 a (l.map rI)) (hl : l.length < 9223372036854775807) : cal (evC cprog) false 56 [a, .int .i64 n] H = some (.bool (decide (n ∈ l)), H) := by
  rw [cal_of at56]
  have h81 := f81 n H a l ha hl
  have hm : (0 ≤ idxOf (fun x => decide (n = x)) l) = (n ∈ l) := by
    have h := idxOf_nonneg (fun x => decide (n = x)) l
    apply propext
    refine ⟨fun h0 => ?_, fun hm => ?_⟩
    · rw [decide_eq_true h0] at h
      obtain ⟨y, hy, e⟩ := List.any_eq_true.1 h.symm
      rw [of_decide_eq_true e]; exact hy
    · have : (l.any fun x => decide (n = x)) = true := List.any_eq_true.2 ⟨n, hm, by simp⟩
      rw [this] at h
      exact of_decide_eq_true h
  simp only [c56, h81, hm, evX, Int.reduceEq, Int.reduceLT, Int.reduceLE, Nat.reduceMul, Nat.reduceMod, evW, fn_eq, evR, Nat.reduceAdd, Nat.reduceLT, Nat.reduceLeDiff, reduceIte, Nat.reduceEqDiff, reduceCtorEq, argEnv, eq_self, if_true, if_false]
  repeat' ((first | rw [guardK_cases] | rw [condK_bool] | rw [guardD_cases]); split <;> simp only [c56, h81, hm, evX, Int.reduceEq, Int.reduceLT, Int.reduceLE, Nat.reduceMul, Nat.reduceMod, evW, evR, Nat.reduceAdd, Nat.reduceLT, Nat.reduceLeDiff, reduceIte, Nat.reduceEqDiff, reduceCtorEq, argEnv, eq_self, if_true, if_false, *])
theorem f55 (b : Base) (f : List Item) (hr : Right b f) (i : Nat) (hi : i < f.length) (H : Heap) : cal (evC cprog) true 55 [eBase b, eItems f, .int .i64 (i : Int)] H = some (.tup [eIs (pth b.types f i), .int .i64 0], H) := by
  rw [cal_of at55]
  have h80 := fun H => f80 b f hr i hi H
  have hs : SlAt (H ++ [bBase b, ⟨0, true, 3, 1, [[.int .i64 (i : Int)]]⟩]) 1 (.ref (H.length + 1) 0 1 0 1) (([(i : Int)] : List Int).map rI) :=
    SlAt.ref (b := H.length + 1) (v := 0) (sz := 1) (off := 0) (rows := ([(i : Int)] : List Int).map rI) (k := ⟨0, true, 3, 1, [[.int .i64 (i : Int)]]⟩) (by simp [curBlk]) fun j row hj => by
      cases j with
      | zero => cases hj; exact ⟨rfl, rfl⟩
      | succ j => cases hj
  have h61 := f61 b hr.base f (.ref (H.length + 1) 0 1 0 1) rfl [(i : Int)] (by simp) _ hs
  have he : errF b f [(i : Int)] = 0 := by
    unfold errF
    rw [if_pos hr.valid, if_pos hr.forest, if_neg]
    simp only [List.any_cons, List.any_nil, Bool.or_false, outOf]
    simp
    omega
  rw [he] at h61
  simp only [eBase, bBase] at h80 h61
  simp only [c55, eBase, h61, h80, evX, Int.reduceEq, Int.reduceLT, Int.reduceLE, Nat.reduceMul, Nat.reduceMod, evW, fn_eq, evR, Nat.reduceAdd, Nat.reduceLT, Nat.reduceLeDiff, reduceIte, Nat.reduceEqDiff, reduceCtorEq, argEnv, eq_self, if_true, if_false]
  repeat' ((first | rw [guardK_cases] | rw [condK_bool] | rw [guardD_cases]); split <;> simp only [c55, eBase, h61, h80, evX, Int.reduceEq, Int.reduceLT, Int.reduceLE, Nat.reduceMul, Nat.reduceMod, evW, evR, Nat.reduceAdd, Nat.reduceLT, Nat.reduceLeDiff, reduceIte, Nat.reduceEqDiff, reduceCtorEq, argEnv, eq_self, if_true, if_false, *])
  exact frz_two (ids := []) rfl rfl (by simp) (by simp) _ _
noncomputable def joinS (x : Pr) (i : Int) : ByteArray := if parE x i = 0 then dat x.f i ++ dat x.g (parR x i) else ⟨#[]⟩
theorem dat_size {b : Base} {f : List Item} (h : Right b f) {i : Nat} {x : Item} (hx : f[i]? = some x) : x.data.size ≤ 1000000 := by
  obtain ⟨y, k, t, h1, _, _, _, h5, _, h7⟩ := h.item (List.getElem?_eq_some_iff.1 hx).1
  rw [hx] at h1; cases h1
  simp only [tyOk, sizeOk, Bool.and_eq_true, decide_eq_true_eq] at h5
  omega
theorem join_at {x : Pr} (h : x.Raw) {i : Int} (he : parE x i = 0) : ∃ (j k : Nat) (u w : Item), i = (j : Int) ∧ parR x i = (k : Int) ∧ x.f[j]? = some u ∧ x.g[k]? = some w ∧ joinS x i = u.data ++ w.data ∧ u.data.size + w.data.size ≤ 9223372036854775807 := by
  have he0 := he
  unfold parE at he
  split at he
  case isFalse h0 => exact absurd he h0
  rename_i h0
  split at he
  case isFalse => cases he
  rename_i hc
  split at he
  · cases he
  rename_i hn
  obtain ⟨j, u, rfl, hu, ht⟩ := isCh_is hc
  rw [dat_at hu] at hn
  have hk := ask_ok h h0
  rcases idxOf_cases (isRoot x.b (kOf x u.data)) x.g with ⟨h1, _⟩ | ⟨m, w, h1, h2, _⟩
  · exfalso
    apply hn
    show idxOf (isRoot x.b (kOf x u.data)) x.g < 0
    rw [h1]; omega
  · have hp : parR x (j : Int) = (m : Int) := by
      unfold parR
      rw [if_pos he0, dat_at hu]
      exact h1
    refine ⟨j, m, u, w, rfl, hp, hu, h2, ?_, ?_⟩
    · unfold joinS
      rw [if_pos he0, hp, dat_at hu, dat_at h2]
    · have := dat_size hk.1.rf hu
      have := dat_size hk.1.rg h2
      omega
theorem f28 (x : Pr) (h : x.Raw) (i : Int) (H : Heap) : cal (evC cprog) false 28 [eBase x.a, eBase x.b, eLink x.l, eItems x.f, eItems x.g, .int .i64 i] H = some (.tup [.str (joinS x i), .int .i64 (parE x i)], H) := by
  rw [cal_of at28]
  have h20 := f20 x h i
  simp only [eBase, eLink] at h20
  by_cases he : parE x i = 0
  · obtain ⟨j, k, u, w, rfl, hp, hu, hw, hj, hs⟩ := join_at h he
    have hadd : binK .add (some (.str u.data)) (some (.str w.data)) = some (.str (u.data ++ w.data)) := by
      simp only [binK, evBin, evStr]; rw [if_pos hs]
    have ha := aItem hu
    have hb := aItem hw
    rw [hj, he]
    rw [he, hp] at h20
    simp only [c28, eBase, eLink, h20, ha, hb, rItem, hadd, evX, Int.reduceEq, Int.reduceLT, Int.reduceLE, Nat.reduceMul, Nat.reduceMod, evW, fn_eq, evR, Nat.reduceAdd, Nat.reduceLT, Nat.reduceLeDiff, reduceIte, Nat.reduceEqDiff, reduceCtorEq, argEnv, eq_self, if_true, if_false]
    repeat' ((first | rw [guardK_cases] | rw [condK_bool] | rw [guardD_cases]); split <;> simp only [c28, eBase, eLink, h20, ha, hb, rItem, hadd, evX, Int.reduceEq, Int.reduceLT, Int.reduceLE, Nat.reduceMul, Nat.reduceMod, evW, evR, Nat.reduceAdd, Nat.reduceLT, Nat.reduceLeDiff, reduceIte, Nat.reduceEqDiff, reduceCtorEq, argEnv, eq_self, if_true, if_false, *])
  · rw [show joinS x i = ⟨#[]⟩ from if_neg he]
    simp only [c28, eBase, eLink, h20, he, evX, Int.reduceEq, Int.reduceLT, Int.reduceLE, Nat.reduceMul, Nat.reduceMod, evW, fn_eq, evR, Nat.reduceAdd, Nat.reduceLT, Nat.reduceLeDiff, reduceIte, Nat.reduceEqDiff, reduceCtorEq, argEnv, eq_self, if_true, if_false]
    repeat' ((first | rw [guardK_cases] | rw [condK_bool] | rw [guardD_cases]); split <;> simp only [c28, eBase, eLink, h20, he, evX, Int.reduceEq, Int.reduceLT, Int.reduceLE, Nat.reduceMul, Nat.reduceMod, evW, evR, Nat.reduceAdd, Nat.reduceLT, Nat.reduceLeDiff, reduceIte, Nat.reduceEqDiff, reduceCtorEq, argEnv, eq_self, if_true, if_false, *])
theorem f29 (x : Pr) (h : x.Raw) (i : Int) (H : Heap) : cal (evC cprog) false 29 [eBase x.a, eBase x.b, eLink x.l, eItems x.f, eItems x.g, .int .i64 i] H = some (.tup [.str (joinS x i), .int .i64 (parE x i)], H) := by
  rw [cal_of at29]
  have h22 := f22 x h i
  simp only [eBase, eLink] at h22
  by_cases he : parE x i = 0
  · obtain ⟨j, k, u, w, rfl, hp, hu, hw, hj, hs⟩ := join_at h he
    have hadd : binK .add (some (.str u.data)) (some (.str w.data)) = some (.str (u.data ++ w.data)) := by
      simp only [binK, evBin, evStr]; rw [if_pos hs]
    have ha := aItem hu
    have hb := aItem hw
    rw [hj, he]
    rw [he, hp] at h22
    simp only [c29, eBase, eLink, h22, ha, hb, rItem, hadd, evX, Int.reduceEq, Int.reduceLT, Int.reduceLE, Nat.reduceMul, Nat.reduceMod, evW, fn_eq, evR, Nat.reduceAdd, Nat.reduceLT, Nat.reduceLeDiff, reduceIte, Nat.reduceEqDiff, reduceCtorEq, argEnv, eq_self, if_true, if_false]
    repeat' ((first | rw [guardK_cases] | rw [condK_bool] | rw [guardD_cases]); split <;> simp only [c29, eBase, eLink, h22, ha, hb, rItem, hadd, evX, Int.reduceEq, Int.reduceLT, Int.reduceLE, Nat.reduceMul, Nat.reduceMod, evW, evR, Nat.reduceAdd, Nat.reduceLT, Nat.reduceLeDiff, reduceIte, Nat.reduceEqDiff, reduceCtorEq, argEnv, eq_self, if_true, if_false, *])
  · rw [show joinS x i = ⟨#[]⟩ from if_neg he]
    simp only [c29, eBase, eLink, h22, he, evX, Int.reduceEq, Int.reduceLT, Int.reduceLE, Nat.reduceMul, Nat.reduceMod, evW, fn_eq, evR, Nat.reduceAdd, Nat.reduceLT, Nat.reduceLeDiff, reduceIte, Nat.reduceEqDiff, reduceCtorEq, argEnv, eq_self, if_true, if_false]
    repeat' ((first | rw [guardK_cases] | rw [condK_bool] | rw [guardD_cases]); split <;> simp only [c29, eBase, eLink, h22, he, evX, Int.reduceEq, Int.reduceLT, Int.reduceLE, Nat.reduceMul, Nat.reduceMod, evW, evR, Nat.reduceAdd, Nat.reduceLT, Nat.reduceLeDiff, reduceIte, Nat.reduceEqDiff, reduceCtorEq, argEnv, eq_self, if_true, if_false, *])
end Go.Proofs.Ytbchmbddcdionaa.Code

/- logic: the roots across, of the program and of the document. -/
set_option linter.unusedSimpArgs false
set_option linter.unusedVariables false
namespace Go.Proofs.Ytbchmbddcdionaa.Code
open Go.Proofs.Ytbchmbddcdionaa.Ev

/-- the root above an item -/
def rt (b : Base) (f : List Item) (k : Int) : Int := (pth b.types f k.toNat).head?.getD 0
theorem rt_at {b : Base} {f : List Item} (k : Nat) : (pth b.types f k)[0]? = some (rt b f (k : Int)) := by
  unfold rt
  rw [Int.toNat_natCast]
  cases h : pth b.types f k with
  | nil => have := pth_self b.types f k; rw [h] at this; cases this
  | cons a l => rfl
theorem rt_mem {b : Base} {f : List Item} (k : Nat) : rt b f (k : Int) ∈ pth b.types f k := List.mem_of_getElem? (rt_at k)
theorem rt_least {b : Base} {f : List Item} : ∀ (n k : Nat), k ≤ n → k < f.length → ∀ a ∈ pth b.types f k, rt b f (k : Int) ≤ a := by
  intro n
  induction n with
  | zero =>
    intro k hk hkl a ha
    have h1 := (pth_bound ha).1
    have h2 := (pth_bound (rt_mem (b := b) (f := f) k)).2
    omega
  | succ n ih =>
    intro k hk hkl a ha
    have hp := par_lt b.types f k
    have e := pth_eq b.types f hkl
    by_cases h0 : par b.types f k < 0
    · rw [pthI_neg _ _ h0, List.nil_append] at e
      have h1 := rt_at (b := b) (f := f) k
      rw [e] at h1 ha
      simp at h1 ha
      omega
    · obtain ⟨q, hq⟩ : ∃ q : Nat, par b.types f k = (q : Int) := ⟨(par b.types f k).toNat, by omega⟩
      rw [hq, pthI_nat] at e
      have h1 := rt_at (b := b) (f := f) k
      have h2 := rt_at (b := b) (f := f) q
      have hne : 0 < (pth b.types f q).length := (List.getElem?_eq_some_iff.1 h2).1
      rw [e, List.getElem?_append_left hne, h2] at h1
      have h3 : rt b f (q : Int) = rt b f (k : Int) := by simpa using h1
      rw [e] at ha
      rcases List.mem_append.1 ha with ha | ha
      · have := ih q (by omega) (by omega) a ha
        omega
      · simp at ha
        have := (pth_bound (rt_mem (b := b) (f := f) q)).2
        omega
theorem rt_mono {b : Base} {f : List Item} (hr : Right b f) {k k' : Nat} (h : k ≤ k') (hk : k' < f.length) : rt b f (k : Int) ≤ rt b f (k' : Int) := by
  have h1 := pth_bound (rt_mem (b := b) (f := f) k)
  by_cases hc : rt b f (k' : Int) ≤ (k : Int)
  · have := way_between (Nat.le_refl _) hr.ok k' hk (rt b f (k' : Int)) (rt_mem k') k hc h
    exact rt_least k k (Nat.le_refl _) (by omega) _ this
  · omega
def pushC (out : List Int) (r : Int) : List Int := if r ∈ out then out else out ++ [r]
def pushL (out : List Int) (r : Int) : List Int := if out.getLast? = some r then out else out ++ [r]
theorem push_same : ∀ (rs out : List Int), out.Pairwise (· ≤ ·) → rs.Pairwise (· ≤ ·) → (∀ o ∈ out, ∀ r ∈ rs, o ≤ r) → rs.foldl pushC out = rs.foldl pushL out
  | [], out, _, _, _ => rfl
  | r :: rs, out, h1, h2, h3 => by
    rw [List.pairwise_cons] at h2
    have hiff : r ∈ out ↔ out.getLast? = some r := by
      constructor
      · intro hm
        cases hl : out.getLast? with
        | none => rw [List.getLast?_eq_none_iff] at hl; rw [hl] at hm; cases hm
        | some m =>
          obtain ⟨A, rfl⟩ := List.getLast?_eq_some_iff.1 hl
          have hmr : m ≤ r := h3 m (by simp) r (List.mem_cons_self ..)
          rcases List.mem_append.1 hm with hm | hm
          · have := (List.pairwise_append.1 h1).2.2 r hm m (by simp)
            congr 1; omega
          · simp at hm; rw [hm]
      · intro hl; exact List.mem_of_getLast? hl
    have e : pushC out r = pushL out r := by
      unfold pushC pushL
      by_cases hc : r ∈ out
      · rw [if_pos hc, if_pos (hiff.1 hc)]
      · rw [if_neg hc, if_neg fun h => hc (hiff.2 h)]
    rw [List.foldl_cons, List.foldl_cons, e]
    refine push_same rs _ ?_ h2.2 ?_
    · unfold pushL
      split
      · exact h1
      · rw [List.pairwise_append]
        exact ⟨h1, by simp, fun o ho y hy => by simp at hy; subst hy; exact h3 o ho _ (List.mem_cons_self ..)⟩
    · intro o ho y hy
      unfold pushL at ho
      split at ho
      · exact h3 o ho y (List.mem_cons_of_mem _ hy)
      · rcases List.mem_append.1 ho with ho | ho
        · exact h3 o ho y (List.mem_cons_of_mem _ hy)
        · simp at ho; subst ho; exact h2.1 y hy
theorem gath_rise {α : Type} (p : Nat → α → Bool) : ∀ (l : List α) (k : Nat), (gath (fun i y => if p i y = true then [(i : Int)] else []) k l).Pairwise (· ≤ ·) ∧ ∀ a ∈ gath (fun i y => if p i y = true then [(i : Int)] else []) k l, (k : Int) ≤ a
  | [], k => by simp [gath]
  | y :: l, k => by
    obtain ⟨h1, h2⟩ := gath_rise p l (k + 1)
    rw [gath]
    refine ⟨List.pairwise_append.2 ⟨by split <;> simp, h1, fun a ha c hc => ?_⟩, fun a ha => ?_⟩
    · have := h2 c hc
      split at ha
      · simp at ha; omega
      · cases ha
    · rcases List.mem_append.1 ha with ha | ha
      · split at ha
        · simp at ha; omega
        · cases ha
      · have := h2 a ha; omega
theorem kids_rise (x : Pr) (key : ByteArray) : (kids x key).Pairwise (· ≤ ·) := (gath_rise (fun _ y => isKid x key y) x.f 0).1
theorem kids_in (x : Pr) (key : ByteArray) {k : Int} (h : k ∈ kids x key) : ∃ j : Nat, k = (j : Int) ∧ j < x.f.length := by
  obtain ⟨i, y, hy, h⟩ := mem_gath.1 h
  split at h
  · simp at h
    exact ⟨i, h, (List.getElem?_eq_some_iff.1 hy).1⟩
  · cases h
def crC (x : Pr) (ks : List Int) : List Int := (ks.map (rt x.a x.f)).foldl pushC []
def crL (x : Pr) (ks : List Int) : List Int := (ks.map (rt x.a x.f)).foldl pushL []
theorem cr_same {x : Pr} (h : Right x.a x.f) (key : ByteArray) : crC x (kids x key) = crL x (kids x key) := by
  refine push_same _ [] List.Pairwise.nil ?_ (by simp)
  rw [List.pairwise_map]
  refine (List.pairwise_iff_getElem.2 fun i j hi hj hij => ?_)
  have hr := List.pairwise_iff_getElem.1 (kids_rise x key) i j hi hj hij
  obtain ⟨a, ha, hal⟩ := kids_in x key (List.getElem_mem hi)
  obtain ⟨c, hc, hcl⟩ := kids_in x key (List.getElem_mem hj)
  rw [ha, hc] at hr ⊢
  exact rt_mono h (by omega) hcl
theorem crC_take (x : Pr) {ks : List Int} {i : Nat} {k : Int} (hk : ks[i]? = some k) : crC x (ks.take (i + 1)) = pushC (crC x (ks.take i)) (rt x.a x.f k) := by
  unfold crC
  rw [List.take_add_one, hk, Option.toList_some, List.map_append, List.foldl_append]; rfl
theorem crL_take (x : Pr) {ks : List Int} {i : Nat} {k : Int} (hk : ks[i]? = some k) : crL x (ks.take (i + 1)) = pushL (crL x (ks.take i)) (rt x.a x.f k) := by
  unfold crL
  rw [List.take_add_one, hk, Option.toList_some, List.map_append, List.foldl_append]; rfl
theorem crC_len (x : Pr) (ks : List Int) : (crC x ks).length ≤ ks.length := by
  have key : ∀ (rs out : List Int), (rs.foldl pushC out).length ≤ out.length + rs.length := by
    intro rs
    induction rs with
    | nil => intro out; simp
    | cons r rs ih =>
      intro out
      have := ih (pushC out r)
      have h2 : (pushC out r).length ≤ out.length + 1 := by unfold pushC; split <;> simp
      simp only [List.foldl_cons, List.length_cons]; omega
  have := key (ks.map (rt x.a x.f)) []
  simpa [crC] using this
theorem crL_len (x : Pr) (ks : List Int) : (crL x ks).length ≤ ks.length := by
  have key : ∀ (rs out : List Int), (rs.foldl pushL out).length ≤ out.length + rs.length := by
    intro rs
    induction rs with
    | nil => intro out; simp
    | cons r rs ih =>
      intro out
      have := ih (pushL out r)
      have h2 : (pushL out r).length ≤ out.length + 1 := by unfold pushL; split <;> simp
      simp only [List.foldl_cons, List.length_cons]; omega
  have := key (ks.map (rt x.a x.f)) []
  simpa [crL] using this
/-- one number more -/
theorem out_one {K X : Heap} {rv : AV} {l : List Int} (hO : Out K.length 1 3 X rv (l.map rI)) (hl : l.length ≤ 1000) (r : Int) : ∃ rv1 X1, appK 3 1 8 false (K ++ (X ++ [⟨0, true, 3, 1, [[.int .i64 r]]⟩])) (some rv) (some (.ref (K.length + X.length) 0 1 0 1)) = some (rv1, K ++ X1) ∧ rv1.isTup = false ∧ Out K.length 1 3 X1 rv1 ((l ++ [r]).map rI) := by
  obtain ⟨rv1, X1, a1, t1, O1⟩ := (hO.more [⟨0, true, 3, 1, [[.int .i64 r]]⟩]).app K rfl 8 (.ref (K.length + X.length) 0 1 0 1) [rI r] (by simp [srcRows, rowsOf, curBlk, ← List.append_assoc, rI]) (by simp [rI]) (by simp [reach]; omega)
  exact ⟨rv1, X1, a1, t1, by simpa using O1⟩
theorem l30 (x : Pr) (h : Right x.a x.f) (ks : List Int) (hks : ∀ k ∈ ks, ∃ j : Nat, k = (j : Int) ∧ j < x.f.length) (hkl : ks.length ≤ 1000) (K : Heap) (n : Nat) (hn : ∀ Z, (K ++ Z)[n]? = some (bBase x.a)) (st : St)
    (hE : keepEnv st.1 [3, 6, 16, 37, 38, 39] = [(3, eItems x.f), (6, .ptr n 0 4 0 0), (16, .nils), (37, eIs ks), (38, .int .i64 (ks.length : Int)), (39, .int .i64 0)]) (hH : st.2 = K) (z : Option (CX × St)) (hz : itLim (evCode (evC cprog) itLim c30_l0) st = z) :
    ∃ T X rv, z = some (.exit 0, T, K ++ X) ∧ keepEnv T [16] = [(16, rv)] ∧ Out K.length 1 3 X rv ((crC x ks).map rI) := by
  have L := loop_rule (σ := Nat × Heap × AV) (m := [3, 6, 16, 37, 38, 39]) (env := fun s => [(3, eItems x.f), (6, .ptr n 0 4 0 0), (16, s.2.2), (37, eIs ks), (38, .int .i64 (ks.length : Int)), (39, .int .i64 (s.1 : Int))]) (hp := fun s => K ++ s.2.1)
    (P := fun _ r => ∃ T X rv, r = (.exit 0, T, K ++ X) ∧ keepEnv T [16] = [(16, rv)] ∧ Out K.length 1 3 X rv ((crC x ks).map rI))
    (mu := fun s => ks.length - s.1) (I := fun s => s.1 ≤ ks.length ∧ Out K.length 1 3 s.2.1 s.2.2 ((crC x (ks.take s.1)).map rI)) (evCode (evC cprog) itLim c30_l0) ?_ (0, [], .nils) st ⟨Nat.zero_le _, .nils ..⟩ hE (by simpa using hH) z hz
  · obtain ⟨_, rfl, T, X, rv, rfl, h⟩ := L
    exact ⟨T, X, rv, rfl, h⟩
  · intro ⟨i, X, rv⟩ ⟨hi, hO⟩ E hE
    simp only at hi hO hE ⊢
    by_cases hlt : i < ks.length
    · obtain ⟨k, hk⟩ : ∃ k, ks[i]? = some k := ⟨_, List.getElem?_eq_getElem hlt⟩
      obtain ⟨j, rfl, hj⟩ := hks k (List.mem_of_getElem? hk)
      have hii : (i : Int) < (ks.length : Int) := by omega
      have ha := aI hk
      have hws := wrapS hlt (by omega)
      have h55 := fun H => f55 x.a x.f h j hj H
      have ha0 : iaddrK 1 (some (eIs (pth x.a.types x.f j))) (some (.int .i64 0)) = some (.fptr (rI (rt x.a x.f (j : Int)))) := aI (rt_at j)
      have hst := crC_take x hk
      have hcl := crC_len x (ks.take i)
      rw [List.length_take] at hcl
      generalize rt x.a x.f (j : Int) = r at *
      generalize crC x (ks.take i) = out at *
      have h56 := f56 r (K ++ X) rv out (out_slat hO K rfl (rI_rows _)) (by omega)
      obtain ⟨rv1, X1, a1, t1, O1⟩ := out_one hO (by omega) r
      simp only [eBase] at h55
      simp only [bBase] at hn
      unfold pushC at hst
      have hkl := fun (H : Heap) (a : AV) => (rfl : loadK false 1 H (some (.fptr [a])) = some a)
      by_cases hm : r ∈ out
      · rw [if_pos hm] at hst
        rw [decide_eq_true hm] at h56
        simp only [c30_l0, hE, hii, ha, rI, hn, h55, ha0, hkl, h56, hws, evX, Int.reduceEq, Int.reduceLT, Int.reduceLE, Nat.reduceMul, Nat.reduceMod, evW, fn_eq, evR, Nat.reduceAdd, Nat.reduceLT, Nat.reduceLeDiff, reduceIte, Nat.reduceEqDiff, reduceCtorEq, argEnv, eq_self, if_true, if_false]
        repeat' ((first | rw [guardK_cases] | rw [condK_bool] | rw [guardD_cases]); split <;> simp only [c30_l0, hE, hii, ha, rI, hn, h55, ha0, hkl, h56, hws, evX, Int.reduceEq, Int.reduceLT, Int.reduceLE, Nat.reduceMul, Nat.reduceMod, evW, evR, Nat.reduceAdd, Nat.reduceLT, Nat.reduceLeDiff, reduceIte, Nat.reduceEqDiff, reduceCtorEq, argEnv, eq_self, if_true, if_false, *])
        exact q_next (i + 1, X, rv) (by rfl) rfl ⟨by omega, by simp only [hst]; exact hO⟩ (by simp only; omega) fun r h => h
      · rw [if_neg hm] at hst
        rw [decide_eq_false hm] at h56
        simp only [c30_l0, hE, hii, ha, rI, hn, h55, ha0, hkl, h56, a1, t1, hws, evX, Int.reduceEq, Int.reduceLT, Int.reduceLE, Nat.reduceMul, Nat.reduceMod, evW, fn_eq, evR, Nat.reduceAdd, Nat.reduceLT, Nat.reduceLeDiff, reduceIte, Nat.reduceEqDiff, reduceCtorEq, argEnv, eq_self, if_true, if_false]
        repeat' ((first | rw [guardK_cases] | rw [condK_bool] | rw [guardD_cases]); split <;> simp only [c30_l0, hE, hii, ha, rI, hn, h55, ha0, hkl, h56, a1, t1, hws, evX, Int.reduceEq, Int.reduceLT, Int.reduceLE, Nat.reduceMul, Nat.reduceMod, evW, evR, Nat.reduceAdd, Nat.reduceLT, Nat.reduceLeDiff, reduceIte, Nat.reduceEqDiff, reduceCtorEq, argEnv, eq_self, if_true, if_false, *])
        exact q_next (i + 1, X1, rv1) (by rfl) rfl ⟨by omega, by simp only [hst]; exact O1⟩ (by simp only; omega) fun r h => h
    · have hii : ¬ (i : Int) < (ks.length : Int) := by omega
      rw [List.take_of_length_le (by omega)] at hO
      simp only [c30_l0, hE, hii, evX, Int.reduceEq, Int.reduceLT, Int.reduceLE, Nat.reduceMul, Nat.reduceMod, evW, fn_eq, evR, Nat.reduceAdd, Nat.reduceLT, Nat.reduceLeDiff, reduceIte, Nat.reduceEqDiff, reduceCtorEq, argEnv, eq_self, if_true, if_false]
      repeat' ((first | rw [guardK_cases] | rw [condK_bool] | rw [guardD_cases]); split <;> simp only [c30_l0, hE, hii, evX, Int.reduceEq, Int.reduceLT, Int.reduceLE, Nat.reduceMul, Nat.reduceMod, evW, evR, Nat.reduceAdd, Nat.reduceLT, Nat.reduceLeDiff, reduceIte, Nat.reduceEqDiff, reduceCtorEq, argEnv, eq_self, if_true, if_false, *])
      exact q_exit ⟨_, X, rv, rfl, by rfl, hO⟩
theorem l31 (x : Pr) (h : Right x.a x.f) (ks : List Int) (hks : ∀ k ∈ ks, ∃ j : Nat, k = (j : Int) ∧ j < x.f.length) (hkl : ks.length ≤ 1000) (K : Heap) (n : Nat) (hn : ∀ Z, (K ++ Z)[n]? = some (bBase x.a)) (st : St)
    (hE : keepEnv st.1 [3, 6, 14, 16, 17] = [(3, eItems x.f), (6, .ptr n 0 4 0 0), (14, eIs ks), (16, .nils), (17, .int .i64 0)]) (hH : st.2 = K) (z : Option (CX × St)) (hz : itLim (evCode (evC cprog) itLim c31_l0) st = z) :
    ∃ T X rv, z = some (.exit 0, T, K ++ X) ∧ keepEnv T [16] = [(16, rv)] ∧ Out K.length 1 3 X rv ((crL x ks).map rI) := by
  have hlen := (sIs [] ks).len
  simp only [List.length_map] at hlen
  have L := loop_rule (σ := Nat × Heap × AV) (m := [3, 6, 14, 16, 17]) (env := fun s => [(3, eItems x.f), (6, .ptr n 0 4 0 0), (14, eIs ks), (16, s.2.2), (17, .int .i64 (s.1 : Int))]) (hp := fun s => K ++ s.2.1)
    (P := fun _ r => ∃ T X rv, r = (.exit 0, T, K ++ X) ∧ keepEnv T [16] = [(16, rv)] ∧ Out K.length 1 3 X rv ((crL x ks).map rI))
    (mu := fun s => ks.length - s.1) (I := fun s => s.1 ≤ ks.length ∧ Out K.length 1 3 s.2.1 s.2.2 ((crL x (ks.take s.1)).map rI)) (evCode (evC cprog) itLim c31_l0) ?_ (0, [], .nils) st ⟨Nat.zero_le _, .nils ..⟩ hE (by simpa using hH) z hz
  · obtain ⟨_, rfl, T, X, rv, rfl, h⟩ := L
    exact ⟨T, X, rv, rfl, h⟩
  · intro ⟨i, X, rv⟩ ⟨hi, hO⟩ E hE
    simp only at hi hO hE ⊢
    by_cases hlt : i < ks.length
    · obtain ⟨k, hk⟩ : ∃ k, ks[i]? = some k := ⟨_, List.getElem?_eq_getElem hlt⟩
      obtain ⟨j, rfl, hj⟩ := hks k (List.mem_of_getElem? hk)
      have hii : (i : Int) < (ks.length : Int) := by omega
      have ha := aI hk
      have hws := wrapS hlt (by omega)
      have h57 := fun H => f57 x.a x.f h j hj H
      have ha0 : iaddrK 1 (some (eIs (pth x.a.types x.f j))) (some (.int .i64 0)) = some (.fptr (rI (rt x.a x.f (j : Int)))) := aI (rt_at j)
      have hst := crL_take x hk
      have hcl := crL_len x (ks.take i)
      rw [List.length_take] at hcl
      generalize rt x.a x.f (j : Int) = r at *
      generalize crL x (ks.take i) = out at *
      have hs := out_slat hO K rfl (rI_rows _)
      have hol := hs.len
      simp only [List.length_map] at hol
      obtain ⟨rv1, X1, a1, t1, O1⟩ := out_one hO (by omega) r
      simp only [eBase] at h57
      simp only [bBase] at hn
      have hld := fun (H : Heap) (a : AV) => (rfl : loadK false 1 H (some (.fptr [a])) = some a)
      unfold pushL at hst
      rcases List.eq_nil_or_concat out with h0 | ⟨A, m, hm⟩
      · have ho0 : (out.length : Int) = 0 := by rw [h0]; rfl
        rw [if_neg (by rw [h0]; simp)] at hst
        clear h0
        simp only [c31_l0, hE, hii, hlen, ha, rI, hn, h57, ha0, hld, hol, ho0, a1, t1, hws, evX, Int.reduceEq, Int.reduceLT, Int.reduceLE, Nat.reduceMul, Nat.reduceMod, evW, fn_eq, evR, Nat.reduceAdd, Nat.reduceLT, Nat.reduceLeDiff, reduceIte, Nat.reduceEqDiff, reduceCtorEq, argEnv, eq_self, if_true, if_false]
        repeat' ((first | rw [guardK_cases] | rw [condK_bool] | rw [guardD_cases]); split <;> simp only [c31_l0, hE, hii, hlen, ha, rI, hn, h57, ha0, hld, hol, ho0, a1, t1, hws, evX, Int.reduceEq, Int.reduceLT, Int.reduceLE, Nat.reduceMul, Nat.reduceMod, evW, evR, Nat.reduceAdd, Nat.reduceLT, Nat.reduceLeDiff, reduceIte, Nat.reduceEqDiff, reduceCtorEq, argEnv, eq_self, if_true, if_false, *])
        exact q_next (i + 1, X1, rv1) (by rfl) rfl ⟨by omega, by simp only [hst]; exact O1⟩ (by simp only; omega) fun r h => h
      · rw [List.concat_eq_append] at hm
        have hol2 : out.length = A.length + 1 := by rw [hm]; simp
        have ho0 : ¬ (out.length : Int) = 0 := by omega
        have hw1 : IntKind.i64.wrap ((out.length : Int) - 1) = (A.length : Int) := by rw [wrap_i64 (by omega) (by omega)]; omega
        obtain ⟨_, pp, hpp, hpa⟩ := hs.get A.length (rI m) (by rw [List.getElem?_map, hm]; simp)
        have c0 := hpa.one
        rw [show out.getLast? = some m by rw [hm]; simp] at hst
        clear hm hol2
        by_cases hmr : m = r
        · rw [if_pos (by rw [hmr])] at hst
          have hmr' : (m = r) = True := eq_true hmr
          clear hmr
          simp only [c31_l0, hE, hii, hlen, ha, rI, hn, h57, ha0, hld, hol, ho0, hw1, hpp, c0, hmr', hws, evX, Int.reduceEq, Int.reduceLT, Int.reduceLE, Nat.reduceMul, Nat.reduceMod, evW, fn_eq, evR, Nat.reduceAdd, Nat.reduceLT, Nat.reduceLeDiff, reduceIte, Nat.reduceEqDiff, reduceCtorEq, argEnv, eq_self, if_true, if_false]
          repeat' ((first | rw [guardK_cases] | rw [condK_bool] | rw [guardD_cases]); split <;> simp only [c31_l0, hE, hii, hlen, ha, rI, hn, h57, ha0, hld, hol, ho0, hw1, hpp, c0, hmr', hws, evX, Int.reduceEq, Int.reduceLT, Int.reduceLE, Nat.reduceMul, Nat.reduceMod, evW, evR, Nat.reduceAdd, Nat.reduceLT, Nat.reduceLeDiff, reduceIte, Nat.reduceEqDiff, reduceCtorEq, argEnv, eq_self, if_true, if_false, *])
          exact q_next (i + 1, X, rv) (by rfl) rfl ⟨by omega, by simp only [hst]; exact hO⟩ (by simp only; omega) fun r h => h
        · rw [if_neg (by intro e; cases e; exact hmr rfl)] at hst
          simp only [c31_l0, hE, hii, hlen, ha, rI, hn, h57, ha0, hld, hol, ho0, hw1, hpp, c0, hmr, a1, t1, hws, evX, Int.reduceEq, Int.reduceLT, Int.reduceLE, Nat.reduceMul, Nat.reduceMod, evW, fn_eq, evR, Nat.reduceAdd, Nat.reduceLT, Nat.reduceLeDiff, reduceIte, Nat.reduceEqDiff, reduceCtorEq, argEnv, eq_self, if_true, if_false]
          repeat' ((first | rw [guardK_cases] | rw [condK_bool] | rw [guardD_cases]); split <;> simp only [c31_l0, hE, hii, hlen, ha, rI, hn, h57, ha0, hld, hol, ho0, hw1, hpp, c0, hmr, a1, t1, hws, evX, Int.reduceEq, Int.reduceLT, Int.reduceLE, Nat.reduceMul, Nat.reduceMod, evW, evR, Nat.reduceAdd, Nat.reduceLT, Nat.reduceLeDiff, reduceIte, Nat.reduceEqDiff, reduceCtorEq, argEnv, eq_self, if_true, if_false, *])
          exact q_next (i + 1, X1, rv1) (by rfl) rfl ⟨by omega, by simp only [hst]; exact O1⟩ (by simp only; omega) fun r h => h
    · have hii : ¬ (i : Int) < (ks.length : Int) := by omega
      rw [List.take_of_length_le (by omega)] at hO
      simp only [c31_l0, hE, hii, hlen, evX, Int.reduceEq, Int.reduceLT, Int.reduceLE, Nat.reduceMul, Nat.reduceMod, evW, fn_eq, evR, Nat.reduceAdd, Nat.reduceLT, Nat.reduceLeDiff, reduceIte, Nat.reduceEqDiff, reduceCtorEq, argEnv, eq_self, if_true, if_false]
      repeat' ((first | rw [guardK_cases] | rw [condK_bool] | rw [guardD_cases]); split <;> simp only [c31_l0, hE, hii, hlen, evX, Int.reduceEq, Int.reduceLT, Int.reduceLE, Nat.reduceMul, Nat.reduceMod, evW, evR, Nat.reduceAdd, Nat.reduceLT, Nat.reduceLeDiff, reduceIte, Nat.reduceEqDiff, reduceCtorEq, argEnv, eq_self, if_true, if_false, *])
      exact q_exit ⟨_, X, rv, rfl, by rfl, hO⟩
end Go.Proofs.Ytbchmbddcdionaa.Code

/- The law LogicJoins is true. -/
set_option linter.unusedSimpArgs false
set_option linter.unusedVariables false
namespace Go.Proofs.Ytbchmbddcdionaa.Code
open Go.Proofs.Ytbchmbddcdionaa.Ev

noncomputable def crossR (x : Pr) (i : Int) : List Int := if rootE x i = 0 then crC x (kidsR x i) else []
theorem root_ok {x : Pr} (h : x.Raw) {i : Int} (he : rootE x i = 0) : ∃ (j : Nat) (u : Item), i = (j : Int) ∧ x.g[j]? = some u ∧ u.type = 0 ∧ x.Ok ∧ kidsR x i = kids x (keyOf (rootTy x.b) u.data) := by
  have he0 := he
  unfold rootE at he
  split at he
  case isFalse h0 => exact absurd he h0
  rename_i h0
  split at he
  case isFalse => cases he
  rename_i hr
  obtain ⟨j, u, rfl, hu, ht⟩ := isRt_at hr
  exact ⟨j, u, rfl, hu, ht, (ask_ok h h0).1, by unfold kidsR; rw [if_pos he0, dat_at hu]⟩
theorem f30 (x : Pr) (h : x.Raw) (i : Int) (H : Heap) : cal (evC cprog) true 30 [eBase x.a, eBase x.b, eLink x.l, eItems x.f, eItems x.g, .int .i64 i] H = some (eIE (crossR x i) (rootE x i), H) := by
  rw [cal_of at30]
  by_cases he : rootE x i = 0
  · have h50 := f50_ok x h i he
    obtain ⟨j, u, rfl, hu, ht, hok, hkd⟩ := root_ok h he
    have h38 := f38 x hok j u hu ht (H.length + 12) (H ++ [bBase x.a, bBase x.b, bLink x.l, bBase x.a, bBase x.b, bLink x.l, bBase x.a, bBase x.b, bLink x.l, bBase x.a, bBase x.b, bLink x.l, bPair x]) (Sits.mk (by simp))
    have hkl := kids_len x (keyOf (rootTy x.b) u.data)
    have hfl := hok.rf.len
    rw [show crossR x (j : Int) = crC x (kids x (keyOf (rootTy x.b) u.data)) by unfold crossR; rw [if_pos he, hkd], he]
    obtain ⟨K, hK⟩ : ∃ K : Heap, K = H ++ [bBase x.a, bBase x.b, bLink x.l, bBase x.a, bBase x.b, bLink x.l, bBase x.a, bBase x.b, bLink x.l, bBase x.a, bBase x.b, bLink x.l, bPair x] := ⟨_, rfl⟩
    have kl : K.length = H.length + 13 := by rw [hK]; simp
    have kt : ∀ Z, (K ++ Z).take H.length = H := fun Z => by rw [hK]; simp
    have kb : ∀ Z, (K ++ Z)[H.length]? = some (bBase x.a) := fun Z => by rw [hK]; simp
    have hlp := l30 x hok.rf (kids x (keyOf (rootTy x.b) u.data)) (fun k hk => kids_in x _ hk) (by omega) K H.length kb
    have hln := (sIs [] (kids x (keyOf (rootTy x.b) u.data))).len
    simp only [List.length_map] at hln
    simp only [eBase, eLink, bBase, bLink, bPair] at h50 h38 hK
    generalize kids x (keyOf (rootTy x.b) u.data) = ks at *
    simp only [c30, eBase, eLink, h50, h38, hln, evX, Int.reduceEq, Int.reduceLT, Int.reduceLE, Nat.reduceMul, Nat.reduceMod, evW, fn_eq, evR, Nat.reduceAdd, Nat.reduceLT, Nat.reduceLeDiff, reduceIte, Nat.reduceEqDiff, reduceCtorEq, argEnv, eq_self, if_true, if_false]
    repeat' ((first | rw [guardK_cases] | rw [condK_bool] | rw [guardD_cases]); split <;> simp only [c30, eBase, eLink, h50, h38, hln, evX, Int.reduceEq, Int.reduceLT, Int.reduceLE, Nat.reduceMul, Nat.reduceMod, evW, evR, Nat.reduceAdd, Nat.reduceLT, Nat.reduceLeDiff, reduceIte, Nat.reduceEqDiff, reduceCtorEq, argEnv, eq_self, if_true, if_false, *])
    generalize hz : itLim _ _ = z
    obtain ⟨T, X, rv, rfl, hT, hO⟩ := hlp _ (by rfl) (by rw [hK]) z hz
    clear hz hlp
    obtain ⟨ids, g1, g2, g3⟩ := fz_out' hO K rfl (plain_ints _)
    have hsc := out_tup hO
    have ht := kt X
    generalize K ++ X = Z at *
    simp only [hT, hsc, evX, Int.reduceEq, Int.reduceLT, Int.reduceLE, Nat.reduceMul, Nat.reduceMod, evW, fn_eq, evR, Nat.reduceAdd, Nat.reduceLT, Nat.reduceLeDiff, reduceIte, Nat.reduceEqDiff, reduceCtorEq, argEnv, eq_self, if_true, if_false]
    repeat' ((first | rw [guardK_cases] | rw [condK_bool] | rw [guardD_cases]); split <;> simp only [hT, hsc, evX, Int.reduceEq, Int.reduceLT, Int.reduceLE, Nat.reduceMul, Nat.reduceMod, evW, evR, Nat.reduceAdd, Nat.reduceLT, Nat.reduceLeDiff, reduceIte, Nat.reduceEqDiff, reduceCtorEq, argEnv, eq_self, if_true, if_false, *])
    exact frz_two g1 g3 ht (fun k hk => by have := g2 k hk; omega) _ _
  · have h50 := f50_err x h i he
    simp only [eBase, eLink] at h50
    rw [show crossR x i = [] from if_neg he]
    simp only [c30, eBase, eLink, h50, he, evX, Int.reduceEq, Int.reduceLT, Int.reduceLE, Nat.reduceMul, Nat.reduceMod, evW, fn_eq, evR, Nat.reduceAdd, Nat.reduceLT, Nat.reduceLeDiff, reduceIte, Nat.reduceEqDiff, reduceCtorEq, argEnv, eq_self, if_true, if_false]
    repeat' ((first | rw [guardK_cases] | rw [condK_bool] | rw [guardD_cases]); split <;> simp only [c30, eBase, eLink, h50, he, evX, Int.reduceEq, Int.reduceLT, Int.reduceLE, Nat.reduceMul, Nat.reduceMod, evW, evR, Nat.reduceAdd, Nat.reduceLT, Nat.reduceLeDiff, reduceIte, Nat.reduceEqDiff, reduceCtorEq, argEnv, eq_self, if_true, if_false, *])
    exact frz_two (fz_nils _) rfl (by simp) (by simp) _ _
theorem f31 (x : Pr) (h : x.Raw) (i : Int) (H : Heap) : cal (evC cprog) true 31 [eBase x.a, eBase x.b, eLink x.l, eItems x.f, eItems x.g, .int .i64 i] H = some (eIE (crossR x i) (rootE x i), H) := by
  rw [cal_of at31]
  have h23 := f23 x h i
  by_cases he : rootE x i = 0
  · obtain ⟨j, u, rfl, hu, ht, hok, hkd⟩ := root_ok h he
    have hkl := kids_len x (keyOf (rootTy x.b) u.data)
    have hfl := hok.rf.len
    rw [show crossR x (j : Int) = crL x (kids x (keyOf (rootTy x.b) u.data)) by unfold crossR; rw [if_pos he, hkd, cr_same hok.rf], he]
    obtain ⟨K, hK⟩ : ∃ K : Heap, K = H ++ [bBase x.a, bBase x.b, bLink x.l] := ⟨_, rfl⟩
    have kl : K.length = H.length + 3 := by rw [hK]; simp
    have kt : ∀ Z, (K ++ Z).take H.length = H := fun Z => by rw [hK]; simp
    have kb : ∀ Z, (K ++ Z)[H.length]? = some (bBase x.a) := fun Z => by rw [hK]; simp
    have hlp := l31 x hok.rf (kids x (keyOf (rootTy x.b) u.data)) (fun k hk => kids_in x _ hk) (by omega) K H.length kb
    rw [he, hkd] at h23
    simp only [eBase, eLink, bBase, bLink, eIE] at h23 hK
    generalize kids x (keyOf (rootTy x.b) u.data) = ks at *
    simp only [c31, eBase, eLink, h23, evX, Int.reduceEq, Int.reduceLT, Int.reduceLE, Nat.reduceMul, Nat.reduceMod, evW, fn_eq, evR, Nat.reduceAdd, Nat.reduceLT, Nat.reduceLeDiff, reduceIte, Nat.reduceEqDiff, reduceCtorEq, argEnv, eq_self, if_true, if_false]
    repeat' ((first | rw [guardK_cases] | rw [condK_bool] | rw [guardD_cases]); split <;> simp only [c31, eBase, eLink, h23, evX, Int.reduceEq, Int.reduceLT, Int.reduceLE, Nat.reduceMul, Nat.reduceMod, evW, evR, Nat.reduceAdd, Nat.reduceLT, Nat.reduceLeDiff, reduceIte, Nat.reduceEqDiff, reduceCtorEq, argEnv, eq_self, if_true, if_false, *])
    generalize hz : itLim _ _ = z
    obtain ⟨T, X, rv, rfl, hT, hO⟩ := hlp _ (by rfl) (by rw [hK]) z hz
    clear hz hlp
    obtain ⟨ids, g1, g2, g3⟩ := fz_out' hO K rfl (plain_ints _)
    have hsc := out_tup hO
    have ht := kt X
    generalize K ++ X = Z at *
    simp only [hT, hsc, evX, Int.reduceEq, Int.reduceLT, Int.reduceLE, Nat.reduceMul, Nat.reduceMod, evW, fn_eq, evR, Nat.reduceAdd, Nat.reduceLT, Nat.reduceLeDiff, reduceIte, Nat.reduceEqDiff, reduceCtorEq, argEnv, eq_self, if_true, if_false]
    repeat' ((first | rw [guardK_cases] | rw [condK_bool] | rw [guardD_cases]); split <;> simp only [hT, hsc, evX, Int.reduceEq, Int.reduceLT, Int.reduceLE, Nat.reduceMul, Nat.reduceMod, evW, evR, Nat.reduceAdd, Nat.reduceLT, Nat.reduceLeDiff, reduceIte, Nat.reduceEqDiff, reduceCtorEq, argEnv, eq_self, if_true, if_false, *])
    exact frz_two g1 g3 ht (fun k hk => by have := g2 k hk; omega) _ _
  · rw [show crossR x i = [] from if_neg he]
    rw [show kidsR x i = [] from if_neg he] at h23
    simp only [eBase, eLink, eIE] at h23
    simp only [c31, eBase, eLink, h23, he, evX, Int.reduceEq, Int.reduceLT, Int.reduceLE, Nat.reduceMul, Nat.reduceMod, evW, fn_eq, evR, Nat.reduceAdd, Nat.reduceLT, Nat.reduceLeDiff, reduceIte, Nat.reduceEqDiff, reduceCtorEq, argEnv, eq_self, if_true, if_false]
    repeat' ((first | rw [guardK_cases] | rw [condK_bool] | rw [guardD_cases]); split <;> simp only [c31, eBase, eLink, h23, he, evX, Int.reduceEq, Int.reduceLT, Int.reduceLE, Nat.reduceMul, Nat.reduceMod, evW, evR, Nat.reduceAdd, Nat.reduceLT, Nat.reduceLeDiff, reduceIte, Nat.reduceEqDiff, reduceCtorEq, argEnv, eq_self, if_true, if_false, *])
    exact frz_two (fz_nils _) rfl (by simp) (by simp) _ _
theorem crossR_len {x : Pr} (h : x.Raw) (i : Int) : (crossR x i).length < 9223372036854775807 := by
  unfold crossR
  split
  · have := crC_len x (kidsR x i)
    have := kidsR_len h i
    omega
  · simp
theorem f7 (x : Pr) (h : x.Raw) (n m : Int) : ∃ H', evC cprog 7 [eTwo x, .agg [.int .i64 n, .int .i64 m]] [] = some (.bool true, H') := by
  obtain ⟨s, h9, _⟩ := f9 x h [bTwo x, ⟨0, true, 50, 2, [[.int .i64 n, .int .i64 m]]⟩]
  have h10 := f10
  have h28 := f28 x h n
  have h29 := f29 x h n
  have h30 := f30 x h m
  have h31 := f31 x h m
  have s1 := f24 (crossR x m) (crossR_len h m)
  simp only [eBase, eLink, eTwo, bTwo, eIE] at h9 h28 h29 h30 h31
  rw [evC_fn at7]
  cases s with
  | false =>
    simp only [c7, eTwo, h9, h10, beq_self_eq_true, evX, Int.reduceEq, Int.reduceLT, Int.reduceLE, Nat.reduceMul, Nat.reduceMod, evW, fn_eq, evR, Nat.reduceAdd, Nat.reduceLT, Nat.reduceLeDiff, reduceIte, Nat.reduceEqDiff, reduceCtorEq, argEnv, eq_self, if_true, if_false]
    repeat' ((first | rw [guardK_cases] | rw [condK_bool] | rw [guardD_cases]); split <;> simp only [c7, eTwo, h9, h10, beq_self_eq_true, evX, Int.reduceEq, Int.reduceLT, Int.reduceLE, Nat.reduceMul, Nat.reduceMod, evW, evR, Nat.reduceAdd, Nat.reduceLT, Nat.reduceLeDiff, reduceIte, Nat.reduceEqDiff, reduceCtorEq, argEnv, eq_self, if_true, if_false, *])
    all_goals exact ⟨_, rfl⟩
  | true =>
    simp only [c7, eTwo, h9, h10, h28, h29, h30, h31, s1, beq_self_eq_true, evX, Int.reduceEq, Int.reduceLT, Int.reduceLE, Nat.reduceMul, Nat.reduceMod, evW, fn_eq, evR, Nat.reduceAdd, Nat.reduceLT, Nat.reduceLeDiff, reduceIte, Nat.reduceEqDiff, reduceCtorEq, argEnv, eq_self, if_true, if_false]
    repeat' ((first | rw [guardK_cases] | rw [condK_bool] | rw [guardD_cases]); split <;> simp only [c7, eTwo, h9, h10, h28, h29, h30, h31, s1, beq_self_eq_true, evX, Int.reduceEq, Int.reduceLT, Int.reduceLE, Nat.reduceMul, Nat.reduceMod, evW, evR, Nat.reduceAdd, Nat.reduceLT, Nat.reduceLeDiff, reduceIte, Nat.reduceEqDiff, reduceCtorEq, argEnv, eq_self, if_true, if_false, *])
    all_goals exact ⟨_, rfl⟩
end Go.Proofs.Ytbchmbddcdionaa.Code
namespace Go.Proofs.Ytbchmbddcdionaa.Pure
open Go.Proofs.Ytbchmbddcdionaa.Ev Go.Proofs.Ytbchmbddcdionaa.Code
theorem LogicJoins (a0 : AV) (t0 : ArgTy true [.str, .int .i64, .sl [.str, .int .i64, .int .i64, .int .i64, .sl [.str, .int .i64, .int .i64], .int .i64, .bool, .bool], .sl [.str, .int .i64, .int .i64, .str], .str, .int .i64, .sl [.str, .int .i64, .int .i64, .int .i64, .sl [.str, .int .i64, .int .i64], .int .i64, .bool, .bool], .sl [.str, .int .i64, .int .i64, .str], .int .i64, .int .i64, .str, .sl [.int .i64, .str], .sl [.int .i64, .str]] a0) (a1 : AV) (t1 : ArgTy true [.int .i64, .int .i64] a1) : ∃ H', evC cprog 7 [a0, a1] [] = some (.bool true, H') := by
  obtain ⟨x, rfl, hx⟩ := open_Two t0
  obtain ⟨n, m, rfl⟩ := open_2 t1
  exact f7 x hx n m
end Go.Proofs.Ytbchmbddcdionaa.Pure

