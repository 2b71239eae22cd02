/- plain: the way to a type, as the document asks. -/
import Derived.Test.YtcbmakanokmdjaaRh
set_option linter.unusedSimpArgs false
set_option linter.unusedVariables false
namespace Go.Proofs.Ytcbmakanokmdjaa.Code
open Go.Proofs.Ytcbmakanokmdjaa.Ev

theorem out_src {n sz ty : Nat} {X : Heap} {rv : AV} {rows : List (List AV)} (h : Out n sz ty X rv rows) (H0 : Heap) (hn : n = H0.length) : srcRows (H0 ++ X) rv = some rows := by
  subst hn
  rcases h with ⟨rfl, rfl | rfl⟩ | ⟨h1, j, v, rfl, h3⟩
  · rfl
  · rfl
  · cases rows with
    | nil => exact absurd rfl h1
    | cons r rs => simp [srcRows, rowsOf, curBlk, at_app, h3]
theorem fz_rI (l : List Int) : ∀ r ∈ l.map rI, ∀ a ∈ r, noRef0 a = true ∧ ∀ m H, fz H (m + 1) a = some (a, []) := by
  intro r hr a ha
  obtain ⟨n, _, rfl⟩ := List.mem_map.1 hr
  obtain rfl : a = .int .i64 n := by simpa [rI] using ha
  exact ⟨rfl, fun _ _ => rfl⟩
theorem fz_rItem (l : List Item) : ∀ r ∈ l.map rItem, ∀ a ∈ r, noRef0 a = true ∧ ∀ m H, fz H (m + 1) a = some (a, []) := by
  intro r hr a ha
  obtain ⟨n, _, rfl⟩ := List.mem_map.1 hr
  simp only [rItem, List.mem_cons, List.not_mem_nil, or_false] at ha
  rcases ha with rfl | rfl <;> exact ⟨rfl, fun _ _ => rfl⟩
/-- a function's result is what has grown: frozen -/
theorem frz_out {n sz ty : Nat} {X : Heap} {rv : AV} {rows : List (List AV)} (h : Out n sz ty X rv rows) (H K : Heap) (hn : n = (H ++ K).length) (hr : ∀ r ∈ rows, ∀ a ∈ r, noRef0 a = true ∧ ∀ m H, fz H (m + 1) a = some (a, [])) :
    calK true H (some (rv, H ++ (K ++ X))) = some (.lst rows, H) := by
  obtain ⟨ids, h1, h2⟩ := fz_out h (H ++ K) hn hr 6
  refine calK_frz (ids := ids) ?_ rfl (by simp) (fun b hb => ?_)
  · have : fzRes (H ++ (K ++ X)) rv = fz (H ++ (K ++ X)) fzDepth rv := by
      rcases h with ⟨rfl, rfl | rfl⟩ | ⟨_, j, v, rfl, _⟩ <;> rfl
    rw [this, ← List.append_assoc]; exact h1
  · have := h2 b hb
    rw [hn, List.length_append] at this; omega
theorem f63 (b : Base) (n : Nat) (hg : Good b.types n) (hn : n ≤ b.types.length) (hn8 : n ≤ 1000) (k : Nat) (hk : k < n) (H : Heap) :
    cal (evC cprog) true 63 [eBase b, .int .i64 (k : Int)] H = some (eIs (anc b.types k), H) := by
  rw [cal_of at63]
  simp only [c63, eBase, evX, Int.reduceEq, Int.reduceLT, Int.reduceLE, Nat.reduceMul, Nat.reduceMod, evW, fn_eq, evR, Nat.reduceAdd, Nat.reduceLT, Nat.reduceLeDiff, reduceIte, Nat.reduceEqDiff, reduceCtorEq, argEnv, eq_self, if_true, if_false]
  repeat' ((first | rw [guardK_cases] | rw [condK_bool] | rw [guardD_cases]); split <;> simp only [c63, eBase, evX, Int.reduceEq, Int.reduceLT, Int.reduceLE, Nat.reduceMul, Nat.reduceMod, evW, evR, Nat.reduceAdd, Nat.reduceLT, Nat.reduceLeDiff, reduceIte, Nat.reduceEqDiff, reduceCtorEq, argEnv, eq_self, if_true, if_false, *])
  generalize hz : itLim _ _ = z
  have key : ∀ H' : Heap, H'.length = H.length + 1 → Sits H' H.length (bBase b) → ∀ st : St, keepEnv st.1 [1, 2, 5] = [(1, .int .i64 (k : Int)), (2, .ptr H.length 0 4 0 0), (5, .nils)] → st.2 = H' ++ [] → ∀ z, itLim (evCode (evC cprog) itLim c63_l0) st = z →
      ∃ T X rv, z = some (.exit 0, T, H' ++ X) ∧ keepEnv T [5] = [(5, rv)] ∧ Out H'.length 1 3 X rv ((anc b.types k).map rI) := by
    intro H' hl hs st h1 h2 z hz
    simp only [bBase, Sits] at hs
    have L := loop_rule (σ := Int × List Int × Heap × AV) (m := [1, 2, 5]) (env := fun s => [(1, .int .i64 s.1), (2, .ptr H.length 0 4 0 0), (5, s.2.2.2)]) (hp := fun s => H' ++ s.2.2.1)
      (P := fun s r => ∃ T X rv, r = (.exit 0, T, H' ++ X) ∧ keepEnv T [5] = [(5, rv)] ∧ Out H'.length 1 3 X rv ((ancI b.types s.1 ++ s.2.1).map rI))
      (mu := fun s => (s.1 + 1).toNat) (I := fun s => -1 ≤ s.1 ∧ s.1 < (n : Int) ∧ s.2.1.length + s.1 + 1 ≤ 1000 ∧ Out H'.length 1 3 s.2.2.1 s.2.2.2 (s.2.1.map rI)) (evCode (evC cprog) itLim c63_l0) ?_ ((k : Int), [], [], .nils) st ⟨by simp only; omega, by simp only; omega, by simp only [List.length_nil]; omega, .nils ..⟩ h1 h2 z hz
    · obtain ⟨_, rfl, T, X, rv, rfl, hT, hO⟩ := L
      exact ⟨T, X, rv, rfl, hT, by simpa [ancI_nat] using hO⟩
    · intro ⟨t, rest, X, rv⟩ ⟨i1, i2, i3, hO⟩ E hE
      simp only at i1 i2 i3 hO hE ⊢
      by_cases h0 : 0 ≤ t
      · obtain ⟨j, rfl⟩ : ∃ j : Nat, t = (j : Int) := ⟨t.toNat, by omega⟩
        obtain ⟨t, ht⟩ : ∃ t, b.types[j]? = some t := ⟨_, List.getElem?_eq_getElem (by omega)⟩
        have ha := aTy ht
        have hgt := hg j t (by omega) ht
        have hst := anc_step hg (by omega) ht
        have hO1 := hO.more [⟨0, true, 3, 1, [[.int .i64 (j : Int)]]⟩]
        have hO2 : Out H'.length 1 3 (X ++ [⟨0, true, 3, 1, [[.int .i64 (j : Int)]]⟩]) (.ref (H'.length + X.length) 0 1 0 1) [rI (j : Int)] := .inr ⟨by simp, X.length, 0, rfl, by simp [rI]⟩
        have hsrc := out_src hO1 H' rfl
        have hap : ∃ rv' X', appK 3 1 8 false (H' ++ (X ++ [⟨0, true, 3, 1, [[.int .i64 (j : Int)]]⟩])) (some (.ref (H'.length + X.length) 0 1 0 1)) (some rv) = some (rv', H' ++ X') ∧ Out H'.length 1 3 X' rv' (((j : Int) :: rest).map rI) := by
          rw [out_app hO2 8 H' rfl, hsrc]
          cases rest with
          | nil => exact ⟨_, _, rfl, hO2⟩
          | cons r rs =>
            rw [List.map_cons, apO_cons, if_pos (by simp [rI, reach] at *; omega)]
            exact ⟨_, _, rfl, hO2.step (by simp)⟩
        obtain ⟨rv', X', ha1, ha2⟩ := hap
        simp only [c63_l0, hE, h0, ha, hs, rTy, ha1, out_tup ha2, evX, Int.reduceEq, Int.reduceLT, Int.reduceLE, Nat.reduceMul, Nat.reduceMod, evW, fn_eq, evR, Nat.reduceAdd, Nat.reduceLT, Nat.reduceLeDiff, reduceIte, Nat.reduceEqDiff, reduceCtorEq, argEnv, eq_self, if_true, if_false]
        repeat' ((first | rw [guardK_cases] | rw [condK_bool] | rw [guardD_cases]); split <;> simp only [c63_l0, hE, h0, ha, hs, rTy, ha1, out_tup ha2, evX, Int.reduceEq, Int.reduceLT, Int.reduceLE, Nat.reduceMul, Nat.reduceMod, evW, evR, Nat.reduceAdd, Nat.reduceLT, Nat.reduceLeDiff, reduceIte, Nat.reduceEqDiff, reduceCtorEq, argEnv, eq_self, if_true, if_false, *])
        refine q_next (t.parent, (j : Int) :: rest, X', rv') (by rfl) rfl ⟨by omega, by omega, by simp; omega, ha2⟩ (by simp only; omega) fun r h => ?_
        obtain ⟨T, X, rv, h1, h2, h3⟩ := h
        refine ⟨T, X, rv, h1, h2, ?_⟩
        rw [ancI_nat, hst]
        simpa using h3
      · simp only [c63_l0, hE, h0, evX, Int.reduceEq, Int.reduceLT, Int.reduceLE, Nat.reduceMul, Nat.reduceMod, evW, fn_eq, evR, Nat.reduceAdd, Nat.reduceLT, Nat.reduceLeDiff, reduceIte, Nat.reduceEqDiff, reduceCtorEq, argEnv, eq_self, if_true, if_false]
        repeat' ((first | rw [guardK_cases] | rw [condK_bool] | rw [guardD_cases]); split <;> simp only [c63_l0, hE, h0, evX, Int.reduceEq, Int.reduceLT, Int.reduceLE, Nat.reduceMul, Nat.reduceMod, evW, evR, Nat.reduceAdd, Nat.reduceLT, Nat.reduceLeDiff, reduceIte, Nat.reduceEqDiff, reduceCtorEq, argEnv, eq_self, if_true, if_false, *])
        exact q_exit ⟨_, _, _, rfl, by rfl, by rw [ancI_neg _ (by omega)]; exact hO⟩
  obtain ⟨T, X, rv, rfl, hT, hO⟩ := key (H ++ [bBase b]) (by simp) (.mk (by simp)) _ (by rfl) (by simp [bBase]) z hz
  simp only [hT, out_tup hO, evX, Int.reduceEq, Int.reduceLT, Int.reduceLE, Nat.reduceMul, Nat.reduceMod, evW, fn_eq, evR, Nat.reduceAdd, Nat.reduceLT, Nat.reduceLeDiff, reduceIte, Nat.reduceEqDiff, reduceCtorEq, argEnv, eq_self, if_true, if_false]
  repeat' ((first | rw [guardK_cases] | rw [condK_bool] | rw [guardD_cases]); split <;> simp only [hT, out_tup hO, evX, Int.reduceEq, Int.reduceLT, Int.reduceLE, Nat.reduceMul, Nat.reduceMod, evW, evR, Nat.reduceAdd, Nat.reduceLT, Nat.reduceLeDiff, reduceIte, Nat.reduceEqDiff, reduceCtorEq, argEnv, eq_self, if_true, if_false, *])
  exact frz_out hO H [bBase b] rfl (fz_rI _)
end Go.Proofs.Ytcbmakanokmdjaa.Code
