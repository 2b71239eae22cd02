/- plain: which bases are valid, as the document asks. -/
import Derived.Test.YtcbmakanokmdjaaRi
set_option linter.unusedSimpArgs false
set_option linter.unusedVariables false
namespace Go.Proofs.Ytcbmakanokmdjaa.Code
open Go.Proofs.Ytcbmakanokmdjaa.Ev

theorem good_of {ts : List Ty} {n : Nat} (h : ∀ j t, j < n → ts[j]? = some t → tyAt ts j t = true) : Good ts n := fun j t hj ht => by
  by_cases h0 : j = 0
  · subst h0; have := parent_root (h 0 t hj ht); omega
  · obtain ⟨p, h1, h2, _⟩ := parent_of (h j t hj ht) h0; omega
theorem last_anc (ts : List Ty) (k : Nat) : (anc ts k).dropLast ++ [(k : Int)] = anc ts k := by
  rw [anc]
  split
  · split <;> simp
  · simp
theorem mem_anc (ts : List Ty) (k : Nat) (a : Int) : a ∈ anc ts k ↔ a ∈ (anc ts k).dropLast ∨ a = (k : Int) := by
  conv => lhs; rw [← last_anc]
  simp
theorem l34a (b : Base) (t : Ty) (i : Nat) (hi : i < b.types.length) (hl : b.types.length < 9223372036854775807) (H : Heap) (b1 b2 : Nat) (h1 : Sits H b1 (bBase b)) (h2 : Sits H b2 (bTy t)) (st : St) (G : Heap)
    (hE : keepEnv st.1 [1, 3, 4, 5] = [(1, .ptr b1 0 4 0 0), (3, .int .i64 (i : Int)), (4, .ptr b2 0 8 0 0), (5, .int .i64 0)]) (hH : st.2 = H ++ ([] ++ G)) (z : Option (CX × St)) (hz : itLim (evCode (evC cprog) itLim c34_l0) st = z) :
    ((b.types.take i).any (fun g => decide (g.name = t.name)) = false ∧ Lv H [] (fun c T => c = .exit 2 ∧ keepEnv T [1, 3, 4] = [(1, .ptr b1 0 4 0 0), (3, .int .i64 (i : Int)), (4, .ptr b2 0 8 0 0)]) z) ∨
    ((b.types.take i).any (fun g => decide (g.name = t.name)) = true ∧ Lv H [] (fun c T => c = .ret ∧ get T 2 = some (.bool false)) z) := by
  have L := all_rule (b.types.take i) (fun g => !decide (g.name = t.name)) [1, 3, 4, 5] (fun k => [(1, .ptr b1 0 4 0 0), (3, .int .i64 (i : Int)), (4, .ptr b2 0 8 0 0), (5, .int .i64 (k : Int))]) H [] (evCode (evC cprog) itLim c34_l0)
    (fun c T => c = .exit 2 ∧ keepEnv T [1, 3, 4] = [(1, .ptr b1 0 4 0 0), (3, .int .i64 (i : Int)), (4, .ptr b2 0 8 0 0)]) (fun c T => c = .ret ∧ get T 2 = some (.bool false))
    (fun k g hg E G hE => by
      have hk : k < i := by have := (List.getElem?_eq_some_iff.1 hg).1; rw [List.length_take] at this; omega
      rw [List.getElem?_take, if_pos hk] at hg
      have hki : (k : Int) < (i : Int) := by omega
      have ha := aTy hg
      simp only [bTy, bBase, rTy, Sits] at h1 h2
      simp only [c34_l0, hE, hki, ha, h1, h2, rTy, wrapS hk (by omega), evX, Int.reduceEq, Int.reduceLT, Int.reduceLE, Nat.reduceMul, Nat.reduceMod, evW, fn_eq, evR, Nat.reduceAdd, Nat.reduceLT, Nat.reduceLeDiff, reduceIte, Nat.reduceEqDiff, reduceCtorEq, argEnv, eq_self, if_true, if_false]
      repeat' ((first | rw [guardK_cases] | rw [condK_bool] | rw [guardD_cases]); split <;> simp only [c34_l0, hE, hki, ha, h1, h2, rTy, wrapS hk (by omega), evX, Int.reduceEq, Int.reduceLT, Int.reduceLE, Nat.reduceMul, Nat.reduceMod, evW, evR, Nat.reduceAdd, Nat.reduceLT, Nat.reduceLeDiff, reduceIte, Nat.reduceEqDiff, reduceCtorEq, argEnv, eq_self, if_true, if_false, *])
      all_goals first | exact Sc.next (by first | (simp_all [eq_comm]; done) | (simp_all [eq_comm]; intros; omega)) (by rfl) | exact Sc.ret (by first | (simp_all [eq_comm]; done) | (simp_all [eq_comm]; intros; omega)) ⟨rfl, by first | rfl | exact ⟨rfl, rfl, rfl⟩⟩ | exact Sc.exit (by first | (simp_all [eq_comm]; done) | (simp_all [eq_comm]; intros; omega)) ⟨rfl, rfl⟩)
    (fun E G hE => by
      rw [List.length_take, Nat.min_eq_left (by omega)] at hE
      simp only [c34_l0, hE, Int.lt_irrefl, evX, Int.reduceEq, Int.reduceLT, Int.reduceLE, Nat.reduceMul, Nat.reduceMod, evW, fn_eq, evR, Nat.reduceAdd, Nat.reduceLT, Nat.reduceLeDiff, reduceIte, Nat.reduceEqDiff, reduceCtorEq, argEnv, eq_self, if_true, if_false]
      repeat' ((first | rw [guardK_cases] | rw [condK_bool] | rw [guardD_cases]); split <;> simp only [c34_l0, hE, Int.lt_irrefl, evX, Int.reduceEq, Int.reduceLT, Int.reduceLE, Nat.reduceMul, Nat.reduceMod, evW, evR, Nat.reduceAdd, Nat.reduceLT, Nat.reduceLeDiff, reduceIte, Nat.reduceEqDiff, reduceCtorEq, argEnv, eq_self, if_true, if_false, *])
      exact .exit (K := []) ⟨rfl, by rfl⟩) st G hE hH z hz
  rcases L with ⟨h, L⟩ | ⟨h, L⟩
  · refine .inl ⟨?_, L⟩
    rw [List.any_eq_false]; intro x hx
    have := List.all_eq_true.1 h x hx
    simpa using this
  · refine .inr ⟨?_, L⟩
    obtain ⟨x, hx, h⟩ := List.all_eq_false.1 h
    rw [List.any_eq_true]; exact ⟨x, hx, by simpa using h⟩
theorem l34b (b : Base) (t : Se) (i : Nat) (hi : i < b.indexes.length) (hl : b.indexes.length < 9223372036854775807) (H : Heap) (b1 b2 : Nat) (h1 : Sits H b1 (bBase b)) (h2 : Sits H b2 (bSe t)) (st : St) (G : Heap)
    (hE : keepEnv st.1 [1, 6, 7, 8] = [(1, .ptr b1 0 4 0 0), (6, .int .i64 (i : Int)), (7, .ptr b2 0 4 0 0), (8, .int .i64 0)]) (hH : st.2 = H ++ ([] ++ G)) (z : Option (CX × St)) (hz : itLim (evCode (evC cprog) itLim c34_l2) st = z) :
    ((b.indexes.take i).any (fun g => decide (g.name = t.name)) = false ∧ Lv H [] (fun c T => c = .exit 6 ∧ keepEnv T [1, 6] = [(1, .ptr b1 0 4 0 0), (6, .int .i64 (i : Int))]) z) ∨
    ((b.indexes.take i).any (fun g => decide (g.name = t.name)) = true ∧ Lv H [] (fun c T => c = .ret ∧ get T 2 = some (.bool false)) z) := by
  have L := all_rule (b.indexes.take i) (fun g => !decide (g.name = t.name)) [1, 6, 7, 8] (fun k => [(1, .ptr b1 0 4 0 0), (6, .int .i64 (i : Int)), (7, .ptr b2 0 4 0 0), (8, .int .i64 (k : Int))]) H [] (evCode (evC cprog) itLim c34_l2)
    (fun c T => c = .exit 6 ∧ keepEnv T [1, 6] = [(1, .ptr b1 0 4 0 0), (6, .int .i64 (i : Int))]) (fun c T => c = .ret ∧ get T 2 = some (.bool false))
    (fun k g hg E G hE => by
      have hk : k < i := by have := (List.getElem?_eq_some_iff.1 hg).1; rw [List.length_take] at this; omega
      rw [List.getElem?_take, if_pos hk] at hg
      have hki : (k : Int) < (i : Int) := by omega
      have ha := aSe hg
      simp only [bSe, bBase, rSe, Sits] at h1 h2
      simp only [c34_l2, hE, hki, ha, h1, h2, rSe, wrapS hk (by omega), evX, Int.reduceEq, Int.reduceLT, Int.reduceLE, Nat.reduceMul, Nat.reduceMod, evW, fn_eq, evR, Nat.reduceAdd, Nat.reduceLT, Nat.reduceLeDiff, reduceIte, Nat.reduceEqDiff, reduceCtorEq, argEnv, eq_self, if_true, if_false]
      repeat' ((first | rw [guardK_cases] | rw [condK_bool] | rw [guardD_cases]); split <;> simp only [c34_l2, hE, hki, ha, h1, h2, rSe, wrapS hk (by omega), evX, Int.reduceEq, Int.reduceLT, Int.reduceLE, Nat.reduceMul, Nat.reduceMod, evW, evR, Nat.reduceAdd, Nat.reduceLT, Nat.reduceLeDiff, reduceIte, Nat.reduceEqDiff, reduceCtorEq, argEnv, eq_self, if_true, if_false, *])
      all_goals first | exact Sc.next (by first | (simp_all [eq_comm]; done) | (simp_all [eq_comm]; intros; omega)) (by rfl) | exact Sc.ret (by first | (simp_all [eq_comm]; done) | (simp_all [eq_comm]; intros; omega)) ⟨rfl, by first | rfl | exact ⟨rfl, rfl, rfl⟩⟩ | exact Sc.exit (by first | (simp_all [eq_comm]; done) | (simp_all [eq_comm]; intros; omega)) ⟨rfl, rfl⟩)
    (fun E G hE => by
      rw [List.length_take, Nat.min_eq_left (by omega)] at hE
      simp only [c34_l2, hE, Int.lt_irrefl, evX, Int.reduceEq, Int.reduceLT, Int.reduceLE, Nat.reduceMul, Nat.reduceMod, evW, fn_eq, evR, Nat.reduceAdd, Nat.reduceLT, Nat.reduceLeDiff, reduceIte, Nat.reduceEqDiff, reduceCtorEq, argEnv, eq_self, if_true, if_false]
      repeat' ((first | rw [guardK_cases] | rw [condK_bool] | rw [guardD_cases]); split <;> simp only [c34_l2, hE, Int.lt_irrefl, evX, Int.reduceEq, Int.reduceLT, Int.reduceLE, Nat.reduceMul, Nat.reduceMod, evW, evR, Nat.reduceAdd, Nat.reduceLT, Nat.reduceLeDiff, reduceIte, Nat.reduceEqDiff, reduceCtorEq, argEnv, eq_self, if_true, if_false, *])
      exact .exit (K := []) ⟨rfl, by rfl⟩) st G hE hH z hz
  rcases L with ⟨h, L⟩ | ⟨h, L⟩
  · refine .inl ⟨?_, L⟩
    rw [List.any_eq_false]; intro x hx
    have := List.all_eq_true.1 h x hx
    simpa using this
  · refine .inr ⟨?_, L⟩
    obtain ⟨x, hx, h⟩ := List.all_eq_false.1 h
    rw [List.any_eq_true]; exact ⟨x, hx, by simpa using h⟩
end Go.Proofs.Ytcbmakanokmdjaa.Code
